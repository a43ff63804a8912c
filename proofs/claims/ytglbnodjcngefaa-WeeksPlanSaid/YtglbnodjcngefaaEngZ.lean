/- The engine, part Z: a law's row out of its function's contract. -/
import Derived.Test.YtglbnodjcngefaaEngY
set_option linter.unusedSimpArgs false
set_option linter.unusedVariables false
namespace Go.Eng
open Go Go.ChangeShapes Go.WideShapes
/-- Behind a call that returns true and turns nothing that was there. -/
def TrueKept (W : World) : Ending → World → Prop := fun e w' => e = .returned (.bool true) ∧ Keep Emp W w'
theorem Sig.kept {P : Program} {f : FuncId} {svs : List SV} {X0 : List (Nat × Pred)} (h : Sig P f svs X0 (.b true) []) {W : World} {ν : Nat → Value} (hX : FactsOK ν (World.all W) X0) : Calls P f (svs.map (den0 ν)).toArray W (TrueKept W) := by
  have := h (World.all W) W ν (World.all_on W) hX
  refine callsIn_wide.1 (CallsIn.mono this ?_)
  rintro e w' ⟨I', us, rfl, hk, _⟩
  exact ⟨rfl, hk⟩
theorem lawLifted {C : Checked} {os : Os} {f : FuncId} {fn : Func} {H : Type} {enc : TypeId × Value → H} {s : ChangeSpec} {conds : List PathCond} {fresh : Bool} {tb : TypeId}
    (own : ownKnob C.prog.godebug = none) (started : os.Started) (noInit : C.prog.inits.idxOf? f = none) (hfn : C.prog.funcs[f]? = some fn)
    (witness : ∃ (w : World) (tape : Tape) (i : Input), w.os = os ∧ (w.forCall tape i).Shaped C.prog ∧ i.vars = [] ∧ Input.okWide C.prog (w.forCall tape i) .any w.heap.size f i ∧
      s.pre6 enc C.prog fn conds false (w.forCall tape i).memory i.args ∧ ({} : Assume).holds C.prog (lone (Frame.enter C.prog f i.args .normal) [] (w.forCall tape i)))
    (hl : laidOutB C.prog = true) (hr : fn.resultTypes = #[tb]) (hb : C.prog.underlying tb = some .bool) (hts : ∀ t ∈ fn.params.toList, C.prog.readableRec t = true ∧ t < C.prog.types.size) (hv : s.vars = [])
    (hs : ∀ ds : List (DataW H), ds.length = fn.params.size → s.fn H ds = { results := [.lit (.bool true)], args := ds })
    (contract : ∀ (W : World) (base : Nat) (args : Array Value) (ds : List (DataW H)) (p : List MemPlace), (∀ (j : Nat) t v, fn.params[j]? = some t → args[j]? = some v → Value.okWide C.prog W .any base t v) →
      DataW.TrodAll enc C.prog W 0 (fun _ => true) true fn.params.toList args.toList ds p → Calls C.prog f args W (TrueKept W)) :
    ReturnsInHanded {} C os f .any (s.pre6 enc C.prog fn conds false) (s.post enc C.prog fn false fresh false false) := by
  refine returnsInHanded_of_change own started noInit hfn witness ?_
  intro W base args ds gs before hval hW _ _
  obtain ⟨p, q, h1, h2, h3, h4, h5⟩ := id hW
  rw [hv] at h2
  obtain ⟨rfl, rfl⟩ := trodVars_none h2
  have hlen : ds.length = fn.params.size := by
    have key : ∀ {ts : List TypeId} {vs : List Value} {ds : List (DataW H)} {ps : List MemPlace}, DataW.TrodAll enc C.prog W 0 (fun _ => true) true ts vs ds ps → ds.length = ts.length := by
      intro ts
      induction ts with
      | nil => intro vs ds ps h; obtain ⟨_, rfl, _⟩ := trodAll_nil h; rfl
      | cons t ts ih =>
        intro vs ds ps h
        obtain ⟨v, vs', d, ds', p, q, rfl, rfl, rfl, _, h2⟩ := trodAll_cons h
        simp [ih h2]
    simpa using key h1
  refine (contract W base args ds p hval h1).mono ?_
  rintro e w' ⟨rfl, hk⟩
  exact ⟨_, rfl, law_post hl hr hb hts hv hW (by rw [List.append_nil]; exact hs ds hlen) hk⟩
theorem LeafOK.un0 {I : IH} {l : List Value} (h : LeafOK I l []) : l = [] := by
  cases l with
  | nil => rfl
  | cons _ _ => exact h.elim
theorem LeafOK.uni {I : IH} {l : List Value} {ls : List Leaf} (h : LeafOK I l (.i :: ls)) : ∃ n t, l = .int .i64 n :: t ∧ LeafOK I t ls := by
  cases l with
  | nil => exact h.elim
  | cons v t =>
    obtain ⟨⟨n, rfl⟩, h2⟩ := h
    exact ⟨n, t, rfl, h2⟩
theorem LeafOK.uns {I : IH} {l : List Value} {ls : List Leaf} {α : Type} {E : EP α} (h : LeafOK I l (.s E :: ls)) : ∃ v x t, l = v :: t ∧ (PL E x).h I v ∧ LeafOK I t ls := by
  cases l with
  | nil => exact h.elim
  | cons v t =>
    obtain ⟨⟨x, hx⟩, h2⟩ := h
    exact ⟨v, x, t, rfl, hx, h2⟩
end Go.Eng
