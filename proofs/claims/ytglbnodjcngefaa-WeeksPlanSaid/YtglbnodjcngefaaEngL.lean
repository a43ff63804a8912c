/- The engine, part L: ranges over functions. An iterator's contract: what it yields, and what it keeps; the loop's rounds. -/
import Derived.Test.YtglbnodjcngefaaEngK
import Derived.RangeFuncSeq
set_option linter.unusedSimpArgs false
set_option linter.unusedVariables false
namespace Go.Eng
open Go

/-- A word on the memory that an iterator's caller turns between its yields; F: of which blocks. -/
structure YI (n1 : Nat) where
  J : (Nat → Prop) → IH → World → Prop
  st : ∀ {F : Nat → Prop} {I I' : IH} {w w' : World}, Stab n1 (· < n1) F I I' w w' → J F I w → J F I' w'
  ft : ∀ {F : Nat → Prop} {I : IH} {w : World}, J F I w → ∀ b, F b → b < w.heap.size ∧ I b = none
def YI.xp {n1 : Nat} (Y : YI n1) (F : Nat → Prop) : XP := ⟨n1, (· < n1), F, Y.J F, Y.st⟩
/-- What is lent by a slice value: its own row. -/
def rd (w : World) (v : Value) : IH := fun b => if v.ownBlock = some b then w.heap[b]? else none
theorem rd_all {w : World} {v : Value} : (rd w v).le (World.all w) := fun b o h => by
  unfold rd at h; split at h; exact h; cases h
/-- What is yielded: values, with facts on those that are hidden; and such as lean on memory that is lent for the round alone. -/
structure Item where
  svs : List SV
  X : List (Nat × Pred)
  Lt : List (Nat × Pred)
def den0 (us : Nat → Value) : SV → Value := SV.den ⟨fun _ => 0, us, fun _ => true⟩
structure Item.ok (it : Item) (F : Nat → Prop) (I : IH) (w : World) (us : Nat → Value) (vs : List Value) : Prop where
  vs : vs = it.svs.map (den0 us)
  X : ∀ j R, look j it.X = some R → R.h I (us j)
  Lt : ∀ j R, look j it.Lt = some R → R.h (rd w (us j)) (us j) ∧ ∀ b, (us j).ownBlock = some b → b < w.heap.size ∧ ¬ F b
abbrev yv (l : Nat) : Value := .func (.yield l) #[] #[]
/-- What comes of a round. -/
def RoundR (P : Program) (l : Nat) (vs : List Value) (n1 : Nat) (F : Nat → Prop) (I : IH) (w : World) (Y K : YI n1) : Prop :=
  YieldAt (fen none) 0 P l vs.toArray w fun e w' => ∃ b F' I', e = .returned (.bool b) ∧ Keep F w w' ∧ I.le I' ∧ I'.on w' ∧ (∀ c o, I' c = some o → I c = some o ∨ w.heap.size ≤ c) ∧ (∀ c, F c → F' c) ∧ (∀ c, F' c → F c ∨ w.heap.size ≤ c) ∧ (bif b then Y else K).J F' I' w'
def ItR (I : IH) (w : World) (F0 : Nat → Prop) (ok : (Nat → Prop) → IH → World → Prop) : Ending → World → Prop := fun e w' =>
  ∃ v F' I', e = .returned v ∧ Keep F0 w w' ∧ I.le I' ∧ I'.on w' ∧ (∀ b o, I' b = some o → I b = some o ∨ w.heap.size ≤ b) ∧ ok F' I' w'
/-- **An iterator's contract**: it yields the items one by one, till it is told to stop. -/
def ItC (P : Program) (f : FuncId) (mk : Value → Array Value) (I : IH) (w : World) (items : List Item) : Prop :=
  ∀ (l : Nat) (Y : Nat → YI w.heap.size) (K : YI w.heap.size) (F0 : Nat → Prop), (Y 0).J F0 I w →
    (∀ i it, items[i]? = some it → ∀ F I' w' us vs, (Y i).J F I' w' → I.le I' → I'.on w' → w.heap.size ≤ w'.heap.size → (∀ b, F0 b → F b) → it.ok F I' w' us vs → RoundR P l vs w.heap.size F I' w' (Y (i + 1)) K) →
    CallsIn Fence.wide 0 P f (mk (yv l)) w (ItR I w F0 fun F' I' w' => (Y items.length).J F' I' w' ∨ K.J F' I' w')

/-! ### The iterator's side -/
def PostI (P : Program) (fn : Func) (R : Ending → World → Prop) : Exit → Act → World → Prop := bodyPostM (fen none) 0 P fn R
theorem It.intro {P : Program} {f : FuncId} {fn : Func} {c : Code} {args : Array Value} {I : IH} {w : World} {R : Ending → World → Prop} (hf : P.funcs[f]? = some fn) (hb : fn.body = some c) (hI : I.on w) {Y : YI w.heap.size} {F0 : Nat → Prop} (hY : Y.J F0 I w)
    (ν : Nat → Value) (svs : List SV) (X0 : List (Nat × Pred)) (n ky : Nat) (fr : List (Nat × SV)) (hfr : fr = frOf 0 svs) (hargs : args = (svs.map (SV.den ⟨fun _ => 0, ν, fun _ => true⟩)).toArray) (hX : FactsOK ν I X0)
    (hwf : ∀ x ∈ svs, x.res (keys X0)) (hn : ∀ k ∈ keys X0, k < n) (hky : ky < n) (hN : Nat.ble svs.length fn.ntmps = true)
    (h : WP ⟨P, none, w, fn.ntmps, F0, I, 0, fun _ => 0, fun _ => undef⟩ ⟨n, fr, X0, [(ky, .ext (Y.xp F0))], [], []⟩ c (PostI P fn R)) : CallsIn Fence.wide 0 P f args w R := by
  refine callsIn_of_wp_marks hf hb trivial ?_
  refine h ⟨fun _ => 0, ν, fun _ => true⟩ I _ w ?_
  have hN' : svs.length ≤ fn.ntmps := by simpa using hN
  subst hargs
  subst hfr
  refine ⟨?_, ?_, ?_, fun _ h => (by cases h), fun _ _ h => (by cases h), fun _ _ h => (by cases h), ?_, rfl, ?_, hX.get, ?_, ?_, ?_, hI, Keep.refl w, IH.le.rfl', fun _ _ h => .inl h, fun _ h => absurd h (Nat.not_lt_zero _), ?_⟩
  · intro i x hx
    have := (look_frOf svs 0 i x hx).2
    exact SV.on_res (fun j hj => hn j hj) (hwf x (List.mem_of_getElem? this))
  · intro j R hj; exact hn j (look_keys hj)
  · intro k e he
    obtain ⟨rfl, rfl⟩ := look_one he
    exact ⟨hky, trivial⟩
  · simp; omega
  · intro i x hx
    have := (look_frOf svs 0 i x hx).2
    simp only [Nat.sub_zero] at this
    have hi : i < svs.length := (List.getElem?_eq_some_iff.1 this).1
    rw [Array.getElem?_append_left (by simpa using hi)]
    simp [this]
  · intro k e he
    obtain ⟨rfl, rfl⟩ := look_one he
    exact hY
  · intro k e he b hb
    obtain ⟨rfl, rfl⟩ := look_one he
    obtain ⟨h1, h2⟩ := Y.ft hY b hb
    exact ⟨.inr hb, h1, h2⟩
  · intro k k' e e' b he he' hne
    obtain ⟨rfl, _⟩ := look_one he
    obtain ⟨rfl, _⟩ := look_one he'
    exact absurd rfl hne
  · intro k x hx
    obtain ⟨_, h⟩ := look_one hx
    cases h
    exact ⟨Nat.le_refl _, fun b hb => ⟨hb, fun h => h⟩⟩
/-- The iterator ends. -/
theorem EX.finI {cx : Cx} {S : St} {fn : Func} {n1 ky : Nat} {Y : YI n1} {F : Nat → Prop} {e : Exit} {ok : (Nat → Prop) → IH → World → Prop} (he : e = .ret ∨ e = .normal) (hr : fn.results = #[]) (hD : S.D = []) (hk : look ky S.L = some (.ext (Y.xp F)))
    (hok : ∀ I w, Y.J F I w → ok F I w) : EX cx S e (PostI cx.P fn (ItR cx.I0 cx.w0 cx.E ok)) := by
  intro ε I a w hs
  have hd : a.defers = [] := by rw [hs.defs, hD]; rfl
  have key : LeavesInM (fen none) 0 cx.P fn a.tmps (ItR cx.I0 cx.w0 cx.E ok) a.defers .returning w := by
    rw [hd]
    exact ⟨_, results_run hs .nil (by simpa using hr), _, F, I, rfl, hs.keep, hs.le0, hs.imm, hs.fr0, hok I w (hs.L ky _ hk)⟩
  rcases he with rfl | rfl <;> exact key
section steps
variable {cx : Cx} {Q : Exit → Act → World → Prop} {ops : Array Oper} {rest : List Oper}
variable {n : Nat} {fr : List (Nat × SV)} {X : List (Nat × Pred)} {L : List (Nat × Ent)} {D : List Nat} {G : List (Nat × Bool)} {d : Tmp} {ty : TypeId} {pos : String} {af : Array Edge} {gd : Option (Nat × Bool)}
/-- A guard whose slot is known is as wanted. -/
theorem wanted_on {o : Oper} {j dj : Nat} {want b : Bool} {a : Act} (hg : o.guard = some (j, want)) (hj : (ops[j]?).bind (·.dst) = some dj) (hd : a.tmps[dj]? = some (.bool b)) : Region.wanted o (yielded ops a.tmps) = (b == want) := by
  simp only [Region.wanted, hg, yielded, hj, Option.bind_some, hd]
  cases b <;> cases want <;> rfl
def GOK (ops : Array Oper) (fr : List (Nat × SV)) : Option (Nat × Bool) → Bool → Prop
  | none, r => r = true
  | some (j, want), r => ∃ dj b, (ops[j]?).bind (·.dst) = some dj ∧ look dj fr = some (.b b) ∧ (b == want) = r
theorem GOK.wanted {S : St} {ε : Env} {I : IH} {a : Act} {w : World} {o : Oper} {M : Nat → Prop} {r : Bool} (hs : SatM cx M ε I S a w) (h : GOK ops S.fr o.guard r) : Region.wanted o (yielded ops a.tmps) = r := by
  cases hg : o.guard with
  | none => rw [hg] at h; simp only [GOK] at h; simp [Region.wanted, hg, h]
  | some p =>
    obtain ⟨j, want⟩ := p
    rw [hg] at h
    obtain ⟨dj, b, h1, h2, h3⟩ := h
    rw [wanted_on hg h1 (hs.fr dj _ h2), h3]
/-- A guarded operation whose guard is known to let it. -/
theorem ROp.on {S : St} {o : Oper} {u : U} (hg : GOK ops S.fr o.guard true) (h : OpG cx S o u) : ROp cx ops S o u := by
  intro M ε I a w next Q hs hN K
  unfold opw
  rw [if_pos (hg.wanted hs)]
  exact h M ε I a w next Q hs hN K
theorem ROp.off {S : St} {o : Oper} (hg : GOK ops S.fr o.guard false) : ROp cx ops S o (.val (.e (.a (.v undef)))) := by
  intro M ε I a w next Q hs hN K
  unfold opw
  rw [if_neg (by rw [hg.wanted hs]; simp)]
  exact ⟨fun _ _ => trivial, K ε I w (Tr.refl hs.imm) (New.val trivial)⟩
theorem WPl.off {op : Op} (hd : Nat.blt d cx.N = true) (hg : GOK ops fr gd false) (K : WPl cx ops ⟨n, (d, .e (.a (.v undef))) :: fr, X, L, D, G⟩ rest Q) : WPl cx ops ⟨n, fr, X, L, D, G⟩ (⟨some d, op, ty, pos, af, gd⟩ :: rest) Q :=
  WPl.upd0 n (ROp.off hg) (fun i hi => by cases hi; rw [Nat.blt_eq] at hd; exact hd) (fun _ h => by cases h) (Nat.le_refl _) K
theorem WPl.on {op : Op} {sv : SV} (hd : Nat.blt d cx.N = true) (hg : GOK ops fr gd true) (h : OpG cx ⟨n, fr, X, L, D, G⟩ ⟨some d, op, ty, pos, af, gd⟩ (.val sv)) (K : WPl cx ops ⟨n, (d, sv) :: fr, X, L, D, G⟩ rest Q) : WPl cx ops ⟨n, fr, X, L, D, G⟩ (⟨some d, op, ty, pos, af, gd⟩ :: rest) Q :=
  WPl.upd0 n (ROp.on hg h) (fun i hi => by cases hi; rw [Nat.blt_eq] at hd; exact hd) (fun _ h => by cases h) (Nat.le_refl _) K
/-- A yield. -/
theorem WPl.yield {x : Operand} {l : Nat} {xs : List Operand} {ts : Array TypeId} {svs : List SV} {n1 : Nat} {Y Y' K' : YI n1} {F : Nat → Prop} (ky : Nat) (hr : cx.r = none) (hd : Nat.blt d cx.N = true) (hg : GOK ops fr gd true)
    (hx : St.op ⟨n, fr, X, L, D, G⟩ x = some (.e (.a (.v (yv l))))) (hl : St.ops ⟨n, fr, X, L, D, G⟩ xs = some svs) (hk : look ky L = some (.ext (Y.xp F)))
    (h : ∀ ε I a w, Sat cx ε I ⟨n, fr, X, L, D, G⟩ a w → RoundR cx.P l (svs.map (SV.den ε)) n1 F I w Y' K')
    (K : ∀ b F', (∀ c, F c → F' c) → WPl cx ops ⟨n, (d, .b b) :: fr, X, (ky, .ext ((bif b then Y' else K').xp F')) :: L, D, G⟩ rest Q) :
    WPl cx ops ⟨n, fr, X, L, D, G⟩ (⟨some d, .call { callee := .value x, args := xs.toArray, argTypes := ts }, ty, pos, af, gd⟩ :: rest) Q := by
  intro ε I a w hs
  refine wpListIn_step fun K0 hK => ?_
  rw [if_pos (GOK.wanted hs hg)]
  have hx' := hs.eval hx
  have hl' := hs.evals hl
  obtain ⟨fn, tmps, assign, body, hy, hround⟩ := h ε I a w hs
  have hop : (execOp a.eval ⟨some d, .call { callee := .value x, args := xs.toArray, argTypes := ts }, ty, pos, af, gd⟩).run cx.P w = .ok (.round l fn tmps assign body) w := by
    simp only [SV.den, El.den, At.den] at hx'
    simp [execOp, resolve, hx', hl', Deferred.ofValue, invoke, hy]
  refine ⟨fun _ _ => trivial, ?_⟩
  rw [semAt_eq _ _ _ (fun _ => by simp), hop]
  rw [hr]
  refine ⟨fun h => (by cases h), RoundIn.mono hround ?_⟩
  rintro e w' ⟨b, F', I', rfl, hkp, hle, hon, hfr, hF1, hF2, hJ⟩
  obtain ⟨hx1, hx2⟩ := hs.ext ky _ hk
  have hft := fun b hb => hs.foot ky _ hk b hb
  have hfp : ∀ c, F c → fpOf ⟨n, fr, X, L, D, G⟩ ε ⟨.b b, [], [], [(ky, .ext ((bif b then Y' else K').xp F'))], []⟩ c := fun c hc => ⟨ky, _, by simp [look], hk, hc⟩
  have hF := (bif b then Y' else K').ft hJ
  have := SatM.app (d := some d) (u := ⟨.b b, [], [], [(ky, .ext ((bif b then Y' else K').xp F'))], []⟩) n hs (St.le.refl _) (fun k hk => by cases hk) (fun i hi => by cases hi; rw [Nat.blt_eq] at hd; exact hd)
    (ε' := ε) (I' := I') (w' := w') ⟨fun _ _ => ⟨rfl, rfl, rfl⟩, hle, hon, hkp.os, hkp.tape, hkp.output, hkp.size, fun c hc hn => hkp.block c hc (fun h => hn (hfp c h)), fun c o hc => by
      rcases hfr c o hc with h | h
      · exact .inl h
      · exact .inr (.inl h)⟩
    ⟨trivial, fun _ _ h => (by cases h), fun _ _ h => (by cases h), fun i e he => by obtain ⟨rfl, rfl⟩ := look_one he; exact ⟨.inl (hs.wfL i _ hk).1, trivial⟩, fun _ _ h => (by cases h),
      fun i e he => by obtain ⟨rfl, rfl⟩ := look_one he; exact hJ,
      fun i e he c hc => by
        obtain ⟨rfl, rfl⟩ := look_one he
        have hc : F' c := hc
        refine ⟨?_, (hF c hc).1, (hF c hc).2, ?_⟩
        · rcases hF2 c hc with h | h
          · exact (hft c h).1
          · exact .inl (Nat.le_trans hs.keep.size h)
        · rcases hF2 c hc with h | h
          · exact .inr (hfp c h)
          · exact .inl h,
      fun i i' e e' c he he' hne => by
        obtain ⟨rfl, _⟩ := look_one he
        obtain ⟨rfl, _⟩ := look_one he'
        exact absurd rfl hne,
      fun i x hx => by
        obtain ⟨_, h⟩ := look_one hx
        cases h
        exact ⟨hx1, fun c hc => ⟨(hx2 c hc).1, fun hE => hF1 c ((hx2 c hc).2 hE)⟩⟩⟩
  refine hK _ _ (K b F' hF1 ε I' _ w' (SatM.mono (fun k hk => ?_) this))
  rcases hk with hk | hk
  · exact hk
  · cases hk
end steps
end Go.Eng
