/- The engine, part V: pure facts; calls that hand a new map back. -/
import Derived.Test.YtglbnodjcngefaaEngU
set_option linter.unusedSimpArgs false
set_option linter.unusedVariables false
namespace Go.Eng
open Go

/-! ### Pure facts -/
def Pred.pure (p : Prop) : Pred := ⟨fun _ _ => p, fun _ h => h⟩
theorem WP.pure {cx : Cx} {S : St} {c : Code} {Q : Exit → Act → World → Prop} (k : Nat) {p : Prop} (hk : Has S.X k (Pred.pure p)) (h : p → WP cx S c Q) : WP cx S c Q := fun ε I a w hs => h (hs.has hk) ε I a w hs
theorem EX.pure {cx : Cx} {S : St} {e : Exit} {Q : Exit → Act → World → Prop} (k : Nat) {p : Prop} (hk : Has S.X k (Pred.pure p)) (h : p → EX cx S e Q) : EX cx S e Q := fun ε I a w hs => h (hs.has hk) ε I a w hs

def markb : Option Ent → Bool
  | some (.ob (.deferred (some []))) => true
  | _ => false
theorem marks {D : List Nat} {L : List (Nat × Ent)} (h : (D.all fun k => markb (look k L)) = true) : ∀ k ∈ D, look k L = some (.ob (.deferred (some []))) := fun k hk => by
  have := List.all_eq_true.1 h k hk
  revert this
  generalize look k L = x
  intro h
  match x, h with
  | some (.ob (.deferred (some []))), _ => rfl

/-! ### Steps of which something is chosen by the world -/
def OpE {ι : Type} (cx : Cx) (S : St) (o : Oper) (N : List Nat) (u : ι → U) : Prop :=
  ∀ (M : Nat → Prop) (ε : Env) (I : IH) (a : Act) (w : World) (next : Act → World → Prop) (Q : Exit → Act → World → Prop), SatM cx M ε I S a w → (∀ k ∈ N, ¬ M k) →
    (∀ i ε' I' w', Tr cx.w0.heap.size ε ε' I I' w w' N (fpOf S ε (u i)) → New cx M S ε ε' I' w w' (u i) → next (a.put o.dst ((u i).sv.den ε')) w') →
    o.wpIn (fen cx.r) 0 cx.P a w next Q
section
variable {cx : Cx} {Q : Exit → Act → World → Prop} {ops : Array Oper} {rest : List Oper}
theorem WPl.updE {ι : Type} {S : St} {o : Oper} {N : List Nat} {u : ι → U} (m : Nat) (hg : o.guard = none) (h : OpE cx S o N u) (hu : ∀ i, (u i).N = N) (hd : ∀ i, o.dst = some i → i < cx.N) (hN : ∀ k ∈ N, S.n ≤ k ∧ k < m) (hm : S.n ≤ m)
    (K : ∀ i, WPl cx ops (S.app m o.dst (u i)) rest Q) : WPl cx ops S (o :: rest) Q := by
  intro ε I a w hs
  refine wpListIn_step fun K' hK => ?_
  simp only [Region.wanted, hg, if_true]
  refine h _ ε I a w K' Q hs (fun k hk hlt => by have := (hN k hk).1; omega) fun i ε' I' w' ht hn => hK _ _ (K i ε' I' _ w' ?_)
  have hN' : ∀ k ∈ (u i).N, ¬ k < S.n := fun k hk hlt => by rw [hu i] at hk; have := (hN k hk).1; omega
  refine SatM.mono ?_ (SatM.app m hs (St.le.refl _) hN' hd (by rw [hu i]; exact ht) hn)
  rintro k (hk | hk)
  · exact Nat.lt_of_lt_of_le hk hm
  · rw [hu i] at hk; exact (hN k hk).2
end

/-! ### Contracts that hand a new map back -/
def CtRM (ag : Bool) (nk : Nat) (sv : SV) (X : Nat → List (Nat × Pred)) (I : IH) (w : World) : Ending → World → Prop := fun e w' =>
  ∃ I' us b, e = .returned (sv.den (envU us)) ∧ Keep Emp w w' ∧ I.le I' ∧ I'.on w' ∧ (∀ b o, I' b = some o → I b = some o ∨ w.heap.size ≤ b) ∧ (∀ j R, look j (X b) = some R → R.h I' (us j)) ∧ (mapXP ag nk b []).J I' w' ∧ w.heap.size ≤ b ∧ b < w'.heap.size ∧ I' b = none
def SigM (P : Program) (f : FuncId) (svs : List SV) (X0 : List (Nat × Pred)) (ag : Bool) (nk : Nat) (sv : SV) (X : Nat → List (Nat × Pred)) : Prop :=
  ∀ (I : IH) (w : World) (ν : Nat → Value), I.on w → FactsOK ν I X0 → CallsIn Fence.wide 0 P f (svs.map (den0 ν)).toArray w (CtRM ag nk sv X I w)
theorem introP {P : Program} {f : FuncId} {fn : Func} {c : Code} {svs : List SV} {X0 : List (Nat × Pred)} {R : IH → World → Ending → World → Prop} (hf : P.funcs[f]? = some fn) (hb : fn.body = some c) (n : Nat) (fr : List (Nat × SV)) (hfr : fr = frOf 0 svs)
    (hwf : ∀ x ∈ svs, x.res (keys X0)) (hn : (keys X0).all (Nat.blt · n) = true) (hN : Nat.ble svs.length fn.ntmps = true)
    (h : ∀ I w, WP ⟨P, none, w, fn.ntmps, Emp, I, 0, fun _ => 0, fun _ => undef⟩ ⟨n, fr, X0, [], [], []⟩ c (Post P fn (R I w))) (I : IH) (w : World) (ν : Nat → Value) (hI : I.on w) (hX : FactsOK ν I X0) : CallsIn Fence.wide 0 P f (svs.map (den0 ν)).toArray w (R I w) := by
  refine callsIn_of_wp_marks hf hb trivial ?_
  refine h I w ⟨fun _ => 0, ν, fun _ => true⟩ I _ w ?_
  have hN' : svs.length ≤ fn.ntmps := by simpa using hN
  subst hfr
  refine ⟨?_, ?_, fun _ _ h => (by cases h), fun _ h => (by cases h), fun _ _ h => (by cases h), fun _ _ h => (by cases h), ?_, rfl, ?_, hX.get, fun _ _ h => (by cases h), fun _ _ h => (by cases h), fun _ _ _ _ _ h => (by cases h), hI, Keep.refl w, IH.le.rfl', fun _ _ h => .inl h, fun _ h => absurd h (Nat.not_lt_zero _), fun _ _ h => (by cases h)⟩
  · intro i x hx
    have := (look_frOf svs 0 i x hx).2
    exact SV.on_res (fun j hj => by simpa [Nat.blt_eq] using List.all_eq_true.1 hn j hj) (hwf x (List.mem_of_getElem? this))
  · intro j R hj
    simpa [Nat.blt_eq] using List.all_eq_true.1 hn j (look_keys hj)
  · simp; omega
  · intro i x hx
    have := (look_frOf svs 0 i x hx).2
    simp only [Nat.sub_zero] at this
    have hi : i < svs.length := (List.getElem?_eq_some_iff.1 this).1
    rw [Array.getElem?_append_left (by simpa using hi)]
    simp [this, den0]
theorem SigM.intro {P : Program} {f : FuncId} {fn : Func} {c : Code} {svs : List SV} {X0 : List (Nat × Pred)} {ag : Bool} {nk : Nat} {sv : SV} {X : Nat → List (Nat × Pred)} (hf : P.funcs[f]? = some fn) (hb : fn.body = some c) (n : Nat) (fr : List (Nat × SV)) (hfr : fr = frOf 0 svs)
    (hwf : ∀ x ∈ svs, x.res (keys X0)) (hn : (keys X0).all (Nat.blt · n) = true) (hN : Nat.ble svs.length fn.ntmps = true)
    (h : ∀ I w, WP ⟨P, none, w, fn.ntmps, Emp, I, 0, fun _ => 0, fun _ => undef⟩ ⟨n, fr, X0, [], [], []⟩ c (Post P fn (CtRM ag nk sv X I w))) : SigM P f svs X0 ag nk sv X := introP hf hb n fr hfr hwf hn hN h
theorem EX.finM {cx : Cx} {S : St} {fn : Func} {rs : List ResultVar} {els : List El} {ag : Bool} {nk : Nat} {sv : SV} {X : Nat → List (Nat × Pred)} {e : Exit} (ρ : Nat → Nat) (ky b : Nat) (hE : cx.E = Emp) (he : e = .ret ∨ e = .normal) (hr : fn.results = rs.toArray) (hres : ResOf cx S rs els)
    (hsv : resSV els = sv.ren ρ) (hw : sv.res (keys (X b))) (hX : RenOK S.X ρ (X b)) (hL : look ky S.L = some (.ext (mapXP ag nk b []))) (hmk : ∀ k ∈ S.D, look k S.L = some (.ob (.deferred (some [])))) (hnd : S.D.Nodup) :
    EX cx S e (Post cx.P fn (CtRM ag nk sv X cx.I0 cx.w0)) := by
  intro ε I a w hs
  have key : LeavesInM (fen none) 0 cx.P fn a.tmps (CtRM ag nk sv X cx.I0 cx.w0) a.defers .returning w :=
    leavesM2 hr S.D S a w rfl hmk hnd hs hres fun S' a' w' hs' hk' => by
      have hl := hk' ky _ hL (fun o h => by cases h)
      obtain ⟨h1, h2, h3⟩ := hs'.foot ky _ hl b rfl
      refine ⟨I, fun j => ε.ν (ρ j), b, by rw [hsv]; exact congrArg _ (SV.den_ren hw), by have := hs'.keep; rw [hE] at this; exact this, hs'.le0, hs'.imm, hs'.fr0, fun j R hj => hs.has (hX.get j R hj), hs'.L ky _ hl, ?_, h2, h3⟩
      rcases h1 with h1 | h1
      · exact h1
      · rw [hE] at h1; exact h1.elim
  rcases he with rfl | rfl <;> exact key
section
variable {cx : Cx} {S : St} {dst : Option Tmp} {ty : TypeId} {pos : String} {af : Array Edge} {gd : Option (Nat × Bool)}
theorem o_sigm {P : Program} {f : FuncId} {l : List Operand} {ts : Array TypeId} {svs svs' : List SV} {X0 : List (Nat × Pred)} {ag : Bool} {nk : Nat} {sv : SV} {X : Nat → List (Nat × Pred)} {J : List Nat} (m km : Nat) (ρ : Nat → Nat) (hs : SigM P f svs X0 ag nk sv X) (hf : Enters' P f) (hP : cx.P = P)
    (hl : S.ops l = some svs') (hren : SvsOK S svs' (svs.map (SV.ren ρ))) (hwf : ∀ x ∈ svs, x.res (keys X0)) (hX : RenOK S.X ρ X0) (hJ : ∀ b, keys (X b) = J) (hres : sv.res J) (hkm : notin km (J.map (m + ·)) = true) :
    OpE cx S ⟨dst, .call { callee := .value (.func f), args := l.toArray, argTypes := ts }, ty, pos, af, gd⟩ (km :: J.map (m + ·)) (fun b => ⟨sv.ren (m + ·), km :: J.map (m + ·), sh m (X b), [(km, .ext (mapXP ag nk b []))], []⟩) := by
  subst hP
  intro M ε I a w next Q h hN K
  have h1 := hs I w (fun j => ε.ν (ρ j)) h.imm (FactsOK.of (fun j R hj => h.has hj) hX)
  refine ⟨fun _ _ => trivial, ?_⟩
  have hev := h.evals hl
  rw [hren.den h, svs_ren hwf] at hev
  have hex : (execOp a.eval ⟨dst, .call { callee := .value (.func f), args := l.toArray, argTypes := ts }, ty, pos, af, gd⟩).run cx.P w = .ok (.enter f (svs.map (den0 fun j => ε.ν (ρ j))).toArray) w := by
    simp [execOp, resolve, Act.eval, Deferred.ofValue, invoke, hev, hf _ _]
  rw [semAt_eq _ _ _ (fun _ => by simp), hex]
  refine ⟨fun h => (by cases h), CallsIn.mono (callsIn_fen h1) ?_⟩
  rintro e w' ⟨I', us, b, rfl, hk, hle, hon, hfr, hXs, hmap, hb1, hb2, hb3⟩
  let us' : Nat → Value := fun j => us (j - m)
  have hus : ∀ i, us' (m + i) = us i := fun i => by show us (m + i - m) = us i; congr 1; omega
  let ε' : Env := ⟨ε.β, fun j => if j ∈ J.map (m + ·) then us' j else if j = km then undef else ε.ν j, ε.γ⟩
  have hν : ∀ i, i ∈ J → ε'.ν (m + i) = us i := fun i hi => by
    have : m + i ∈ J.map (m + ·) := List.mem_map.2 ⟨i, hi, rfl⟩
    show (if m + i ∈ J.map (m + ·) then us' (m + i) else _) = us i
    rw [if_pos this, hus]
  have hsv : sv.den (envU us) = (sv.ren (m + ·)).den ε' := by
    rw [SV.ren_den hres]
    exact SV.den_res (ε := ⟨fun _ => 0, fun j => ε'.ν (m + j), fun _ => true⟩) (ε' := envU us) (fun j hj => (hν j hj).symm) hres
  show next (a.put dst _) w'
  rw [hsv]
  refine K b ε' I' w' ⟨fun i hi => ?_, hle, hon, hk.os, hk.tape, hk.output, hk.size, fun c hc _ => hk.block c hc (fun h => h), fun c o hc => ?_⟩
    ⟨SV.on_res (J := J.map (m + ·)) (fun j hj => .inr (List.mem_cons_of_mem _ hj)) (SV.ren_res hres), fun j R hj => .inr (List.mem_cons_of_mem _ (by rw [← hJ b, ← keys_sh]; exact look_keys hj)), fun _ _ h => (by cases h), fun k e he => by obtain ⟨rfl, rfl⟩ := look_one he; exact ⟨.inr List.mem_cons_self, trivial⟩, fun j R hj => ?_,
      fun k e he => by obtain ⟨rfl, rfl⟩ := look_one he; exact hmap, fun k e he c hc => ?_, fun k k' e e' c he he' hne => ?_, fun k x he => ?_⟩
  · have h2 : i ∉ J.map (m + ·) := fun h => hi (List.mem_cons_of_mem _ h)
    have h3 : i ≠ km := fun h => hi (by rw [h]; exact List.mem_cons_self)
    exact ⟨rfl, by show (if i ∈ J.map (m + ·) then us' i else if i = km then undef else ε.ν i) = _; rw [if_neg h2, if_neg h3], rfl⟩
  · rcases hfr c o hc with h | h
    · exact .inl h
    · exact .inr (.inl h)
  · obtain ⟨i, rfl, hi⟩ := look_sh hj
    rw [hν i (by rw [← hJ b]; exact look_keys hi)]; exact hXs i R hi
  · obtain ⟨rfl, rfl⟩ := look_one he
    have hc : c = b := hc
    subst hc
    exact ⟨.inl (Nat.le_trans h.keep.size hb1), hb2, hb3, .inl hb1⟩
  · obtain ⟨rfl, _⟩ := look_one he
    obtain ⟨rfl, _⟩ := look_one he'
    exact absurd rfl hne
  · obtain ⟨_, h5⟩ := look_one he
    cases h5
    exact ⟨Nat.zero_le _, fun _ h => h.elim⟩
end
section
variable {cx : Cx} {Q : Exit → Act → World → Prop} {ops : Array Oper} {rest : List Oper}
variable {n : Nat} {fr : List (Nat × SV)} {X : List (Nat × Pred)} {L : List (Nat × Ent)} {D : List Nat} {G : List (Nat × Bool)} {d : Tmp} {op : Op} {ty : TypeId} {pos : String} {af : Array Edge} {sv : SV}
theorem WPl.cM {ag : Bool} {nk : Nat} {J : List Nat} {Xb : Nat → List (Nat × Pred)} {km m : Nat} (m' : Nat) (h : OpE cx ⟨n, fr, X, L, D, G⟩ ⟨some d, op, ty, pos, af, none⟩ (km :: J.map (m + ·)) (fun b => ⟨sv, km :: J.map (m + ·), sh m (Xb b), [(km, .ext (mapXP ag nk b []))], []⟩)) (hd : Nat.blt d cx.N = true)
    (hN : (km :: J.map (m + ·)).all (fun k => Nat.ble n k && Nat.blt k m') = true) (hm : Nat.ble n m' = true) (K : ∀ b, WPl cx ops ⟨m', (d, sv) :: fr, sh m (Xb b) ++ X, (km, .ext (mapXP ag nk b [])) :: L, D, G⟩ rest Q) : WPl cx ops ⟨n, fr, X, L, D, G⟩ (⟨some d, op, ty, pos, af, none⟩ :: rest) Q :=
  WPl.updE m' rfl h (fun _ => rfl) (fun i hi => by cases hi; rw [Nat.blt_eq] at hd; exact hd) (fun k hk => by have := List.all_eq_true.1 hN k hk; simp only [Bool.and_eq_true, Nat.blt_eq] at this; exact ⟨by simpa using this.1, this.2⟩) (by simpa using hm) K
end
end Go.Eng
namespace Go.Eng
open Go
theorem o_mkfn0 {cx : Cx} {S : St} {dst : Option Tmp} {ty : TypeId} {pos : String} {af : Array Edge} {gd : Option (Nat × Bool)} {f : FuncId} {l' : List Operand} {svs' : List SV} (k : Nat) (hl' : S.ops l' = some svs') :
    OpG cx S ⟨dst, .makeFunc (.func f) #[] l'.toArray, ty, pos, af, gd⟩ ⟨.e (.a (.q k)), [k], [(k, Pred.fn)], [], []⟩ := o_mkfn (l := []) rfl hl' fun _ _ _ _ _ _ => ⟨_, _, _, rfl⟩
end Go.Eng
namespace Go.Eng
open Go
theorem FvP.fna {P : Program} {ι : Type} [Inhabited ι] {svs : ι → List SV} {X0 : ι → List (Nat × Pred)} {sv : ι → SV} {X : ι → List (Nat × Pred)} : ∀ I v, (Pred.all fun i => FvP P (svs i) (X0 i) (sv i) (X i)).h I v → Pred.fn.h I v := fun I v h => FvP.fn I v (h default)
end Go.Eng
