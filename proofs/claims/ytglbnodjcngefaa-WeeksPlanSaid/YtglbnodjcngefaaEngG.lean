/- The engine, part G: the steps in the forms that the printed walks use; guards; building a struct. -/
import Derived.Test.YtglbnodjcngefaaEngF
set_option linter.unusedSimpArgs false
set_option linter.unusedVariables false
namespace Go.Eng
open Go

section steps
variable {cx : Cx} {Q : Exit → Act → World → Prop} {ops : Array Oper} {rest : List Oper}
variable {n : Nat} {fr : List (Nat × SV)} {X : List (Nat × Pred)} {L : List (Nat × Ent)} {D : List Nat} {G : List (Nat × Bool)} {d : Tmp} {op : Op} {ty : TypeId} {pos : String} {af : Array Edge} {gd : Option (Nat × Bool)} {sv : SV}
/-- A new hidden value. -/
theorem WPl.x (k m : Nat) {R : Pred} (hk : Nat.ble n k = true) (hm : Nat.blt k m = true) (hd : Nat.blt d cx.N = true) (h : OpG cx ⟨n, fr, X, L, D, G⟩ ⟨some d, op, ty, pos, af, none⟩ ⟨sv, [k], [(k, R)], [], []⟩)
    (K : WPl cx ops ⟨m, (d, sv) :: fr, (k, R) :: X, L, D, G⟩ rest Q) : WPl cx ops ⟨n, fr, X, L, D, G⟩ (⟨some d, op, ty, pos, af, none⟩ :: rest) Q := WPl.u1 hk hm hd h K
/-- A new block. -/
theorem WPl.l (k m : Nat) {e : Ent} (hk : Nat.ble n k = true) (hm : Nat.blt k m = true) (hd : Nat.blt d cx.N = true) (h : OpG cx ⟨n, fr, X, L, D, G⟩ ⟨some d, op, ty, pos, af, none⟩ ⟨sv, [k], [], [(k, e)], []⟩)
    (K : WPl cx ops ⟨m, (d, sv) :: fr, X, (k, e) :: L, D, G⟩ rest Q) : WPl cx ops ⟨n, fr, X, L, D, G⟩ (⟨some d, op, ty, pos, af, none⟩ :: rest) Q := WPl.u1 hk hm hd h K
/-- A store into a block. -/
theorem WPl.s1 {k : Nat} {e : Ent} (h : OpG cx ⟨n, fr, X, L, D, G⟩ ⟨none, op, ty, pos, af, none⟩ ⟨sv, [], [], [(k, e)], []⟩)
    (K : WPl cx ops ⟨n, fr, X, (k, e) :: L, D, G⟩ rest Q) : WPl cx ops ⟨n, fr, X, L, D, G⟩ (⟨none, op, ty, pos, af, none⟩ :: rest) Q := WPl.s h K
theorem WPl.upd0 {S : St} {o : Oper} {u : U} (m : Nat) (h : ROp cx ops S o u) (hd : ∀ i, o.dst = some i → i < cx.N) (hN : ∀ k ∈ u.N, S.n ≤ k ∧ k < m) (hm : S.n ≤ m)
    (K : WPl cx ops (S.app m o.dst u) rest Q) : WPl cx ops S (o :: rest) Q := WPl.upd m h (St.le.refl _) hd hN hm K
/-- A call that hands back no hidden value. -/
theorem WPl.c0 (hd : Nat.blt d cx.N = true) (h : OpG cx ⟨n, fr, X, L, D, G⟩ ⟨some d, op, ty, pos, af, none⟩ ⟨sv, keys ([] : List (Nat × Pred)), [], [], []⟩)
    (K : WPl cx ops ⟨n, (d, sv) :: fr, X, L, D, G⟩ rest Q) : WPl cx ops ⟨n, fr, X, L, D, G⟩ (⟨some d, op, ty, pos, af, none⟩ :: rest) Q := WPl.v hd h K
/-- A call that hands back hidden values, of the keys n .. -/
theorem WPl.cs (m : Nat) {X' : List (Nat × Pred)} (hk : (keys X').all (Nat.ble n ·) = true) (hm : (keys X').all (Nat.blt · m) = true) (hn : Nat.ble n m = true) (hd : Nat.blt d cx.N = true) (h : OpG cx ⟨n, fr, X, L, D, G⟩ ⟨some d, op, ty, pos, af, none⟩ ⟨sv, keys X', X', [], []⟩)
    (K : WPl cx ops ⟨m, (d, sv) :: fr, X' ++ X, L, D, G⟩ rest Q) : WPl cx ops ⟨n, fr, X, L, D, G⟩ (⟨some d, op, ty, pos, af, none⟩ :: rest) Q :=
  WPl.upd m (ROp.plain rfl h) (St.le.refl _) (fun i hi => by cases hi; rw [Nat.blt_eq] at hd; exact hd)
    (fun j h => ⟨by simpa using List.all_eq_true.1 hk j h, by simpa [Nat.blt_eq] using List.all_eq_true.1 hm j h⟩) (by simpa using hn) K

/-! #### Guards -/
theorem Env.γ_agree {ε : Env} {M : Nat → Prop} {g : Nat} {b : Bool} (hg : ¬ M g) : Env.agree M ε ⟨ε.β, ε.ν, upd ε.γ g b⟩ := fun _ hk => ⟨rfl, rfl, upd_other _ _ (fun e => hg (e ▸ hk))⟩
/-- A bit is given a number. -/
theorem Sat.bit {ε : Env} {I : IH} {a : Act} {w : World} {g m : Nat} {b : Bool} (hg : n ≤ g) (hm : g < m) (hs : Sat cx ε I ⟨n, fr, X, L, D, G⟩ a w) : Sat cx ⟨ε.β, ε.ν, upd ε.γ g b⟩ I ⟨m, fr, X, L, D, (g, b) :: G⟩ a w := by
  have hag : Env.agree (· < n) ε ⟨ε.β, ε.ν, upd ε.γ g b⟩ := Env.γ_agree (by omega)
  have hM : ∀ k, k < n → k < m := fun k hk => by omega
  refine { size := hs.size, imm := hs.imm, keep := hs.keep, le0 := hs.le0, fr0 := hs.fr0, ext := hs.ext, pin := fun k hk => ⟨hM _ (hs.pin k hk).1, (hs.pin k hk).2⟩, sep := ?_, foot := ?_, L := ?_, X := hs.X, fr := ?_, defs := hs.defs, wfr := ?_, wfX := fun j R h => hM _ (hs.wfX j R h), wfL := ?_, wfD := fun k h => hM _ (hs.wfD k h), wfG := ?_, G := ?_ }
  · intro i x hx; exact SV.on_mono hM (SV.on_agree hag (hs.wfr i x hx))
  · intro k e he
    refine ⟨hM _ (hs.wfL k e he).1, ?_⟩
    have := (hs.wfL k e he).2
    cases e <;> first | exact trivial | exact fun c hc => At.on_mono hM (this c hc)
  · intro k c hc
    rw [look_cons] at hc
    by_cases hk : g = k
    · subst hk; exact hm
    · simp [hk] at hc; exact hM _ (hs.wfG k c hc)
  · intro k c hc
    rw [look_cons] at hc
    by_cases hk : g = k
    · subst hk; simp at hc; subst hc; exact upd_same _ _ _
    · simp [hk] at hc
      have h1 := hs.G k c hc
      have h2 : k < n := hs.wfG k c hc
      show upd ε.γ g b k = c
      rw [upd_other _ _ (by omega)]; exact h1
  · intro i x hx; rw [hs.fr i x hx, SV.den_agree hag (hs.wfr i x hx)]
  · intro k e he; exact Ent.ok_kept hag IH.le.rfl' (hs.wfL k e he).1 (hs.wfL k e he).2 (hs.L k e he) (fun _ _ => rfl) (fun x _ => ⟨IH.le.rfl', hs.imm, rfl, rfl, rfl, Nat.le_refl _, fun _ _ _ => rfl, fun _ _ h => .inl h⟩)
  · intro k e he c hc
    rw [Ent.foot_agree hag (hs.wfL k e he).1] at hc
    exact hs.foot k e he c hc
  · intro k k' e e' c he he' hne hc
    rw [Ent.foot_agree hag (hs.wfL k e he).1] at hc
    rw [Ent.foot_agree hag (hs.wfL k' e' he').1]
    exact hs.sep k k' e e' c he he' hne hc
theorem WPl.bit (g m : Nat) (b : Bool) (hg : Nat.ble n g = true) (hm : Nat.blt g m = true) (K : WPl cx ops ⟨m, fr, X, L, D, (g, b) :: G⟩ rest Q) : WPl cx ops ⟨n, fr, X, L, D, G⟩ rest Q :=
  fun _ _ _ _ hs => K _ _ _ _ (Sat.bit (by simpa using hg) (by rw [Nat.blt_eq] at hm; exact hm) hs)

/-- How the guard's slot tells the bit. -/
inductive GB (S : St) (dj : Nat) (want : Bool) (g : Nat) : List Nat → Bool → Prop
  | plain {c b : Bool} (h : look dj S.fr = some (.b c)) (hb : (b = true ↔ c = want)) (hg : look g S.G = some b) : GB S dj want g [g] b
  | nest {g' : Nat} {c b b' : Bool} (h : look dj S.fr = some (.c g' (.a (.v (.bool c))))) (hg' : look g' S.G = some b') (hb : (b = true ↔ b' = true ∧ c = want)) (hg : look g S.G = some b) : GB S dj want g [g, g'] b
  | nest2 {g' g'' : Nat} {c b b' b'' : Bool} (h : look dj S.fr = some (.c g' (.a (.v (.bool c))))) (hg' : look g' S.G = some b') (hg'' : look g'' S.G = some b'') (hb : (b = true ↔ b' = true ∧ c = want)) (h2 : b' = true → b'' = true) (hg : look g S.G = some b) : GB S dj want g [g, g', g''] b
theorem ROp.g {S : St} {o : Oper} {u : U} {g : Nat} {gs : List Nat} {b : Bool} {x : El} {j dj : Nat} {want : Bool} (hg : o.guard = some (j, want)) (hj : (ops[j]?).bind (·.dst) = some dj) (hb : GB S dj want g gs b)
    (hu : u.sv = .e x) (hL : u.L = []) (hX : ∀ k R, look k u.X = some R → k ∈ u.N) (h : b = true → OpG cx (S.und gs) o u) : ROp cx ops S o (u.cond g b x) := by
  cases hb with
  | plain h1 h2 h3 =>
    refine ROp.guard hg hj h1 h3 (fun ε _ => ?_) (fun ε hε hbt k hk => ?_) hu hL hX h
    · rw [h2]; simp [SV.den, El.den, At.den]
    · rw [List.mem_singleton] at hk; subst hk; rw [hε _ _ h3, hbt]
  | nest h1 h2 h3 h4 =>
    refine ROp.guard hg hj h1 h4 (fun ε hε => ?_) (fun ε hε hbt k hk => ?_) hu hL hX h
    · rw [h3, SV.den, hε _ _ h2]
      rename_i g' c b'
      cases b' <;> simp [El.den, At.den, undef]
    · rcases List.mem_cons.1 hk with rfl | hk
      · rw [hε _ _ h4, hbt]
      · rw [List.mem_singleton] at hk; subst hk; rw [hε _ _ h2]; exact (h3.1 hbt).1
  | nest2 h1 h2 h2' h3 h3' h4 =>
    refine ROp.guard hg hj h1 h4 (fun ε hε => ?_) (fun ε hε hbt k hk => ?_) hu hL hX h
    · rw [h3, SV.den, hε _ _ h2]
      rename_i g' g'' c b' b''
      cases b' <;> simp [El.den, At.den, undef]
    · rcases List.mem_cons.1 hk with rfl | hk
      · rw [hε _ _ h4, hbt]
      · rcases List.mem_cons.1 hk with rfl | hk
        · rw [hε _ _ h2]; exact (h3.1 hbt).1
        · rw [List.mem_singleton] at hk; subst hk; rw [hε _ _ h2']; exact h3' (h3.1 hbt).1
/-- A guarded step that computes a value. -/
theorem WPl.gv (g : Nat) {gs : List Nat} {b : Bool} {x : El} {j dj : Nat} {want : Bool} (hd : Nat.blt d cx.N = true) (hj : (ops[j]?).bind (·.dst) = some dj) (hb : GB ⟨n, fr, X, L, D, G⟩ dj want g gs b)
    (h : b = true → OpG cx ⟨n, und gs fr, X, L, D, G⟩ ⟨some d, op, ty, pos, af, some (j, want)⟩ (.val (.e x))) (K : WPl cx ops ⟨n, (d, .c g x) :: fr, X, L, D, G⟩ rest Q) :
    WPl cx ops ⟨n, fr, X, L, D, G⟩ (⟨some d, op, ty, pos, af, some (j, want)⟩ :: rest) Q :=
  WPl.upd0 n (ROp.g (u := .val (.e x)) rfl hj hb rfl rfl (fun _ _ h => by cases h) h) (fun i hi => by cases hi; rw [Nat.blt_eq] at hd; exact hd) (fun _ h => by cases h) (Nat.le_refl _) K
/-- A guarded step that makes an hidden value. -/
theorem WPl.gx (g k m : Nat) {gs : List Nat} {b : Bool} {x : El} {j dj : Nat} {want : Bool} {R : Pred} (hk : Nat.ble n k = true) (hm : Nat.blt k m = true) (hd : Nat.blt d cx.N = true) (hj : (ops[j]?).bind (·.dst) = some dj) (hb : GB ⟨n, fr, X, L, D, G⟩ dj want g gs b)
    (h : b = true → OpG cx ⟨n, und gs fr, X, L, D, G⟩ ⟨some d, op, ty, pos, af, some (j, want)⟩ ⟨.e x, [k], [(k, R)], [], []⟩) (K : WPl cx ops ⟨m, (d, .c g x) :: fr, (k, Pred.iff b R) :: X, L, D, G⟩ rest Q) :
    WPl cx ops ⟨n, fr, X, L, D, G⟩ (⟨some d, op, ty, pos, af, some (j, want)⟩ :: rest) Q := by
  have hk' : n ≤ k := by simpa using hk
  rw [Nat.blt_eq] at hm hd
  refine WPl.upd0 m (ROp.g (u := ⟨.e x, [k], [(k, R)], [], []⟩) rfl hj hb rfl rfl (fun _ _ h => by obtain ⟨rfl, _⟩ := look_one h; simp) h) (fun i hi => by cases hi; exact hd) (fun i h => ?_) (by show n ≤ m; omega) ?_
  · have h : i ∈ [k] := h
    rw [List.mem_singleton] at h; subst h; exact ⟨hk', hm⟩
  · exact K
/-- A guarded call that hands back no hidden value. -/
theorem WPl.gc0 (g : Nat) {gs : List Nat} {b : Bool} {x : El} {j dj : Nat} {want : Bool} (hd : Nat.blt d cx.N = true) (hj : (ops[j]?).bind (·.dst) = some dj) (hb : GB ⟨n, fr, X, L, D, G⟩ dj want g gs b)
    (h : b = true → OpG cx ⟨n, und gs fr, X, L, D, G⟩ ⟨some d, op, ty, pos, af, some (j, want)⟩ ⟨.e x, keys ([] : List (Nat × Pred)), [], [], []⟩) (K : WPl cx ops ⟨n, (d, .c g x) :: fr, X, L, D, G⟩ rest Q) :
    WPl cx ops ⟨n, fr, X, L, D, G⟩ (⟨some d, op, ty, pos, af, some (j, want)⟩ :: rest) Q := WPl.gv g hd hj hb h K
/-- A guarded call whose result is two or more cells, or a tuple that is not used under the guard: not served. -/
theorem Pred.of_iff {b : Bool} {R : Pred} {I : IH} {v : Value} (h : (Pred.iff b R).h I v) (hb : b = true) : R.h I v := h hb
end steps

/-! ### Building a struct -/
def BldT (P : Program) (T : TypeId) (pl : List (Nat × Nat)) (zs : List Value) : Prop :=
  (∃ fs : Array Field, P.underlying T = some (.struct fs) ∧ ∀ w, (fs.mapM (fun f => do pure (f.offset, ← sizeOf f.type) : Field → Sem (Nat × Nat))).run P w = .ok pl.toArray w) ∧ ∃ z, (∀ w, (zeroValue T).run P w = .ok z w) ∧ z.cells = zs.toArray
def fillc (cs : List At) : List (Nat × List At) → List At
  | [] => cs
  | (o, ys) :: t => fillc (splice cs o ys) t
def partsOf (pl : List (Nat × Nat)) (len : Nat) : List (Nat × El) → Option (List (Nat × List At))
  | [] => some []
  | (i, e) :: t => match pl[i]?, partsOf pl len t with
    | some (o, sz), some l => bif Nat.beq e.cells.length sz && Nat.ble (o + sz) len then some ((o, e.cells) :: l) else none
    | _, _ => none
def OneEls (S : St) : List (Nat × El) → Prop
  | [] => True
  | (_, .a y) :: t => y.one S ∧ OneEls S t
  | (_, .g _) :: t => OneEls S t
def St.els (S : St) : List (Nat × Operand) → Option (List (Nat × El))
  | [] => some []
  | (i, x) :: t => match S.op x, S.els t with
    | some (.e e), some l => some ((i, e) :: l)
    | _, _ => none
theorem SatM.elsv {cx : Cx} {M : Nat → Prop} {ε : Env} {I : IH} {S : St} {a : Act} {w : World} (hs : SatM cx M ε I S a w) : ∀ {l : List (Nat × Operand)} {els : List (Nat × El)}, S.els l = some els → l.map (fun p => (p.1, a.eval p.2)) = els.map (fun p => (p.1, p.2.den ε)) ∧ ∀ p ∈ els, p.2.on M
  | [], _, h => by cases h; exact ⟨rfl, fun _ h => by cases h⟩
  | (i, x) :: t, els, h => by
    simp only [St.els] at h
    split at h
    · rename_i e l h1 h2
      cases h
      obtain ⟨h3, h4⟩ := SatM.elsv hs h2
      refine ⟨by simp [hs.eval h1, SV.den, h3], fun p hp => ?_⟩
      rcases List.mem_cons.1 hp with rfl | hp
      · exact hs.on (sv := .e e) h1
      · exact h4 p hp
    · cases h
theorem El.den_cells {ε : Env} {e : El} (h : ∀ y, e = .a y → (y.den ε).oneCell' = true) : (e.den ε).cells = (e.cells.map (At.den ε)).toArray := by
  cases e with
  | a y => simp [El.den, El.cells, cells_one (h y rfl)]
  | g l => rfl
theorem foldl_set : ∀ (ys : List Value) (k o : Nat) (cs : List Value), o + k + ys.length ≤ cs.length →
    (ys.zipIdx k).foldl (fun (acc : Array Value) (p : Value × Nat) => acc.setIfInBounds (o + p.2) p.1) cs.toArray = (cs.take (o + k) ++ ys ++ cs.drop (o + k + ys.length)).toArray
  | [], k, o, cs, h => by simp
  | y :: ys, k, o, cs, h => by
    rw [List.zipIdx_cons, List.foldl_cons]
    have h' : o + k < cs.length := by simp at h; omega
    have e : cs.toArray.setIfInBounds (o + k) y = (cs.set (o + k) y).toArray := by simp
    show List.foldl _ (cs.toArray.setIfInBounds (o + k) y) _ = _
    rw [e, foldl_set ys (k + 1) o (cs.set (o + k) y) (by simp at h ⊢; omega)]
    congr 1
    rw [show o + (k + 1) = o + k + 1 from by omega, List.take_succ_eq_append_getElem (by simpa using h')]
    simp only [List.getElem_set_self, List.take_set_of_le (Nat.le_refl _), List.append_assoc, List.cons_append, List.nil_append]
    congr 3
    rw [List.drop_set_of_lt (by omega)]
    simp; congr 1; omega
theorem fill_ok {pl : List (Nat × Nat)} {ε : Env} : ∀ {els : List (Nat × El)} {cs : List At} {ps : List (Nat × List At)}, partsOf pl cs.length els = some ps → (∀ p ∈ els, ∀ y, p.2 = .a y → (y.den ε).oneCell' = true) →
    Instr.fill (pl.toArray[·]?) (cs.map (At.den ε)).toArray (els.map fun p => (p.1, p.2.den ε)) = some ((fillc cs ps).map (At.den ε)).toArray ∧ (fillc cs ps).length = cs.length
  | [], cs, ps, h, _ => by cases h; simp [Instr.fill, fillc]
  | (i, e) :: t, cs, ps, h, h1 => by
    simp only [partsOf] at h
    split at h
    · rename_i o sz l h2 h3
      cases hb : (Nat.beq e.cells.length sz && Nat.ble (o + sz) cs.length) with
      | false => rw [hb] at h; cases h
      | true =>
        rw [hb] at h
        simp only [cond_true, Option.some.injEq] at h
        subst h
        simp only [Bool.and_eq_true, Nat.ble_eq] at hb
        obtain ⟨hb1, hb2⟩ := hb
        replace hb1 := Nat.eq_of_beq_eq_true hb1
        have hcells := El.den_cells (ε := ε) (e := e) (h1 (i, e) List.mem_cons_self)
        have hlen : (splice cs o e.cells).length = cs.length := by simp [splice]; omega
        obtain ⟨h4, h5⟩ := fill_ok (ε := ε) (els := t) (cs := splice cs o e.cells) (ps := l) (by rw [hlen]; exact h3) (fun p hp => h1 p (List.mem_cons_of_mem _ hp))
        refine ⟨?_, by simp [fillc, h5, hlen]⟩
        simp only [List.map_cons, Instr.fill]
        have hpl : (pl.toArray[i]? : Option (Nat × Nat)) = some (o, sz) := by simpa using h2
        rw [hpl]
        simp only [hcells]
        rw [if_neg (by simp; omega)]
        have := foldl_set (e.cells.map (At.den ε)) 0 o (cs.map (At.den ε)) (by simp; omega)
        have hz : (e.cells.map (At.den ε)).toArray.zipIdx.foldl (fun (acc : Array Value) (p : Value × Nat) => acc.setIfInBounds (o + p.2) p.1) (cs.map (At.den ε)).toArray = ((splice cs o e.cells).map (At.den ε)).toArray := by
          have hzi : (e.cells.map (At.den ε)).toArray.zipIdx = ((e.cells.map (At.den ε)).zipIdx).toArray := by simp
          rw [hzi, List.foldl_toArray, this]
          simp [splice, List.map_take, List.map_drop]
        have hz' : Array.foldl (fun (acc : Array Value) (x : Value × Nat) => match x with | (c, j) => acc.setIfInBounds (o + j) c) (cs.map (At.den ε)).toArray (e.cells.map (At.den ε)).toArray.zipIdx = ((splice cs o e.cells).map (At.den ε)).toArray := hz
        simp only [hz', fillc]
        exact h4
    · cases h
section ops
variable {cx : Cx} {S : St} {dst : Option Tmp} {ty : TypeId} {pos : String} {af : Array Edge} {gd : Option (Nat × Bool)}
theorem o_build {T : TypeId} {l : List (Nat × Operand)} {els : List (Nat × El)} {pl : List (Nat × Nat)} {zs : List Value} {cs : List At} {ps : List (Nat × List At)} (hT : BldT cx.P T pl zs) (hl : S.els l = some els) (h1 : OneEls S els) (hz : zs.map .v = cs) (hp : partsOf pl cs.length els = some ps) :
    OpG cx S ⟨dst, .build T l.toArray, ty, pos, af, gd⟩ (.val (.e (.g (fillc cs ps)))) := by
  obtain ⟨⟨fs, h2, h3⟩, z, h4, h5⟩ := hT
  subst hz
  refine OpG.pure (fun _ => by simp) fun M ε I a w hs => ?_
  obtain ⟨h6, h7⟩ := hs.elsv hl
  have hone : ∀ p ∈ els, ∀ y, p.2 = .a y → (y.den ε).oneCell' = true := by
    have : ∀ l : List (Nat × El), OneEls S l → ∀ p ∈ l, ∀ y, p.2 = .a y → (y.den ε).oneCell' = true := by
      intro l
      induction l with
      | nil => intro _ p hp; cases hp
      | cons q t ih =>
        intro h p hp y hy
        obtain ⟨i, e⟩ := q
        cases e with
        | a z =>
          rcases List.mem_cons.1 hp with rfl | hp
          · cases hy; exact hs.one h.1
          · exact ih h.2 p hp y hy
        | g l =>
          rcases List.mem_cons.1 hp with rfl | hp
          · cases hy
          · exact ih h p hp y hy
    exact this els h1
  obtain ⟨h8, _⟩ := fill_ok (ε := ε) hp hone
  refine ⟨?_, ?_⟩
  · have hon : ∀ (l : List (Nat × El)) (cs : List At) (ps : List (Nat × List At)), partsOf pl zs.length l = some ps → (∀ p ∈ l, p.2.on M) → (∀ c ∈ cs, c.on M) → ∀ c ∈ fillc cs ps, c.on M := by
      intro l
      induction l with
      | nil => intro cs ps h _ hc; cases h; exact hc
      | cons q t ih =>
        intro cs ps h hq hc
        obtain ⟨i, e⟩ := q
        simp only [partsOf] at h
        split at h
        · rename_i o sz l' _ h9
          cases hb : (Nat.beq e.cells.length sz && Nat.ble (o + sz) zs.length) with
          | false => rw [hb] at h; cases h
          | true =>
            rw [hb] at h
            simp only [cond_true, Option.some.injEq] at h
            subst h
            refine ih (splice cs o e.cells) l' h9 (fun p hp => hq p (List.mem_cons_of_mem _ hp)) ?_
            intro c hcm
            simp only [splice, List.mem_append] at hcm
            rcases hcm with (hcm | hcm) | hcm
            · exact hc c (List.mem_of_mem_take hcm)
            · have := hq (i, e) List.mem_cons_self
              cases e with
              | a y => rw [El.cells, List.mem_singleton] at hcm; subst hcm; exact this
              | g l => exact this c hcm
            · exact hc c (List.mem_of_mem_drop hcm)
        · cases h
    exact hon els _ ps (by simpa using hp) h7 (fun c hc => by obtain ⟨v, _, rfl⟩ := List.mem_map.1 hc; trivial)
  · have hcs : (zs.map (At.den ε ∘ At.v)) = zs := by simp [Function.comp_def, At.den]
    rw [List.map_map, hcs] at h8
    have h6' : (l.toArray.map fun (p : Nat × Operand) => (p.1, a.eval p.2)).toList = els.map (fun p => (p.1, p.2.den ε)) := by simpa using h6
    simp only [execOp, Sem.run_bind, Instr.build, h4, run_underlying h2, Result.andThen_ok, h3, h5, Sem.run_pure, h6', h8]
    rfl
end ops
end Go.Eng
