/- The engine, part B: the judgement on code, the rules of control, and the operations that compute. -/
import Derived.Test.YtglbnodjcngefaaEngA
set_option linter.unusedSimpArgs false
set_option linter.unusedVariables false
namespace Go.Eng
open Go

theorem Addr.add_plain (b o n : Nat) : (⟨b, o, none⟩ : Addr).add n = ⟨b, o + n, none⟩ := by
  unfold Go.Addr.add; split <;> simp_all
theorem Addr.add_add {a : Addr} (h : a.spot = none) (m n : Nat) : (a.add m).add n = a.add (m + n) := by
  obtain ⟨b, o, s⟩ := a
  simp only at h; subst h
  rw [Addr.add_plain, Addr.add_plain, Addr.add_plain, Nat.add_assoc]
theorem Addr.add_spot {a : Addr} (h : a.spot = none) (m : Nat) : (a.add m).spot = none := by
  obtain ⟨b, o, s⟩ := a
  simp only at h; subst h
  rw [Addr.add_plain]
theorem Addr.add_block (a : Addr) (m : Nat) : (a.add m).block = a.block := by unfold Go.Addr.add; split <;> rfl
theorem Addr.add_zero' (a : Addr) : a.add 0 = a := by simp [Go.Addr.add]

/-! ### What values stand for -/
/-- How one element's cells stand for a datum. -/
structure EP (α : Type) where
  size : Nat
  h : IH → List Value → α → Prop
  len : ∀ {I : IH} {cs : List Value} {x : α}, h I cs x → cs.length = size
  mono : ∀ {I I' : IH} {cs : List Value} {x : α}, I.le I' → h I cs x → h I' cs x
/-- Fixed cells: no memory behind them. -/
def EP.fix {α : Type} (n : Nat) (enc : α → List Value) (hn : ∀ x, (enc x).length = n) : EP α := ⟨n, fun _ cs x => cs = enc x, fun h => h ▸ hn _, fun _ h => h⟩
def EP.int : EP Int := .fix 1 (fun n => [.int .i64 n]) (fun _ => rfl)
/-- The slice value v reads as the list l. -/
def PL {α : Type} (E : EP α) (l : List α) : Pred where
  h I v := ∃ a cap, v = .slice a l.length cap ∧ l.length ≤ cap ∧ ∀ i (hi : i < l.length), ∃ cs ad, E.h I cs l[i] ∧ a = some ad ∧ ad.spot = none ∧ ∀ j y, cs[j]? = some y → I.cell (ad.add (i * E.size + j)) = some y
  mono := by
    rintro I I' v hI ⟨a, cap, hv, hc, h⟩
    refine ⟨a, cap, hv, hc, fun i hi => ?_⟩
    obtain ⟨cs, ad, h1, h2, h3, h4⟩ := h i hi
    exact ⟨cs, ad, E.mono hI h1, h2, h3, fun j y hj => IH.cell_mono hI (h4 j y hj)⟩
def EP.sl {α : Type} (E : EP α) : EP (List α) := ⟨1, fun I cs l => ∃ v, cs = [v] ∧ (PL E l).h I v, fun ⟨_, h, _⟩ => by rw [h]; rfl, fun hI ⟨v, h, k⟩ => ⟨v, h, (PL E _).mono hI k⟩⟩
/-- The pointer v leads to cells that stand for x. -/
def PP {α : Type} (E : EP α) (x : α) : Pred where
  h I v := ∃ ad cs, v = .pointer (some ad) ∧ ad.spot = none ∧ E.h I cs x ∧ ∀ j y, cs[j]? = some y → I.cell (ad.add j) = some y
  mono := by
    rintro I I' v hI ⟨ad, cs, h1, h2, h3, h4⟩
    exact ⟨ad, cs, h1, h2, E.mono hI h3, fun j y hj => IH.cell_mono hI (h4 j y hj)⟩
/-- Rows of the call's own. -/
def RP {α : Type} (E : EP α) (l : List α) : LPred where
  h I xs := ∃ css : List (List Value), xs = css.flatten ∧ css.length = l.length ∧ ∀ i (hi : i < css.length) (hl : i < l.length), E.h I css[i] l[i]
  mono := by
    rintro I I' xs hI ⟨css, h1, h2, h3⟩
    exact ⟨css, h1, h2, fun i hi hl => E.mono hI (h3 i hi hl)⟩
def Pred.iff (b : Bool) (R : Pred) : Pred := ⟨fun I v => b = true → R.h I v, fun hI h hb => R.mono hI (h hb)⟩
def Pred.top : Pred := ⟨fun _ _ => True, fun _ h => h⟩
def Pred.is (y : Value) : Pred := ⟨fun _ v => v = y, fun _ h => h⟩

/-- The fact R on the hidden value j, out of the listed ones. -/
def Has (X : List (Nat × Pred)) (j : Nat) (R : Pred) : Prop := ∃ R', look j X = some R' ∧ ∀ I v, R'.h I v → R.h I v
theorem lx {X : List (Nat × Pred)} {j : Nat} {R : Pred} (h : look j X = some R) : Has X j R := ⟨R, h, fun _ _ h => h⟩
theorem lxi {X : List (Nat × Pred)} {j : Nat} {R : Pred} {b : Bool} (hb : b = true) (h : look j X = some (Pred.iff b R)) : Has X j R := ⟨_, h, fun _ _ h => h hb⟩

/-! ### The judgements -/
def WP (cx : Cx) (S : St) (c : Code) (Q : Exit → Act → World → Prop) : Prop := ∀ ε I a w, Sat cx ε I S a w → c.wpIn (fen cx.r) 0 cx.P Q a w
def WPl (cx : Cx) (ops : Array Oper) (S : St) (l : List Oper) (Q : Exit → Act → World → Prop) : Prop := ∀ ε I a w, Sat cx ε I S a w → wpListIn (fen cx.r) 0 cx.P ops Q l a w
def EX (cx : Cx) (S : St) (e : Exit) (Q : Exit → Act → World → Prop) : Prop := ∀ ε I a w, Sat cx ε I S a w → Q e a w

section rules
variable {cx : Cx} {S : St} {Q : Exit → Act → World → Prop} {ops : Array Oper}
theorem WP.seq {c1 c2 : Code} (h : WP cx S c1 (Exit.then (c2.wpIn (fen cx.r) 0 cx.P Q) Q)) : WP cx S (.seq c1 c2) Q := fun ε I a w hs => wpIn_seq (h ε I a w hs)
theorem WP.region {id : Nat} {l : List Oper} (h : WPl cx l.toArray S l Q) : WP cx S (.region id l.toArray false) Q := fun ε I a w hs => wpIn_region_lit (h ε I a w hs)
theorem WPl.nil (h : EX cx S .normal Q) : WPl cx ops S [] Q := fun ε I a w hs => h ε I a w hs
theorem EX.then {c : Code} {Q' : Exit → Act → World → Prop} (h : WP cx S c Q) : EX cx S .normal (Exit.then (c.wpIn (fen cx.r) 0 cx.P Q) Q') := fun ε I a w hs => h ε I a w hs
theorem EX.ret_then {K : Act → World → Prop} (h : EX cx S .ret Q) : EX cx S .ret (Exit.then K Q) := h
theorem EX.exit_then {K : Act → World → Prop} {id : Nat} (h : EX cx S (.exit id) Q) : EX cx S (.exit id) (Exit.then K Q) := h
theorem EX.blk {id : Nat} (h : EX cx S .normal Q) : EX cx S .normal (Exit.inBlock id Q) := h
theorem EX.ret_blk {id : Nat} (h : EX cx S .ret Q) : EX cx S .ret (Exit.inBlock id Q) := h
theorem EX.exit_blk {id : Nat} (h : EX cx S .normal Q) : EX cx S (.exit id) (Exit.inBlock id Q) := fun ε I a w hs => by
  simp only [Exit.inBlock, if_true]; exact h ε I a w hs
theorem EX.exit_out {id id' : Nat} (hne : Nat.beq id' id = false) (h : EX cx S (.exit id') Q) : EX cx S (.exit id') (Exit.inBlock id Q) := fun ε I a w hs => by
  have : ¬ id' = id := fun e => by subst e; simp at hne
  simp only [Exit.inBlock, this, if_false]; exact h ε I a w hs
theorem WP.block {id : Nat} {c : Code} (h : WP cx S c (Exit.inBlock id Q)) : WP cx S (.block id c) Q := fun ε I a w hs => wpIn_block (h ε I a w hs)
theorem WP.skip (h : EX cx S .normal Q) : WP cx S .skip Q := fun ε I a w hs => wpIn_skip (h ε I a w hs)
theorem WP.ret (h : EX cx S .ret Q) : WP cx S .ret Q := fun ε I a w hs => wpIn_ret (h ε I a w hs)
theorem WP.exit {id : Nat} (h : EX cx S (.exit id) Q) : WP cx S (.exit id) Q := fun ε I a w hs => wpIn_exit (h ε I a w hs)
theorem WP.le {S' : St} {c : Code} (hn : S'.n = S.n) (hl : S.le S') (h : WP cx S' c Q) : WP cx S c Q := fun ε I a w hs =>
  h ε I a w (by unfold Sat; rw [hn]; exact SatM.le hl hs)
end rules

/-! ### Operands -/
def St.op (S : St) : Operand → Option SV
  | .tmp t => look t S.fr
  | .const v => some (.e (.a (.v v)))
  | .global _ => none
  | .func f => some (.e (.a (.f f [])))
theorem SatM.eval {cx : Cx} {M : Nat → Prop} {ε : Env} {I : IH} {S : St} {a : Act} {w : World} (h : SatM cx M ε I S a w) {x : Operand} {sv : SV} (hx : S.op x = some sv) : a.eval x = sv.den ε := by
  cases x with
  | tmp t =>
    have := h.fr t sv hx
    simp [Act.eval, this]
  | const v => simp only [St.op, Option.some.injEq] at hx; subst hx; rfl
  | global g => cases hx
  | func f => simp only [St.op, Option.some.injEq] at hx; subst hx; rfl
theorem SatM.on {cx : Cx} {M : Nat → Prop} {ε : Env} {I : IH} {S : St} {a : Act} {w : World} (h : SatM cx M ε I S a w) {x : Operand} {sv : SV} (hx : S.op x = some sv) : sv.on ε.γ M := by
  cases x with
  | tmp t => exact h.wfr t sv hx
  | const v => simp only [St.op, Option.some.injEq] at hx; subst hx; trivial
  | global g => cases hx
  | func f => simp only [St.op, Option.some.injEq] at hx; subst hx; intro j hj; cases hj

theorem SatM.has {cx : Cx} {M : Nat → Prop} {ε : Env} {I : IH} {S : St} {a : Act} {w : World} (h : SatM cx M ε I S a w) {j : Nat} {R : Pred} (hj : Has S.X j R) : R.h I (ε.ν j) := by
  obtain ⟨R', h1, h2⟩ := hj; exact h2 _ _ (h.X j R' h1)
theorem semAt_eq (r : Option Nat) (ρ : Operand → Value) (o : Oper) (h : ∀ c, o.op ≠ .defer c) : Oper.semAt r ρ o = execOp ρ o := by
  cases r with
  | none => rfl
  | some l => exact Oper.semAt_some l ρ o h

theorem Tr.refl {n0 : Nat} {ε : Env} {I : IH} {w : World} {fp : Nat → Prop} (hI : I.on w) : Tr n0 ε ε I I w w [] fp :=
  ⟨fun _ _ => ⟨rfl, rfl, rfl⟩, IH.le.rfl', hI, rfl, rfl, rfl, Nat.le_refl _, fun _ _ _ => rfl, fun _ _ h => .inl h⟩
theorem New.val {cx : Cx} {M : Nat → Prop} {S : St} {ε : Env} {I : IH} {w w' : World} {sv : SV} (h : sv.on ε.γ M) : New cx M S ε ε I w w' (.val sv) :=
  ⟨SV.on_mono (fun _ => .inl) h, fun _ _ h => (by cases h), fun _ _ h => (by cases h), fun _ _ h => (by cases h), fun _ _ h => (by cases h), fun _ _ h => (by cases h), fun _ _ h => (by cases h), fun _ _ _ _ _ h => (by cases h), fun _ _ h => (by cases h)⟩

/-- An operation that computes one value and leaves the world alone. -/
theorem OpG.pure {cx : Cx} {S : St} {o : Oper} {sv : SV} (hnd : ∀ c, o.op ≠ .defer c)
    (h : ∀ M ε I a w, SatM cx M ε I S a w → sv.on ε.γ M ∧ (execOp a.eval o).run cx.P w = .ok (.value (sv.den ε)) w) : OpG cx S o (.val sv) := by
  intro M ε I a w next Q hs _ K
  obtain ⟨h1, h2⟩ := h M ε I a w hs
  refine ⟨fun _ _ => trivial, ?_⟩
  rw [semAt_eq _ _ _ hnd, h2]
  exact K ε I w (Tr.refl hs.imm) (New.val h1)

/-! ### An operation in its region -/
def opw (cx : Cx) (ops : Array Oper) (o : Oper) (a : Act) (w : World) (next : Act → World → Prop) (Q : Exit → Act → World → Prop) : Prop :=
  if Region.wanted o (yielded ops a.tmps) then o.wpIn (fen cx.r) 0 cx.P a w next Q else (∀ f, o.about cx.P w a.eval = some f → (fen cx.r).fn f) ∧ next (a.put o.dst undef) w
/-- The contract of an operation, its guard looked at. -/
def ROp (cx : Cx) (ops : Array Oper) (S : St) (o : Oper) (u : U) : Prop :=
  ∀ (M : Nat → Prop) (ε : Env) (I : IH) (a : Act) (w : World) (next : Act → World → Prop) (Q : Exit → Act → World → Prop), SatM cx M ε I S a w → (∀ k ∈ u.N, ¬ M k) →
    (∀ ε' I' w', Tr cx.w0.heap.size ε ε' I I' w w' u.N (fpOf S ε u) → New cx M S ε ε' I' w w' u → next (a.put o.dst (u.sv.den ε')) w') → opw cx ops o a w next Q
theorem ROp.plain {cx : Cx} {ops : Array Oper} {S : St} {o : Oper} {u : U} (hg : o.guard = none) (h : OpG cx S o u) : ROp cx ops S o u := by
  intro M ε I a w next Q hs hN K
  unfold opw
  simp only [Region.wanted, hg, if_true]
  exact h M ε I a w next Q hs hN K

def strip (gs : List Nat) : SV → SV
  | .c g x => if g ∈ gs then .e x else .c g x
  | x => x
def und (gs : List Nat) : List (Nat × SV) → List (Nat × SV)
  | [] => []
  | (i, x) :: t => (i, strip gs x) :: und gs t
theorem look_und (gs : List Nat) (i : Nat) : ∀ fr : List (Nat × SV), look i (und gs fr) = (look i fr).map (strip gs)
  | [] => rfl
  | (k, x) :: t => by
    rw [und, look_cons, look_cons, look_und gs i t]
    by_cases h : k = i <;> simp [h]
def St.und (S : St) (gs : List Nat) : St := { S with fr := Eng.und gs S.fr }
theorem SatM.und {cx : Cx} {M : Nat → Prop} {ε : Env} {I : IH} {S : St} {a : Act} {w : World} {gs : List Nat} (hg : ∀ g ∈ gs, ε.γ g = true) (h : SatM cx M ε I S a w) : SatM cx M ε I (S.und gs) a w := by
  have key : ∀ i x, look i (Eng.und gs S.fr) = some x → x.on ε.γ M ∧ a.tmps[i]? = some (x.den ε) := by
    intro i x hx
    rw [look_und] at hx
    cases hl : look i S.fr with
    | none => rw [hl] at hx; cases hx
    | some y =>
      rw [hl] at hx
      simp only [Option.map_some, Option.some.injEq] at hx
      subst hx
      have h1 := h.wfr i y hl
      have h2 := h.fr i y hl
      cases y with
      | e y => exact ⟨h1, h2⟩
      | t l => exact ⟨h1, h2⟩
      | c g y =>
        simp only [strip]
        split
        · rename_i hgs
          refine ⟨h1.2 (hg g hgs), ?_⟩
          simp only [SV.den, hg g hgs, cond_true] at h2
          exact h2
        · exact ⟨h1, h2⟩
  exact { h with wfr := fun i x hx => (key i x hx).1, fr := fun i x hx => (key i x hx).2 }

def U.cond (u : U) (g : Nat) (b : Bool) (x : El) : U := ⟨.c g x, u.N, u.X.map (fun p => (p.1, Pred.iff b p.2)), [], []⟩
theorem look_map {α γ : Type} (f : α → γ) (i : Nat) : ∀ t : List (Nat × α), look i (t.map fun p => (p.1, f p.2)) = (look i t).map f
  | [] => rfl
  | (k, x) :: t => by
    rw [List.map_cons, look_cons, look_cons, look_map f i t]
    by_cases h : k = i <;> simp [h]
/-- What the slot that a guard looks at holds. -/
def gval (S : St) (j : Nat) (b : Bool) : Prop := look j S.fr = some (.e (.a (.v (.bool b)))) 
/-- **A guarded operation**: it is carried out where the guard's bit is as wanted; else its slot holds nothing that is read. g: the guard's number, whose bit says whether it is. -/
theorem ROp.guard {cx : Cx} {ops : Array Oper} {S : St} {o : Oper} {u : U} {g : Nat} {gs : List Nat} {b : Bool} {x : El} {j dj : Nat} {want : Bool} {sv : SV} (hg : o.guard = some (j, want)) (hj : (ops[j]?).bind (·.dst) = some dj)
    (hdj : look dj S.fr = some sv) (hbit : look g S.G = some b) (hb : ∀ ε : Env, (∀ k c, look k S.G = some c → ε.γ k = c) → (b = true ↔ sv.den ε = .bool want))
    (hgs : ∀ ε : Env, (∀ k c, look k S.G = some c → ε.γ k = c) → b = true → ∀ k ∈ gs, ε.γ k = true)
    (hu : u.sv = .e x) (hL : u.L = []) (hX : ∀ k R, look k u.X = some R → k ∈ u.N) (h : b = true → OpG cx (S.und gs) o u) : ROp cx ops S o (u.cond g b x) := by
  intro M ε I a w next Q hs hN K
  have hdv := hs.fr dj sv hdj
  have hγ := hs.G g b hbit
  have hMg := hs.wfG g b hbit
  unfold opw
  have hw : Region.wanted o (yielded ops a.tmps) = true ↔ b = true := by
    rw [hb ε hs.G]
    simp only [Region.wanted, hg, yielded, hj, Option.bind_some, hdv]
    cases hsv : sv.den ε <;> simp
  by_cases hbt : b = true
  · rw [if_pos (hw.2 hbt)]
    have hs' := SatM.und (hgs ε (hs.G) hbt) hs
    refine h hbt M ε I a w next Q hs' hN fun ε' I' w' ht hn => ?_
    have hfp : fpOf S ε (u.cond g b x) = fpOf (S.und gs) ε u := by
      funext c; simp [fpOf, U.cond, hL, look]
    have hγ' : ε'.γ g = true := by
      rw [(ht.ag g (fun hm => hN g hm hMg)).2.2, hγ, hbt]
    have hsv : (u.cond g b x).sv.den ε' = u.sv.den ε' := by rw [hu]; simp [U.cond, SV.den, hγ']
    rw [← hsv]
    refine K ε' I' w' (by rw [hfp]; exact ht) ⟨⟨.inl hMg, fun _ => by have := hn.sv; rw [hu] at this; exact this⟩, ?_, fun _ _ h => (by cases h), fun _ _ h => (by cases h), ?_, fun _ _ h => (by cases h), fun _ _ h => (by cases h), fun _ _ _ _ _ h => (by cases h), fun _ _ h => (by cases h)⟩
    · intro k R hR
      simp only [U.cond, look_map] at hR
      cases hk : look k u.X with
      | none => rw [hk] at hR; cases hR
      | some R' => exact hn.wX k R' hk
    · intro k R hR
      simp only [U.cond, look_map] at hR
      cases hk : look k u.X with
      | none => rw [hk] at hR; cases hR
      | some R' =>
        rw [hk] at hR
        simp only [Option.map_some, Option.some.injEq] at hR
        subst hR
        exact fun _ => hn.X k R' hk
  · rw [if_neg (by rw [hw]; exact hbt)]
    have hbf : b = false := by simpa using hbt
    refine ⟨fun _ _ => trivial, ?_⟩
    have hsv : (u.cond g b x).sv.den ε = undef := by simp [U.cond, SV.den, hγ, hbf]
    rw [← hsv]
    refine K ε I w ⟨fun _ _ => ⟨rfl, rfl, rfl⟩, IH.le.rfl', hs.imm, rfl, rfl, rfl, Nat.le_refl _, fun _ _ _ => rfl, fun _ _ h => .inl h⟩ ⟨⟨.inl hMg, fun hg' => by rw [hγ, hbf] at hg'; cases hg'⟩, ?_, fun _ _ h => (by cases h), fun _ _ h => (by cases h), ?_, fun _ _ h => (by cases h), fun _ _ h => (by cases h), fun _ _ _ _ _ h => (by cases h), fun _ _ h => (by cases h)⟩
    · intro k R hR
      simp only [U.cond, look_map] at hR
      cases hk : look k u.X with
      | none => rw [hk] at hR; cases hR
      | some R' => exact .inr (hX k R' hk)
    · intro k R hR
      simp only [U.cond, look_map] at hR
      cases hk : look k u.X with
      | none => rw [hk] at hR; cases hR
      | some R' =>
        rw [hk] at hR
        simp only [Option.map_some, Option.some.injEq] at hR
        subst hR
        exact fun h => absurd h hbt

/-! ### One after the other -/
section steps
variable {cx : Cx} {Q : Exit → Act → World → Prop} {ops : Array Oper} {rest : List Oper}

theorem WPl.upd {S S0 : St} {o : Oper} {u : U} (m : Nat) (h : ROp cx ops S0 o u) (hle : S.le S0) (hd : ∀ i, o.dst = some i → i < cx.N) (hN : ∀ k ∈ u.N, S.n ≤ k ∧ k < m) (hm : S.n ≤ m)
    (K : WPl cx ops (S.app m o.dst u) rest Q) : WPl cx ops S (o :: rest) Q := by
  intro ε I a w hs
  refine wpListIn_step fun K' hK => ?_
  refine h _ ε I a w K' Q (SatM.le hle hs) (fun k hk hlt => by have := (hN k hk).1; omega) fun ε' I' w' ht hn => hK _ _ (K ε' I' _ w' ?_)
  have hN' : ∀ k ∈ u.N, ¬ k < S.n := fun k hk hlt => by have := (hN k hk).1; omega
  refine SatM.mono ?_ (SatM.app m hs hle hN' hd ht hn)
  rintro k (hk | hk)
  · exact Nat.lt_of_lt_of_le hk hm
  · exact (hN k hk).2

theorem St.le.refl (S : St) : S.le S := ⟨fun _ _ h => h, fun _ _ h => h, fun _ _ h => h, rfl, fun _ _ h => h⟩

variable {n : Nat} {fr : List (Nat × SV)} {X : List (Nat × Pred)} {L : List (Nat × Ent)} {D : List Nat} {G : List (Nat × Bool)} {d : Tmp} {op : Op} {ty : TypeId} {pos : String} {af : Array Edge} {gd : Option (Nat × Bool)} {sv : SV}
/-- A step that computes a value. -/
theorem WPl.v (hd : Nat.blt d cx.N = true) (h : OpG cx ⟨n, fr, X, L, D, G⟩ ⟨some d, op, ty, pos, af, none⟩ (.val sv)) (K : WPl cx ops ⟨n, (d, sv) :: fr, X, L, D, G⟩ rest Q) :
    WPl cx ops ⟨n, fr, X, L, D, G⟩ (⟨some d, op, ty, pos, af, none⟩ :: rest) Q :=
  have hd' : d < cx.N := by rw [Nat.blt_eq] at hd; exact hd
  WPl.upd n (ROp.plain rfl h) (St.le.refl _) (fun i hi => by cases hi; exact hd') (fun k hk => by cases hk) (Nat.le_refl _) K
/-- A step that lays something new. -/
theorem WPl.u1 {k m : Nat} {X' : List (Nat × Pred)} {L' : List (Nat × Ent)} (hk : Nat.ble n k = true) (hm : Nat.blt k m = true) (hd : Nat.blt d cx.N = true) (h : OpG cx ⟨n, fr, X, L, D, G⟩ ⟨some d, op, ty, pos, af, none⟩ ⟨sv, [k], X', L', []⟩)
    (K : WPl cx ops ⟨m, (d, sv) :: fr, X' ++ X, L' ++ L, D, G⟩ rest Q) :
    WPl cx ops ⟨n, fr, X, L, D, G⟩ (⟨some d, op, ty, pos, af, none⟩ :: rest) Q :=
  have hk' : n ≤ k := by simpa using hk
  have hm' : k < m := by rw [Nat.blt_eq] at hm; exact hm
  have hd' : d < cx.N := by rw [Nat.blt_eq] at hd; exact hd
  WPl.upd m (ROp.plain rfl h) (St.le.refl _) (fun i hi => by cases hi; exact hd') (fun j hj => by rw [List.mem_singleton] at hj; subst hj; exact ⟨hk', hm'⟩) (by show n ≤ m; omega) K
/-- A step that turns entries (a store). -/
theorem WPl.s {L' : List (Nat × Ent)} (h : OpG cx ⟨n, fr, X, L, D, G⟩ ⟨none, op, ty, pos, af, none⟩ ⟨sv, [], [], L', []⟩)
    (K : WPl cx ops ⟨n, fr, X, L' ++ L, D, G⟩ rest Q) :
    WPl cx ops ⟨n, fr, X, L, D, G⟩ (⟨none, op, ty, pos, af, none⟩ :: rest) Q :=
  WPl.upd n (ROp.plain rfl h) (St.le.refl _) (fun i hi => by cases hi) (fun k hk => by cases hk) (Nat.le_refl _) K
end steps

end Go.Eng
