/- The engine, part C: the operations that compute or touch memory, one law each. -/
import Derived.Test.YtglbnodjcngefaaEngB
set_option linter.unusedSimpArgs false
set_option linter.unusedVariables false
namespace Go.Eng
open Go

abbrev SV.i (n : Int) : SV := .e (.a (.v (.int .i64 n)))
abbrev SV.b (b : Bool) : SV := .e (.a (.v (.bool b)))
abbrev ai (n : Int) : At := .v (.int .i64 n)
def nth {α : Type} [Inhabited α] (l : List α) (i : Int) : α := l.getD i.toNat default
def El.cells : El → List At
  | .a x => [x]
  | .g l => l

theorem wrap_in {n : Int} (h1 : -9223372036854775808 ≤ n) (h2 : n ≤ 9223372036854775807) : IntKind.i64.wrap n = n := by
  have h3 : (2 : Int) ^ IntKind.i64.bits = 18446744073709551616 := by decide
  have h4 : (2 : Int) ^ (IntKind.i64.bits - 1) = 9223372036854775808 := by decide
  simp only [IntKind.wrap, h3, h4, IntKind.signed, Bool.true_and, decide_eq_true_eq]
  split <;> omega

/-! ### What is asked of the program's types -/
/-- A type of one cell. -/
structure TyS (P : Program) (T : TypeId) : Prop where
  ag : ∀ w, (isAgg T).run P w = .ok false w
  sz : ∀ w, (sizeOf T).run P w = .ok 1 w
/-- A struct or an array of m cells. -/
structure TyG (P : Program) (T : TypeId) (m : Nat) : Prop where
  ag : ∀ w, (isAgg T).run P w = .ok true w
  sz : ∀ w, (sizeOf T).run P w = .ok m w
def Fld (P : Program) (T : TypeId) (f off : Nat) : Prop := ∀ a w, (Instr.fieldAt T (.pointer (some a)) f).run P w = .ok (.pointer (some (a.add off))) w
def Zero (P : Program) (T : TypeId) (cs : List At) : Prop := ∃ z, (∀ w, (zeroValue T).run P w = .ok z w) ∧ (∀ ε, z.cells = (cs.map (At.den ε)).toArray) ∧ ∀ M : Nat → Prop, ∀ c ∈ cs, c.on M
def IsSl (P : Program) (T e : TypeId) (sz : Nat) : Prop := P.underlying T = some (.slice e) ∧ ∀ w, (sizeOf e).run P w = .ok sz w

section ops
variable {cx : Cx} {S : St} {dst : Option Tmp} {ty : TypeId} {pos : String} {af : Array Edge} {gd : Option (Nat × Bool)}

theorem o_move {x : Operand} {sv : SV} (hx : S.op x = some sv) : OpG cx S ⟨dst, .move x, ty, pos, af, gd⟩ (.val sv) :=
  OpG.pure (fun _ => by simp) fun M ε I a w hs => ⟨hs.on hx, by simp [execOp, hs.eval hx]⟩
theorem o_assign {x : Operand} {sv : SV} (hx : S.op x = some sv) : OpG cx S ⟨dst, .assign x, ty, pos, af, gd⟩ (.val sv) :=
  OpG.pure (fun _ => by simp) fun M ε I a w hs => ⟨hs.on hx, by simp [execOp, hs.eval hx]⟩

/-! #### Numbers -/
theorem o_bin {op : BinOp} {x y : Operand} {t t' : TypeId} {a b : Int} {r : Value} (hx : S.op x = some (.i a)) (hy : S.op y = some (.i b))
    (hr : ∀ w, (do eqGuard op t x y (.int .i64 a) (.int .i64 b); binOp op t (.int .i64 a) (.int .i64 b) : Sem Value).run cx.P w = .ok r w) :
    OpG cx S ⟨dst, .binOp op t x y t', ty, pos, af, gd⟩ (.val (.e (.a (.v r)))) :=
  OpG.pure (fun _ => by simp) fun M ε I ac w hs => ⟨trivial, by
    have h1 := hs.eval hx; have h2 := hs.eval hy
    simp only [SV.den, El.den, At.den] at h1 h2
    simp only [execOp, h1, h2]
    rw [Sem.run_bind, hr]
    rfl⟩
section
variable {x y : Operand} {t t' : TypeId} {a b : Int}
theorem o_addw (hx : S.op x = some (.i a)) (hy : S.op y = some (.i b)) : OpG cx S ⟨dst, .binOp .add t x y t', ty, pos, af, gd⟩ (.val (.i (IntKind.i64.wrap (a + b)))) :=
  o_bin hx hy fun w => by simp [eqGuard, binOp, Op.intArith]
theorem o_subw (hx : S.op x = some (.i a)) (hy : S.op y = some (.i b)) : OpG cx S ⟨dst, .binOp .sub t x y t', ty, pos, af, gd⟩ (.val (.i (IntKind.i64.wrap (a - b)))) :=
  o_bin hx hy fun w => by simp [eqGuard, binOp, Op.intArith]
theorem o_mulw (hx : S.op x = some (.i a)) (hy : S.op y = some (.i b)) : OpG cx S ⟨dst, .binOp .mul t x y t', ty, pos, af, gd⟩ (.val (.i (IntKind.i64.wrap (a * b)))) :=
  o_bin hx hy fun w => by simp [eqGuard, binOp, Op.intArith]
theorem o_add (hx : S.op x = some (.i a)) (hy : S.op y = some (.i b)) (h1 : -9223372036854775808 ≤ a + b) (h2 : a + b ≤ 9223372036854775807) : OpG cx S ⟨dst, .binOp .add t x y t', ty, pos, af, gd⟩ (.val (.i (a + b))) := by
  have := o_addw (cx := cx) (dst := dst) (ty := ty) (pos := pos) (af := af) (gd := gd) (t := t) (t' := t') hx hy; rwa [wrap_in h1 h2] at this
theorem o_sub (hx : S.op x = some (.i a)) (hy : S.op y = some (.i b)) (h1 : -9223372036854775808 ≤ a - b) (h2 : a - b ≤ 9223372036854775807) : OpG cx S ⟨dst, .binOp .sub t x y t', ty, pos, af, gd⟩ (.val (.i (a - b))) := by
  have := o_subw (cx := cx) (dst := dst) (ty := ty) (pos := pos) (af := af) (gd := gd) (t := t) (t' := t') hx hy; rwa [wrap_in h1 h2] at this
theorem o_mul (hx : S.op x = some (.i a)) (hy : S.op y = some (.i b)) (h1 : -9223372036854775808 ≤ a * b) (h2 : a * b ≤ 9223372036854775807) : OpG cx S ⟨dst, .binOp .mul t x y t', ty, pos, af, gd⟩ (.val (.i (a * b))) := by
  have := o_mulw (cx := cx) (dst := dst) (ty := ty) (pos := pos) (af := af) (gd := gd) (t := t) (t' := t') hx hy; rwa [wrap_in h1 h2] at this
theorem o_lss (hx : S.op x = some (.i a)) (hy : S.op y = some (.i b)) : OpG cx S ⟨dst, .binOp .lss t x y t', ty, pos, af, gd⟩ (.val (.b (decide (a < b)))) :=
  o_bin hx hy fun w => by simp [eqGuard, binOp, Op.intCmp]
theorem o_leq (hx : S.op x = some (.i a)) (hy : S.op y = some (.i b)) : OpG cx S ⟨dst, .binOp .leq t x y t', ty, pos, af, gd⟩ (.val (.b (decide (a ≤ b)))) :=
  o_bin hx hy fun w => by simp [eqGuard, binOp, Op.intCmp]
theorem o_gtr (hx : S.op x = some (.i a)) (hy : S.op y = some (.i b)) : OpG cx S ⟨dst, .binOp .gtr t x y t', ty, pos, af, gd⟩ (.val (.b (decide (b < a)))) :=
  o_bin hx hy fun w => by simp [eqGuard, binOp, Op.intCmp]
theorem o_geq (hx : S.op x = some (.i a)) (hy : S.op y = some (.i b)) : OpG cx S ⟨dst, .binOp .geq t x y t', ty, pos, af, gd⟩ (.val (.b (decide (b ≤ a)))) :=
  o_bin hx hy fun w => by simp [eqGuard, binOp, Op.intCmp]
theorem o_eql (hx : S.op x = some (.i a)) (hy : S.op y = some (.i b)) : OpG cx S ⟨dst, .binOp .eql t x y t', ty, pos, af, gd⟩ (.val (.b (decide (a = b)))) :=
  o_bin hx hy fun w => by simp [eqGuard, binOp, Op.intCmp]; rfl
theorem o_neq (hx : S.op x = some (.i a)) (hy : S.op y = some (.i b)) : OpG cx S ⟨dst, .binOp .neq t x y t', ty, pos, af, gd⟩ (.val (.b (decide (a ≠ b)))) :=
  o_bin hx hy fun w => by simp [eqGuard, binOp, Op.intCmp]; rfl
theorem o_neg (hx : S.op x = some (.i a)) (h1 : -9223372036854775807 ≤ a) (h2 : a ≤ 9223372036854775807) : OpG cx S ⟨dst, .unOp .neg t x, ty, pos, af, gd⟩ (.val (.i (-a))) :=
  OpG.pure (fun _ => by simp) fun M ε I ac w hs => ⟨trivial, by
    have h := hs.eval hx
    simp only [SV.den, El.den, At.den] at h
    have hw : IntKind.i64.wrap (0 - a) = -a := by rw [wrap_in (by omega) (by omega)]; omega
    simp [execOp, h, Op.unary, Op.intArith, SV.den, El.den, At.den]
    simpa using hw⟩
theorem o_not {b : Bool} (hx : S.op x = some (.b b)) : OpG cx S ⟨dst, .unOp .not t x, ty, pos, af, gd⟩ (.val (.b (!b))) :=
  OpG.pure (fun _ => by simp) fun M ε I ac w hs => ⟨trivial, by
    have h := hs.eval hx
    simp only [SV.den, El.den, At.den] at h
    simp [execOp, h, Op.unary, SV.den, El.den, At.den]⟩
end

/-! #### Picks -/
theorem o_pick {c x y : Operand} {b : Bool} {sv : SV} (hc : S.op c = some (.b b))
    (hxy : ∀ M ε I a w, SatM cx M ε I S a w → sv.on ε.γ M ∧ (if b then a.eval x else a.eval y) = sv.den ε) : OpG cx S ⟨dst, .pick c x y, ty, pos, af, gd⟩ (.val sv) :=
  OpG.pure (fun _ => by simp) fun M ε I a w hs => by
    obtain ⟨h1, h2⟩ := hxy M ε I a w hs
    refine ⟨h1, ?_⟩
    have h := hs.eval hc
    simp only [SV.den, El.den, At.den] at h
    simp [execOp, h, asBool, h2]
/-- 'b && y', y reckoned under the guard g. -/
theorem o_and {c x : Operand} {b b' y : Bool} {g : Nat} (hc : S.op c = some (.b b)) (hx : S.op x = some (.c g (.a (.v (.bool y))))) (hg : look g S.G = some b') (hb : b = true → b' = true) :
    OpG cx S ⟨dst, .pick c x (.const (.bool false)), ty, pos, af, gd⟩ (.val (.b (b && y))) :=
  o_pick hc fun M ε I a w hs => ⟨trivial, by
    have h1 := hs.eval hx
    have h2 := hs.G g b' hg
    cases b with
    | false => rfl
    | true => simp only [if_true, h1, SV.den, El.den, At.den, h2, hb rfl, cond_true, Bool.true_and]⟩
/-- 'b || y', y reckoned under the guard g. -/
theorem o_or {c x : Operand} {b b' y : Bool} {g : Nat} (hc : S.op c = some (.b b)) (hx : S.op x = some (.c g (.a (.v (.bool y))))) (hg : look g S.G = some b') (hb : b = false → b' = true) :
    OpG cx S ⟨dst, .pick c (.const (.bool true)) x, ty, pos, af, gd⟩ (.val (.b (b || y))) :=
  o_pick hc fun M ε I a w hs => ⟨trivial, by
    have h1 := hs.eval hx
    have h2 := hs.G g b' hg
    cases b with
    | true => rfl
    | false =>
      simp only [Bool.false_eq_true, if_false, h1, SV.den, El.den, At.den, h2, hb rfl, cond_true, Bool.false_or]⟩

/-! #### Addresses -/
theorem o_fldp {x : Operand} {T : TypeId} {f off k o : Nat} (hf : Fld cx.P T f off) (hx : S.op x = some (.e (.a (.p k o)))) : OpG cx S ⟨dst, .fieldAddr T x f, ty, pos, af, gd⟩ (.val (.e (.a (.p k (o + off))))) :=
  OpG.pure (fun _ => by simp) fun M ε I a w hs => ⟨hs.on (sv := .e (.a (.p k o))) hx, by
    have h := hs.eval hx
    simp only [SV.den, El.den, At.den] at h
    simp [execOp, h, hf _ _, Addr.add_plain, SV.den, El.den, At.den]⟩
theorem PP.base {α : Type} {E : EP α} {y : α} {I : IH} {v : Value} (h : (PP E y).h I v) : ∃ ad, v = .pointer (some ad) ∧ ad.spot = none := by
  obtain ⟨ad, _, h1, h2, _⟩ := h; exact ⟨ad, h1, h2⟩
theorem o_fldq {x : Operand} {T : TypeId} {f off j : Nat} {α : Type} {E : EP α} {y : α} (hf : Fld cx.P T f off) (hx : S.op x = some (.e (.a (.q j)))) (hj : Has S.X j (PP E y)) :
    OpG cx S ⟨dst, .fieldAddr T x f, ty, pos, af, gd⟩ (.val (.e (.a (.e j off)))) :=
  OpG.pure (fun _ => by simp) fun M ε I a w hs => ⟨hs.on (sv := .e (.a (.q j))) hx, by
    have h := hs.eval hx
    obtain ⟨ad, h1, h2⟩ := PP.base (hs.has hj)
    simp only [SV.den, El.den, At.den, h1] at h
    simp [execOp, h, hf _ _, SV.den, El.den, At.den, h1, padd]⟩
theorem o_flde {x : Operand} {T : TypeId} {f off j o : Nat} {α : Type} {E : EP α} {y : α} (hf : Fld cx.P T f off) (hx : S.op x = some (.e (.a (.e j o)))) (hj : Has S.X j (PP E y)) :
    OpG cx S ⟨dst, .fieldAddr T x f, ty, pos, af, gd⟩ (.val (.e (.a (.e j (o + off))))) :=
  OpG.pure (fun _ => by simp) fun M ε I a w hs => ⟨hs.on (sv := .e (.a (.e j o))) hx, by
    have h := hs.eval hx
    obtain ⟨ad, h1, h2⟩ := PP.base (hs.has hj)
    simp only [SV.den, El.den, At.den, h1, padd] at h
    simp [execOp, h, hf _ _, SV.den, El.den, At.den, h1, padd, Addr.add_add h2]⟩
theorem o_nilp {x : Operand} {k o : Nat} (hx : S.op x = some (.e (.a (.p k o)))) : OpG cx S ⟨dst, .nilCheck x, ty, pos, af, gd⟩ (.val (.e (.a (.p k o)))) :=
  OpG.pure (fun _ => by simp) fun M ε I a w hs => ⟨hs.on hx, by
    have h := hs.eval hx
    simp only [SV.den, El.den, At.den] at h
    simp [execOp, h, SV.den, El.den, At.den]⟩
theorem o_nilq {x : Operand} {j : Nat} {α : Type} {E : EP α} {y : α} (hx : S.op x = some (.e (.a (.q j)))) (hj : Has S.X j (PP E y)) : OpG cx S ⟨dst, .nilCheck x, ty, pos, af, gd⟩ (.val (.e (.a (.q j)))) :=
  OpG.pure (fun _ => by simp) fun M ε I a w hs => ⟨hs.on hx, by
    have h := hs.eval hx
    obtain ⟨ad, h1, h2⟩ := PP.base (hs.has hj)
    simp only [SV.den, El.den, At.den, h1] at h
    simp [execOp, h, SV.den, El.den, At.den, h1]⟩

/-! #### Loads -/
theorem run_load1 {P : Program} {T : TypeId} (hT : TyS P T) {w : World} {a : Addr} {v : Value} (h : w.cell? a = some v) : (Instr.loadAt T (.pointer (some a))).run P w = .ok v w := by
  simp [Instr.loadAt, Instr.sureAddr, loadVar, hT.ag, load, Sem.run, h]
theorem run_loadg {P : Program} {T : TypeId} {m : Nat} (hT : TyG P T m) {w : World} {a : Addr} {cs : List Value} (hm : cs.length = m) (h : ∀ j v, cs[j]? = some v → w.cell? (a.add j) = some v) :
    (Instr.loadAt T (.pointer (some a))).run P w = .ok (.agg cs.toArray) w := by
  have := run_loadCells_list (P := P) (w := w) a cs h
  rw [hm] at this
  simp [Instr.loadAt, Instr.sureAddr, loadVar, hT.ag, hT.sz, this]
theorem SatM.blk {cx : Cx} {M : Nat → Prop} {ε : Env} {I : IH} {S : St} {a : Act} {w : World} (hs : SatM cx M ε I S a w) {k : Nat} {cs : List At} {T : TypeId} (h : look k S.L = some (.blk cs T)) (j : Nat) :
    w.cell? ⟨ε.β k, j, none⟩ = (cs[j]?).map (At.den ε) := by
  have := hs.L k _ h
  simp only [Ent.ok] at this
  simp [World.cell?, this]
theorem SatM.blk_on {cx : Cx} {M : Nat → Prop} {ε : Env} {I : IH} {S : St} {a : Act} {w : World} (hs : SatM cx M ε I S a w) {k : Nat} {cs : List At} {T : TypeId} (h : look k S.L = some (.blk cs T)) : ∀ c ∈ cs, c.on M :=
  (hs.wfL k _ h).2
theorem o_ldp {x : Operand} {T T' : TypeId} {k o : Nat} {cs : List At} {y : At} (hT : TyS cx.P T) (hx : S.op x = some (.e (.a (.p k o)))) (hk : look k S.L = some (.blk cs T')) (hy : cs[o]? = some y) :
    OpG cx S ⟨dst, .load T x, ty, pos, af, gd⟩ (.val (.e (.a y))) :=
  OpG.pure (fun _ => by simp) fun M ε I a w hs => ⟨hs.blk_on hk y (List.mem_of_getElem? hy), by
    have h := hs.eval hx
    simp only [SV.den, El.den, At.den] at h
    have h2 := hs.blk hk o
    rw [hy] at h2
    simp [execOp, h, run_load1 hT h2, SV.den, El.den]⟩
theorem o_ldpg {x : Operand} {T T' : TypeId} {k o m : Nat} {cs : List At} (hT : TyG cx.P T m) (hx : S.op x = some (.e (.a (.p k o)))) (hk : look k S.L = some (.blk cs T')) (hm : Nat.ble (o + m) cs.length = true) :
    OpG cx S ⟨dst, .load T x, ty, pos, af, gd⟩ (.val (.e (.g ((cs.drop o).take m)))) :=
  OpG.pure (fun _ => by simp) fun M ε I a w hs => ⟨fun c hc => hs.blk_on hk c (List.mem_of_mem_drop (List.mem_of_mem_take hc)), by
    have h := hs.eval hx
    simp only [SV.den, El.den, At.den] at h
    have hm' : o + m ≤ cs.length := by simpa using hm
    have := run_loadg hT (w := w) (a := ⟨ε.β k, o, none⟩) (cs := ((cs.drop o).take m).map (At.den ε)) (by simp; omega) (fun j v hj => by
      rw [Addr.add_plain, hs.blk hk]
      rw [List.getElem?_map, List.getElem?_take] at hj
      split at hj
      · rw [List.getElem?_drop] at hj; exact hj
      · cases hj)
    simp [execOp, h, this, SV.den, El.den]⟩
/-- The whole of a block. -/
theorem o_ldpa {x : Operand} {T T' : TypeId} {k m : Nat} {cs : List At} (hT : TyG cx.P T m) (hx : S.op x = some (.e (.a (.p k 0)))) (hk : look k S.L = some (.blk cs T')) (hm : cs.length = m) :
    OpG cx S ⟨dst, .load T x, ty, pos, af, gd⟩ (.val (.e (.g cs))) := by
  have := o_ldpg (dst := dst) (ty := ty) (pos := pos) (af := af) (gd := gd) hT hx hk (by simp [hm])
  rwa [List.drop_zero, List.take_of_length_le (by omega)] at this

theorem PP.cell {α : Type} {E : EP α} {y : α} {I : IH} {v : Value} {w : World} (h : (PP E y).h I v) (hI : I.on w) : ∃ ad cs, v = .pointer (some ad) ∧ ad.spot = none ∧ E.h I cs y ∧ ∀ j z, cs[j]? = some z → w.cell? (ad.add j) = some z := by
  obtain ⟨ad, cs, h1, h2, h3, h4⟩ := h
  exact ⟨ad, cs, h1, h2, h3, fun j z hj => IH.cell_on hI (h4 j z hj)⟩
theorem fixc {α : Type} {n : Nat} {enc : α → List Value} {hn : ∀ x, (enc x).length = n} {x : α} {o : Nat} {z : Value} (hz : (enc x)[o]? = some z) : ∀ I cs, (EP.fix n enc hn).h I cs x → cs[o]? = some z := fun _ _ h => by
  have h : _ = _ := h
  rw [h]; exact hz
/-- A cell behind a pointer into settled memory: a plain value. -/
theorem o_lde {x : Operand} {T : TypeId} {j o : Nat} {α : Type} {E : EP α} {y : α} {z : Value} (hT : TyS cx.P T) (hx : S.op x = some (.e (.a (.e j o)))) (hj : Has S.X j (PP E y)) (hz : ∀ I cs, E.h I cs y → cs[o]? = some z) :
    OpG cx S ⟨dst, .load T x, ty, pos, af, gd⟩ (.val (.e (.a (.v z)))) :=
  OpG.pure (fun _ => by simp) fun M ε I a w hs => ⟨trivial, by
    have h := hs.eval hx
    obtain ⟨ad, cs, h1, h2, h3, h4⟩ := PP.cell (hs.has hj) hs.imm
    simp only [SV.den, El.den, At.den, h1, padd] at h
    simp [execOp, h, run_load1 hT (h4 o z (hz I cs h3)), SV.den, El.den, At.den]⟩
theorem o_ldq {x : Operand} {T : TypeId} {j : Nat} {α : Type} {E : EP α} {y : α} {z : Value} (hT : TyS cx.P T) (hx : S.op x = some (.e (.a (.q j)))) (hj : Has S.X j (PP E y)) (hz : ∀ I cs, E.h I cs y → cs[0]? = some z) :
    OpG cx S ⟨dst, .load T x, ty, pos, af, gd⟩ (.val (.e (.a (.v z)))) :=
  OpG.pure (fun _ => by simp) fun M ε I a w hs => ⟨trivial, by
    have h := hs.eval hx
    obtain ⟨ad, cs, h1, h2, h3, h4⟩ := PP.cell (hs.has hj) hs.imm
    simp only [SV.den, El.den, At.den, h1] at h
    have h5 := h4 0 z (hz I cs h3)
    rw [Addr.add_zero'] at h5
    simp [execOp, h, run_load1 hT h5, SV.den, El.den, At.den]⟩
/-- Several cells, all plain. -/
theorem o_ldeg {x : Operand} {T : TypeId} {j o m : Nat} {α : Type} {E : EP α} {y : α} {zs : List Value} {as : List At} (hT : TyG cx.P T m) (hx : S.op x = some (.e (.a (.e j o)))) (hj : Has S.X j (PP E y)) (hz : ∀ I cs, E.h I cs y → (cs.drop o).take m = zs) (hm : zs.length = m) (has : as = zs.map .v) :
    OpG cx S ⟨dst, .load T x, ty, pos, af, gd⟩ (.val (.e (.g as))) :=
  OpG.pure (fun _ => by simp) fun M ε I a w hs => ⟨by subst has; intro c hc; obtain ⟨z, _, rfl⟩ := List.mem_map.1 hc; trivial, by
    have h := hs.eval hx
    obtain ⟨ad, cs, h1, h2, h3, h4⟩ := PP.cell (hs.has hj) hs.imm
    simp only [SV.den, El.den, At.den, h1, padd] at h
    have hz' := hz I cs h3
    have := run_loadg hT (w := w) (a := ad.add o) (cs := zs) hm (fun i v hi => by
      rw [Addr.add_add h2]
      refine h4 _ v ?_
      rw [← hz', List.getElem?_take] at hi
      split at hi
      · rw [List.getElem?_drop] at hi; exact hi
      · cases hi)
    subst has
    simp [execOp, h, this, SV.den, El.den, List.map_map, Function.comp_def, At.den]⟩
theorem o_ldqg {x : Operand} {T : TypeId} {j m : Nat} {α : Type} {E : EP α} {y : α} {zs : List Value} {as : List At} (hT : TyG cx.P T m) (hx : S.op x = some (.e (.a (.q j)))) (hj : Has S.X j (PP E y)) (hz : ∀ I cs, E.h I cs y → (cs.drop 0).take m = zs) (hm : zs.length = m) (has : as = zs.map .v) :
    OpG cx S ⟨dst, .load T x, ty, pos, af, gd⟩ (.val (.e (.g as))) :=
  OpG.pure (fun _ => by simp) fun M ε I a w hs => ⟨by subst has; intro c hc; obtain ⟨z, _, rfl⟩ := List.mem_map.1 hc; trivial, by
    have h := hs.eval hx
    obtain ⟨ad, cs, h1, h2, h3, h4⟩ := PP.cell (hs.has hj) hs.imm
    simp only [SV.den, El.den, At.den, h1] at h
    have hz' := hz I cs h3
    have := run_loadg hT (w := w) (a := ad) (cs := zs) hm (fun i v hi => by
      refine h4 _ v ?_
      rw [← hz', List.getElem?_take] at hi
      split at hi
      · rw [List.getElem?_drop] at hi; simpa using hi
      · cases hi)
    subst has
    simp [execOp, h, this, SV.den, El.den, List.map_map, Function.comp_def, At.den]⟩
theorem fixg {α : Type} {n : Nat} {enc : α → List Value} {hn : ∀ x, (enc x).length = n} {x : α} {o m : Nat} {zs : List Value} (hz : ((enc x).drop o).take m = zs) : ∀ I cs, (EP.fix n enc hn).h I cs x → (cs.drop o).take m = zs := fun _ _ h => by
  have h : _ = _ := h
  rw [h]; exact hz
end ops
end Go.Eng
