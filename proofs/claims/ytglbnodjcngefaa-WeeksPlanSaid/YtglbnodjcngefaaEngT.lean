/- The engine, part T: records of numbers compared; maps whose keys are numbers or such records; function values against nil; yields; slices of slices; picks of known bits. -/
import Derived.Test.YtglbnodjcngefaaEngS
import Derived.DeepKeys3
set_option linter.unusedSimpArgs false
set_option linter.unusedVariables false
namespace Go.Eng
open Go

/-! ### Records of numbers, compared -/
/-- The value of a number, or of a record of numbers. -/
def vl (ag : Bool) (l : List Int) : Value := bif ag then .agg (l.map (Value.int .i64)).toArray else .int .i64 (l.getD 0 0)
structure FlatT (P : Program) (T : TypeId) (n k : Nat) (ag : Bool) : Prop where
  len : ag = false → n = 1
  ia : ∀ w, (isAgg T).run P w = .ok ag w
  sz : ∀ w, (sizeOf T).run P w = .ok n w
  eq : ∀ (d : Nat) (w : World) (a b : List Int), a.length = n → b.length = n → (Op.equalIn (d + k) T (vl ag a) (vl ag b)).run P w = .ok (decide (a = b)) w
  chk : ∀ (d : Nat) (e : Bool) (w : World) (a : List Int), a.length = n → (Instr.checkKey e (d + k) T (vl ag a)).run P w = .ok () w
theorem FlatT.part {P : Program} {T : TypeId} {n k : Nat} {ag : Bool} (h : FlatT P T n k ag) {l : List Int} {off : Nat} (hl : off + n ≤ l.length) (w : World) : (part T (l.map (Value.int .i64)).toArray off).run P w = .ok (vl ag ((l.drop off).take n)) w := by
  cases ag with
  | false =>
    have hn := h.len rfl
    subst hn
    have hlt : off < l.length := by omega
    have e : ((l.drop off).take 1).getD 0 0 = l[off] := by
      simp [List.getD_eq_getElem?_getD, List.getElem?_take, List.getElem?_drop, hlt]
    simp [Go.part, h.ia, vl, e, hlt]
  | true =>
    simp only [Go.part, Sem.run_bind, h.ia, Result.andThen_ok, if_true, h.sz, Sem.run_pure, vl, cond_true]
    congr 2
    apply Array.ext'
    simp [List.extract, List.map_take, List.map_drop]
theorem FlatT.int {P : Program} {T : TypeId} {q : IntKind} (hT : P.underlying T = some (.int q)) (hs : TyS P T) : FlatT P T 1 1 false where
  len := fun _ => rfl
  ia := hs.ag
  sz := hs.sz
  eq := fun d w a b ha hb => by
    match a, ha, b, hb with
    | [x], _, [y], _ =>
      have := run_equalIn_int w d T .i64 q x y hT
      simp only [vl, cond_false, List.getD_cons_zero, List.cons.injEq, and_true]
      exact this
  chk := fun d e w a ha => by
    match a, ha with
    | [x], _ => simp [vl, Instr.checkKey, run_underlying hT]
def FlatFs (P : Program) (k : Nat) : List Field → Nat → Nat → Prop
  | [], off, n => off = n
  | f :: fs, off, n => f.name ≠ "_" ∧ f.offset = off ∧ ∃ m ag, FlatT P f.type m k ag ∧ FlatFs P k fs (off + m) n
theorem FlatFs.le {P : Program} {k : Nat} : ∀ {fs : List Field} {off n : Nat}, FlatFs P k fs off n → off ≤ n
  | [], _, _, h => Nat.le_of_eq h
  | _ :: _, _, _, ⟨_, _, m, _, _, h⟩ => by have := FlatFs.le h; omega
theorem drop_eq {a b : List Int} {off m : Nat} (ha : off + m ≤ a.length) (hb : off + m ≤ b.length) : a.drop off = b.drop off ↔ (a.drop off).take m = (b.drop off).take m ∧ a.drop (off + m) = b.drop (off + m) := by
  constructor
  · intro h; exact ⟨by rw [h], by rw [← List.drop_drop, ← List.drop_drop, h]⟩
  · rintro ⟨h1, h2⟩
    rw [← List.take_append_drop m (a.drop off), ← List.take_append_drop m (b.drop off), h1, List.drop_drop, List.drop_drop, h2]
theorem FlatFs.eq {P : Program} {k : Nat} (d : Nat) (w : World) {a b : List Int} {n : Nat} (ha : a.length = n) (hb : b.length = n) : ∀ {fs : List Field} {off : Nat}, FlatFs P k fs off n →
    (Op.eqFields (d + k) (a.map (Value.int .i64)).toArray (b.map (Value.int .i64)).toArray fs).run P w = .ok (decide (a.drop off = b.drop off)) w
  | [], off, h => by
    have h : off = n := h
    subst h
    rw [List.drop_of_length_le (Nat.le_of_eq ha), List.drop_of_length_le (Nat.le_of_eq hb)]
    simp [Op.eqFields]
  | f :: fs, off, ⟨h1, h2, m, ag, h3, h4⟩ => by
    have hle := h4.le
    have p1 := h3.part (l := a) (off := off) (by omega) w
    have p2 := h3.part (l := b) (off := off) (by omega) w
    have p3 := h3.eq d w ((a.drop off).take m) ((b.drop off).take m) (by simp; omega) (by simp; omega)
    subst h2
    simp only [Op.eqFields, h1, ne_eq, not_false_eq_true, if_true, Sem.run_bind, p1, p2, p3, Result.andThen_ok]
    have hd := drop_eq (a := a) (b := b) (off := f.offset) (m := m) (by omega) (by omega)
    by_cases hc : (a.drop f.offset).take m = (b.drop f.offset).take m
    · simp only [hc, decide_true, Bool.not_true, Bool.false_eq_true, if_false]
      rw [FlatFs.eq d w ha hb h4]
      simp [hd, hc]
    · simp [hc, hd]
theorem FlatFs.chk {P : Program} {k : Nat} (d : Nat) (e : Bool) (w : World) {a : List Int} {n : Nat} (ha : a.length = n) : ∀ {fs : List Field} {off : Nat}, FlatFs P k fs off n →
    (forIn (m := Sem) fs PUnit.unit fun f _ => if f.name ≠ "_" then do
        let p ← Go.part f.type (a.map (Value.int .i64)).toArray f.offset
        Instr.checkKey e (d + k) f.type p
        pure (ForInStep.yield PUnit.unit)
      else pure (ForInStep.yield PUnit.unit)).run P w = .ok PUnit.unit w
  | [], off, h => by simp
  | f :: fs, off, ⟨h1, h2, m, ag, h3, h4⟩ => by
    have hle := h4.le
    have p1 := h3.part (l := a) (off := off) (by omega) w
    have p3 := h3.chk d e w ((a.drop off).take m) (by simp; omega)
    subst h2
    have ih := FlatFs.chk d e w ha h4
    simp only [List.forIn_cons, h1, ne_eq, not_false_eq_true, if_true, Sem.run_bind, p1, p3, Result.andThen_ok, Sem.run_pure]
    exact ih
theorem FlatT.struct {P : Program} {T : TypeId} {fs : List Field} {n k : Nat} (hT : P.underlying T = some (.struct fs.toArray)) (hs : P.stoodInHeld T = false) (hg : TyG P T n) (hf : FlatFs P k fs 0 n) : FlatT P T n (k + 1) true where
  len := fun h => by cases h
  ia := hg.ag
  sz := hg.sz
  eq := fun d w a b ha hb => by
    have hfo : P.fieldsOf T = fs.toArray := by simp [Program.fieldsOf, hT]
    show (Op.equalIn ((d + k) + 1) T (.agg _) (.agg _)).run P w = _
    rw [run_equalIn_struct w (d + k) T _ _ (by rw [hfo]; exact hT) hs, hfo]
    have := FlatFs.eq d w ha hb hf
    simpa using this
  chk := fun d e w a ha => by
    have := FlatFs.chk d e w ha hf
    show (Instr.checkKey e ((d + k) + 1) T (.agg _)).run P w = _
    rw [Instr.checkKey]
    simp only [Sem.run_bind, run_underlying hT, Result.andThen_ok]
    rw [← Array.forIn_toList]
    simp only [this, Result.andThen_ok, Sem.run_pure]
theorem FlatT.up {P : Program} {T : TypeId} {n k : Nat} {ag : Bool} (h : FlatT P T n k ag) : FlatT P T n (k + 1) ag where
  len := h.len
  ia := h.ia
  sz := h.sz
  eq := fun d w a b ha hb => by have := h.eq (d + 1) w a b ha hb; rw [show d + 1 + k = d + (k + 1) by omega] at this; exact this
  chk := fun d e w a ha => by have := h.chk (d + 1) e w a ha; rw [show d + 1 + k = d + (k + 1) by omega] at this; exact this
theorem run_equalIn_array {P : Program} {t e : TypeId} {n c : Nat} (hT : P.underlying t = some (.array n e)) (hc : ∀ w, (sizeOf e).run P w = .ok c w) (d : Nat) (xs ys : Array Value) (w : World) : (Op.equalIn (d + 1) t (.agg xs) (.agg ys)).run P w = (Op.eqItems d e c xs ys (List.range n)).run P w := by
  simp only [Op.equalIn, Sem.run_bind, run_underlying hT, Result.andThen_ok, hc]
  simp only [Std.Legacy.Range.forIn_eq_forIn_range', Std.Legacy.Range.size, Nat.sub_zero, Nat.add_one_sub_one, Nat.div_one]
  rw [List.range_eq_range']
  generalize List.range' 0 n = is
  induction is generalizing w with
  | nil => simp [Op.eqItems]
  | cons i is ih =>
    simp only [List.forIn_cons, Op.eqItems, Sem.run_bind]
    generalize (Go.part e xs (i * c)).run P w = r1
    cases r1 with
    | ok a w1 =>
      simp only [Result.andThen_ok]
      generalize (Go.part e ys (i * c)).run P w1 = r2
      cases r2 with
      | ok b w2 =>
        simp only [Result.andThen_ok]
        generalize (Op.equalIn d e a b).run P w2 = r3
        cases r3 with
        | ok r w3 =>
          cases r
          · simp
          · simp only [Result.andThen_ok, Bool.not_true, Bool.false_eq_true, if_false, Sem.run_pure]
            exact ih w3
        | halt x w3 => simp [Result.andThen]
      | halt x w2 => simp [Result.andThen]
    | halt x w1 => simp [Result.andThen]
theorem FlatT.array {P : Program} {T e : TypeId} {n k : Nat} (hT : P.underlying T = some (.array n e)) (hg : TyG P T n) (he : FlatT P e 1 k false) : FlatT P T n (k + 1) true where
  len := fun h => by cases h
  ia := hg.ag
  sz := hg.sz
  eq := fun d w a b ha hb => by
    show (Op.equalIn ((d + k) + 1) T (.agg _) (.agg _)).run P w = _
    rw [run_equalIn_array hT he.sz]
    have key : ∀ (m off : Nat), off + m = n → (Op.eqItems (d + k) e 1 (a.map (Value.int .i64)).toArray (b.map (Value.int .i64)).toArray (List.range' off m)).run P w = .ok (decide (a.drop off = b.drop off)) w := by
      intro m
      induction m with
      | zero =>
        intro off h
        rw [List.drop_of_length_le (by omega), List.drop_of_length_le (by omega)]
        simp [Op.eqItems]
      | succ m ih =>
        intro off h
        have p1 := he.part (l := a) (off := off) (by omega) w
        have p2 := he.part (l := b) (off := off) (by omega) w
        have p3 := he.eq d w ((a.drop off).take 1) ((b.drop off).take 1) (by simp; omega) (by simp; omega)
        simp only [List.range'_succ, Op.eqItems, Nat.mul_one, Sem.run_bind, p1, p2, p3, Result.andThen_ok]
        have hd := drop_eq (a := a) (b := b) (off := off) (m := 1) (by omega) (by omega)
        by_cases hc : (a.drop off).take 1 = (b.drop off).take 1
        · simp only [hc, decide_true, Bool.not_true, Bool.false_eq_true, if_false]
          rw [ih (off + 1) (by omega)]
          simp [hd, hc]
        · simp [hc, hd]
    have := key n 0 (by omega)
    rw [List.range_eq_range']
    simpa using this
  chk := fun d e' w a ha => by
    show (Instr.checkKey e' ((d + k) + 1) T (.agg _)).run P w = _
    rw [Instr.checkKey]
    simp only [Sem.run_bind, run_underlying hT, Result.andThen_ok]
    simp only [Std.Legacy.Range.forIn_eq_forIn_range', Std.Legacy.Range.size, Nat.sub_zero, Nat.add_one_sub_one, Nat.div_one]
    have key : ∀ (m off : Nat), off + m ≤ n → (forIn (m := Sem) (List.range' off m) PUnit.unit fun i _ => do
        Instr.checkKey e' (d + k) e (← Go.part e (a.map (Value.int .i64)).toArray (i * (← sizeOf e)))
        pure (ForInStep.yield PUnit.unit)).run P w = .ok PUnit.unit w := by
      intro m
      induction m with
      | zero => intro off h; simp
      | succ m ih =>
        intro off h
        have p1 := he.part (l := a) (off := off) (by omega) w
        have p3 := he.chk d e' w ((a.drop off).take 1) (by simp; omega)
        simp only [List.range'_succ, List.forIn_cons, Sem.run_bind, he.sz, Result.andThen_ok, Nat.mul_one, p1, p3, Sem.run_pure]
        exact ih (off + 1) (by omega)
    have hk := key n 0 (by omega)
    simp only [hk, Result.andThen_ok, Sem.run_pure]

section ops
variable {cx : Cx} {S : St} {dst : Option Tmp} {ty : TypeId} {pos : String} {af : Array Edge} {gd : Option (Nat × Bool)}
theorem vl_den {ε : Env} (l : List Int) : (SV.e (.g (l.map ai))).den ε = vl true l := by
  simp only [SV.den, El.den, vl, cond_true, List.map_map]; rfl
theorem o_eqs {x y : Operand} {t t' : TypeId} {n k : Nat} {a b : List Int} (hT : FlatT cx.P t n k true) (hk : Nat.ble k 10000 = true) (hg : cx.P.eqGuardType cx.P.depth t = false) (hx : S.op x = some (.e (.g (a.map ai)))) (hy : S.op y = some (.e (.g (b.map ai)))) (ha : a.length = n) (hb : b.length = n) :
    OpG cx S ⟨dst, .binOp .eql t x y t', ty, pos, af, gd⟩ (.val (.b (decide (a = b)))) :=
  OpG.pure (fun _ => by simp) fun M ε I ac w hs => ⟨trivial, by
    have h1 := hs.eval hx; have h2 := hs.eval hy
    rw [vl_den] at h1 h2
    have h3 := hT.eq (10000 - k) w a b ha hb
    rw [show 10000 - k + k = 10000 from by have := Nat.le_of_ble_eq_true hk; omega] at h3
    simp only [vl, cond_true] at h1 h2 h3
    have hr : (do eqGuard .eql t x y (.agg (a.map (Value.int .i64)).toArray) (.agg (b.map (Value.int .i64)).toArray); binOp .eql t (.agg (a.map (Value.int .i64)).toArray) (.agg (b.map (Value.int .i64)).toArray) : Sem Value).run cx.P w = .ok (.bool (decide (a = b))) w := by
      rw [Sem.run_bind, run_eqGuard_agg w _ _ _ _ _ _ hg, Result.andThen_ok, run_eql_struct, h3]
      simp [Result.andThen]
    simp only [execOp, h1, h2]
    rw [Sem.run_bind, hr]
    rfl⟩
theorem o_nes {x y : Operand} {t t' : TypeId} {n k : Nat} {a b : List Int} (hT : FlatT cx.P t n k true) (hk : Nat.ble k 10000 = true) (hg : cx.P.eqGuardType cx.P.depth t = false) (hx : S.op x = some (.e (.g (a.map ai)))) (hy : S.op y = some (.e (.g (b.map ai)))) (ha : a.length = n) (hb : b.length = n) :
    OpG cx S ⟨dst, .binOp .neq t x y t', ty, pos, af, gd⟩ (.val (.b (decide (a ≠ b)))) :=
  OpG.pure (fun _ => by simp) fun M ε I ac w hs => ⟨trivial, by
    have h1 := hs.eval hx; have h2 := hs.eval hy
    rw [vl_den] at h1 h2
    have h3 := hT.eq (10000 - k) w a b ha hb
    rw [show 10000 - k + k = 10000 from by have := Nat.le_of_ble_eq_true hk; omega] at h3
    simp only [vl, cond_true] at h1 h2 h3
    have hr : (do eqGuard .neq t x y (.agg (a.map (Value.int .i64)).toArray) (.agg (b.map (Value.int .i64)).toArray); binOp .neq t (.agg (a.map (Value.int .i64)).toArray) (.agg (b.map (Value.int .i64)).toArray) : Sem Value).run cx.P w = .ok (.bool (decide (a ≠ b))) w := by
      rw [Sem.run_bind, run_eqGuard_agg w _ _ _ _ _ _ hg, Result.andThen_ok, run_neq_struct, h3]
      simp [Result.andThen]
    simp only [execOp, h1, h2]
    rw [Sem.run_bind, hr]
    rfl⟩

/-! ### Function values against nil, slices against nil -/
theorem run_eqfn {P : Program} {t : TypeId} {s : Array TypeId} {r : Array TypeId} {v : Bool} (hT : P.underlying t = some (.func s r v)) (fn : Fn) (fs cs : Array Value) (w : World) : (Op.equal t (.func fn fs cs) .nilFunc).run P w = .ok false w := by
  show (Op.equalIn (Op.maxDepth - 1 + 1) t (.func fn fs cs) .nilFunc).run P w = _
  simp [Op.equalIn, run_underlying hT]
theorem run_eqnil {P : Program} {t : TypeId} {s : Array TypeId} {r : Array TypeId} {v : Bool} (hT : P.underlying t = some (.func s r v)) (w : World) : (Op.equal t .nilFunc .nilFunc).run P w = .ok true w := by
  show (Op.equalIn (Op.maxDepth - 1 + 1) t .nilFunc .nilFunc).run P w = _
  simp [Op.equalIn, run_underlying hT]
theorem o_nefn {x : Operand} {t t' : TypeId} {s : Array TypeId} {r : Array TypeId} {v : Bool} {j : Nat} (hT : cx.P.underlying t = some (.func s r v)) (hx : S.op x = some (.e (.a (.q j)))) (hj : Has S.X j Pred.fn) : OpG cx S ⟨dst, .binOp .neq t x (.const .nilFunc) t', ty, pos, af, gd⟩ (.val (.b true)) :=
  OpG.pure (fun _ => by simp) fun M ε I ac w hs => ⟨trivial, by
    have h1 := hs.eval hx
    obtain ⟨fn, fs, cs, h2⟩ := hs.has hj
    simp only [SV.den, El.den, At.den, h2] at h1
    have h3 : ac.eval (.const .nilFunc) = .nilFunc := rfl
    have := run_eqfn hT fn fs cs w
    simp [execOp, h1, h3, eqGuard, binOp, SV.den, El.den, At.den, this]⟩
theorem o_nenil {x : Operand} {t t' : TypeId} {s : Array TypeId} {r : Array TypeId} {v : Bool} (hT : cx.P.underlying t = some (.func s r v)) (hx : S.op x = some (.e (.a (.v .nilFunc)))) : OpG cx S ⟨dst, .binOp .neq t x (.const .nilFunc) t', ty, pos, af, gd⟩ (.val (.b false)) :=
  OpG.pure (fun _ => by simp) fun M ε I ac w hs => ⟨trivial, by
    have h1 := hs.eval hx
    simp only [SV.den, El.den, At.den] at h1
    have h3 : ac.eval (.const .nilFunc) = .nilFunc := rfl
    have := run_eqnil hT w
    simp [execOp, h1, h3, eqGuard, binOp, SV.den, El.den, At.den, this]⟩

/-! ### Picks of plain bits -/
theorem o_pickb {c x y : Operand} {b bx bY : Bool} (hc : S.op c = some (.b b)) (hx : S.op x = some (.b bx)) (hy : S.op y = some (.b bY)) : OpG cx S ⟨dst, .pick c x y, ty, pos, af, gd⟩ (.val (.b (bif b then bx else bY))) :=
  o_pick hc fun M ε I a w hs => ⟨trivial, by
    have h1 := hs.eval hx; have h2 := hs.eval hy
    simp only [SV.den, El.den, At.den] at h1 h2
    cases b <;> simp [h1, h2, SV.den, El.den, At.den]⟩
theorem o_pickT {c x y : Operand} {sv : SV} (hc : S.op c = some (.b true)) (hx : S.op x = some sv) : OpG cx S ⟨dst, .pick c x y, ty, pos, af, gd⟩ (.val sv) :=
  o_pick hc fun M ε I a w hs => ⟨hs.on hx, by simp [hs.eval hx]⟩
theorem o_pickF {c x y : Operand} {sv : SV} (hc : S.op c = some (.b false)) (hy : S.op y = some sv) : OpG cx S ⟨dst, .pick c x y, ty, pos, af, gd⟩ (.val sv) :=
  o_pick hc fun M ε I a w hs => ⟨hs.on hy, by simp [hs.eval hy]⟩
end ops
section
variable {cx : Cx} {n : Nat} {fr : List (Nat × SV)} {X : List (Nat × Pred)} {L : List (Nat × Ent)} {D : List Nat} {G : List (Nat × Bool)}
/-- A bit that is known is called by its name. -/
theorem Imp.bitF (d : Nat) {b b' : Bool} (hd : look d fr = some (.b b)) (hb : b = b') : Imp cx ⟨n, fr, X, L, D, G⟩ ⟨n, (d, .b b') :: fr, X, L, D, G⟩ := fun ε I a w hs => by
  subst hb
  refine ⟨ε, I, SatM.le (S := ⟨n, fr, X, L, D, G⟩) ⟨fun i x hx => ?_, fun _ _ h => h, fun _ _ h => h, rfl, fun _ _ h => h⟩ hs⟩
  have hx : look i ((d, SV.b b) :: fr) = some x := hx
  show look i fr = some x
  rw [look_cons] at hx
  by_cases hi : d = i
  · subst hi; simp at hx; subst hx; exact hd
  · simp [hi] at hx; exact hx
/-- An entry of others' memory: less is known. -/
theorem Imp.ext (k : Nat) {x y : XP} (hk : look k L = some (.ext x)) (hF : x.F = y.F) (hn : y.n1 = 0) (hR : ∀ b, ¬ y.Rd b) (h : ∀ I w, x.J I w → y.J I w) : Imp cx ⟨n, fr, X, L, D, G⟩ ⟨n, fr, X, (k, .ext y) :: L, D, G⟩ := fun ε I a w hs => by
  have hlk : ∀ i e, look i ((k, Ent.ext y) :: L) = some e → (i = k ∧ e = .ext y) ∨ (i ≠ k ∧ look i L = some e) := by
    intro i e he
    rw [look_cons] at he
    by_cases hi : k = i
    · subst hi; simp at he; exact .inl ⟨rfl, he.symm⟩
    · simp [hi] at he; exact .inr ⟨fun h => hi h.symm, he⟩
  have hft : ∀ i e, look i ((k, Ent.ext y) :: L) = some e → ∃ e', look i L = some e' ∧ ∀ b, e.foot ε i b → e'.foot ε i b := fun i e he => by
    rcases hlk i e he with ⟨rfl, rfl⟩ | ⟨_, he⟩
    · exact ⟨_, hk, fun b h => by show x.F b; rw [hF]; exact h⟩
    · exact ⟨_, he, fun b h => h⟩
  refine ⟨ε, I, { hs with wfL := fun i e he => ?_, L := fun i e he => ?_, foot := fun i e he b hfb => ?_, sep := fun i i' e e' b he he' hne h1 h2 => ?_, ext := fun i z hz => ?_ }⟩
  · rcases hlk i e he with ⟨rfl, rfl⟩ | ⟨_, he⟩
    · exact ⟨(hs.wfL i _ hk).1, trivial⟩
    · exact hs.wfL i e he
  · rcases hlk i e he with ⟨rfl, rfl⟩ | ⟨_, he⟩
    · exact h I w (hs.L i _ hk)
    · exact hs.L i e he
  · obtain ⟨e', h1, h2⟩ := hft i e he; exact hs.foot i e' h1 b (h2 b hfb)
  · obtain ⟨e1, h3, h4⟩ := hft i e he
    obtain ⟨e2, h5, h6⟩ := hft i' e' he'
    exact hs.sep i i' e1 e2 b h3 h5 hne (h4 b h1) (h6 b h2)
  · rcases hlk i _ hz with ⟨_, h'⟩ | ⟨_, h'⟩
    · cases h'; exact ⟨by rw [hn]; exact Nat.zero_le _, fun b hb => absurd hb (hR b)⟩
    · exact hs.ext i z h'
end

/-! ### Maps -/
/-- The content of a map: keys and numbers. -/
abbrev MapL := List (List Int × Int)
def mget : MapL → List Int → Option Int
  | [], _ => none
  | (k, v) :: t, k' => if k = k' then some v else mget t k'
def mset : MapL → List Int → Int → MapL
  | [], k, v => [(k, v)]
  | (k, u) :: t, k', v => if k = k' then (k, v) :: t else (k, u) :: mset t k' v
theorem mget_mset (l : MapL) (k k' : List Int) (v : Int) : mget (mset l k v) k' = if k = k' then some v else mget l k' := by
  induction l with
  | nil => rfl
  | cons p t ih =>
    obtain ⟨i, u⟩ := p
    simp only [mset]
    by_cases h1 : i = k
    · subst h1
      simp only [if_true, mget]
      by_cases h2 : i = k' <;> simp [h2]
    · simp only [h1, if_false, mget, ih]
      by_cases h2 : i = k'
      · subst h2
        have : ¬ k = i := fun h => h1 h.symm
        simp [this]
      · simp [h2]
def MapHas (ag : Bool) (n : Nat) (es : List MapEntry) (l : MapL) : Prop := es.map (fun e => (e.key, e.val)) = l.map (fun p => (vl ag p.1, Value.int .i64 p.2)) ∧ ∀ p ∈ l, p.1.length = n
/-- A map in a block of its own. -/
def mapXP (ag : Bool) (n b : Nat) (l : MapL) : XP := ⟨0, fun _ => False, fun c => c = b, fun _ w => ∃ es clk, w.heap[b]? = some (.map es clk) ∧ MapHas ag n es.toList l, fun h ⟨es, clk, h1, h2⟩ => by
  have hlt := (Array.getElem?_eq_some_iff.1 h1).1
  exact ⟨es, clk, by rw [h.block b hlt (.inr rfl)]; exact h1, h2⟩⟩
/-- A map of which each entry is as is said. -/
def memoXP (ag : Bool) (n b : Nat) (K : List Int → Int → Prop) : XP := ⟨0, fun _ => False, fun c => c = b, fun I w => ∃ l : MapL, (∀ p ∈ l, K p.1 p.2) ∧ (mapXP ag n b l).J I w, fun h ⟨l, h1, h2⟩ => ⟨l, h1, (mapXP ag n b l).st ⟨h.le, h.on, h.os, h.tape, h.output, h.size, fun c hc hn => h.block c hc (by
      rcases hn with hn | hn
      · exact hn.elim
      · exact .inr hn), fun c o hc => by
      rcases h.fresh c o hc with h3 | h3
      · exact .inl h3
      · exact .inr h3⟩ h2⟩⟩
theorem memoXP.plain {ag : Bool} {n b : Nat} {K : List Int → Int → Prop} : (memoXP ag n b K).plain := ⟨rfl, fun _ h => h⟩
theorem mapXP.plain {ag : Bool} {n b : Nat} {l : MapL} : (mapXP ag n b l).plain := ⟨rfl, fun _ h => h⟩
theorem mget_mem {l : MapL} {k : List Int} {v : Int} (h : mget l k = some v) : (k, v) ∈ l := by
  induction l with
  | nil => cases h
  | cons p t ih =>
    obtain ⟨i, u⟩ := p
    simp only [mget] at h
    by_cases h1 : i = k
    · subst h1; simp at h; subst h; exact List.mem_cons_self
    · simp [h1] at h; exact List.mem_cons_of_mem _ (ih h)
theorem mset_all {K : List Int → Int → Prop} {l : MapL} {k : List Int} {v : Int} (h : ∀ p ∈ l, K p.1 p.2) (hk : K k v) : ∀ p ∈ mset l k v, K p.1 p.2 := by
  induction l with
  | nil => intro p hp; simp [mset] at hp; subst hp; exact hk
  | cons q t ih =>
    obtain ⟨i, u⟩ := q
    intro p hp
    simp only [mset] at hp
    by_cases h1 : i = k
    · subst h1
      simp only [if_true] at hp
      rcases List.mem_cons.1 hp with rfl | hp
      · exact hk
      · exact h p (List.mem_cons_of_mem _ hp)
    · simp only [h1, if_false] at hp
      rcases List.mem_cons.1 hp with rfl | hp
      · exact h _ List.mem_cons_self
      · exact ih (fun p hp => h p (List.mem_cons_of_mem _ hp)) p hp
structure MapT (P : Program) (T : TypeId) (n k : Nat) (ag : Bool) : Prop where
  u : ∃ kt e, P.underlying T = some (.map kt e) ∧ FlatT P kt n k ag ∧ (∀ w, (zeroValue e).run P w = .ok (.int .i64 0) w) ∧
    ∀ (w : World) (a : List Int) (es : List MapEntry) (l : MapL), a.length = n → MapHas ag n es l → ∃ r, (Instr.findKey kt (vl ag a) es).run P w = .ok r w ∧ ((r = none ∧ mget l a = none) ∨ ∃ i e v, r = some (i, .int .i64 v) ∧ es[i]? = some e ∧ e.key = vl ag a ∧ mget l a = some v ∧ ∀ u : Value, ∀ x : Int, u = .int .i64 x → (es.modify i fun e => { e with key := vl ag a, val := u }).map (fun e => (e.key, e.val)) = (mset l a x).map (fun p => (vl ag p.1, Value.int .i64 p.2)))
  k : Nat.ble k 10000 = true
theorem vl_inj {ag : Bool} {n : Nat} {a b : List Int} (ha : a.length = n) (hb : b.length = n) (hn : ag = false → n = 1) (h : vl ag a = vl ag b) : a = b := by
  cases ag with
  | true =>
    simp only [vl, cond_true, Value.agg.injEq] at h
    have h2 := congrArg Array.toList h
    simp only [List.toList_toArray] at h2
    exact (List.map_inj_right (fun x y h => by simpa using h)).1 h2
  | false =>
    have := hn rfl
    subst this
    match a, ha, b, hb with
    | [x], _, [y], _ => simp [vl] at h; rw [h]
theorem find_asking {P : Program} {kt : TypeId} {n k : Nat} {ag : Bool} (hT : FlatT P kt n k ag) (hk : Nat.ble k 10000 = true) (w : World) {a : List Int} (ha : a.length = n) : ∀ (es : List MapEntry) (l : MapL) (j : Nat), MapHas ag n es l →
    ∃ r, (Instr.findAsking kt (vl ag a) es j).run P w = .ok r w ∧ ((r = none ∧ mget l a = none) ∨ ∃ i e v, r = some (j + i, .int .i64 v) ∧ es[i]? = some e ∧ e.key = vl ag a ∧ mget l a = some v ∧ ∀ u : Value, ∀ x : Int, u = .int .i64 x → (es.modify i fun e => { e with key := vl ag a, val := u }).map (fun e => (e.key, e.val)) = (mset l a x).map (fun p => (vl ag p.1, Value.int .i64 p.2)))
  | [], l, j, h => by
    have : l = [] := by
      have := congrArg List.length h.1
      simp at this
      exact List.length_eq_zero_iff.1 this.symm
    subst this
    exact ⟨none, by simp [Instr.findAsking], .inl ⟨rfl, rfl⟩⟩
  | e :: es, [], j, h => by have := congrArg List.length h.1; simp at this
  | e :: es, (i0, v0) :: l, j, h => by
    obtain ⟨h1, h2⟩ := h
    simp only [List.map_cons, List.cons.injEq, Prod.mk.injEq] at h1
    obtain ⟨⟨h3, h4⟩, h5⟩ := h1
    have hi0 : i0.length = n := h2 _ List.mem_cons_self
    have heq := hT.eq (10000 - k) w a i0 ha hi0
    rw [show 10000 - k + k = 10000 from by have := Nat.le_of_ble_eq_true hk; omega] at heq
    have heq' : (Op.equal kt (vl ag a) e.key).run P w = .ok (decide (a = i0)) w := by rw [h3]; exact heq
    by_cases hc : a = i0
    · subst hc
      refine ⟨some (j, e.val), by simp [Instr.findAsking, heq'], .inr ⟨0, e, v0, by rw [h4]; rfl, rfl, h3, by simp [mget], fun u x hu => ?_⟩⟩
      subst hu
      simp [mset, h5]
    · obtain ⟨r, hr, hr2⟩ := find_asking hT hk w ha es l (j + 1) ⟨h5, fun p hp => h2 p (List.mem_cons_of_mem _ hp)⟩
      have hne : ¬ i0 = a := fun h => hc h.symm
      refine ⟨r, by simp [Instr.findAsking, heq', hc, hr], ?_⟩
      rcases hr2 with ⟨h6, h7⟩ | ⟨i, e', v, h6, h7, h8, h9, h10⟩
      · exact .inl ⟨h6, by simp [mget, hne, h7]⟩
      · refine .inr ⟨i + 1, e', v, by rw [h6]; congr 2; omega, by simpa using h7, h8, by simp [mget, hne, h9], fun u x hu => ?_⟩
        have := h10 u x hu
        simp only [List.modify_succ_cons, List.map_cons, mset, hne, if_false]
        rw [this, h3, h4]
theorem MapT.struct {P : Program} {T kt e : TypeId} {n k : Nat} (hT : P.underlying T = some (.map kt e)) (hs : (match P.underlying kt with | some (.array _ _) | some (.struct _) => true | _ => false) = true) (hf : FlatT P kt n k true) (hk : Nat.ble k 10000 = true) (hz : ∀ w, (zeroValue e).run P w = .ok (.int .i64 0) w) : MapT P T n k true :=
  ⟨⟨kt, e, hT, hf, hz, fun w a es l ha h => by
    rw [run_findKey_eq w hs]
    obtain ⟨r, h1, h2⟩ := find_asking hf hk w ha es l 0 h
    refine ⟨r, h1, ?_⟩
    rcases h2 with h2 | ⟨i, e', v, h3, h4⟩
    · exact .inl h2
    · exact .inr ⟨i, e', v, by rw [h3]; simp, h4⟩⟩, hk⟩
theorem find_now {q : IntKind} {a : List Int} (ha : a.length = 1) : ∀ (es : List MapEntry) (l : MapL) (j : Nat), MapHas false 1 es l →
    ∃ r, Instr.findNow (.int q) (vl false a) es j = some r ∧ ((r = none ∧ mget l a = none) ∨ ∃ i e v, r = some (j + i, .int .i64 v) ∧ es[i]? = some e ∧ e.key = vl false a ∧ mget l a = some v ∧ ∀ u : Value, ∀ x : Int, u = .int .i64 x → (es.modify i fun e => { e with key := vl false a, val := u }).map (fun e => (e.key, e.val)) = (mset l a x).map (fun p => (vl false p.1, Value.int .i64 p.2)))
  | [], l, j, h => by
    have : l = [] := by
      have := congrArg List.length h.1
      simp at this
      exact List.length_eq_zero_iff.1 this.symm
    subst this
    exact ⟨none, by simp [Instr.findNow], .inl ⟨rfl, rfl⟩⟩
  | e :: es, [], j, h => by have := congrArg List.length h.1; simp at this
  | e :: es, (i0, v0) :: l, j, h => by
    obtain ⟨h1, h2⟩ := h
    simp only [List.map_cons, List.cons.injEq, Prod.mk.injEq] at h1
    obtain ⟨⟨h3, h4⟩, h5⟩ := h1
    have hi0 : i0.length = 1 := h2 _ List.mem_cons_self
    have hsn : Instr.sameNow (.int q) (vl false a) e.key = some (decide (a = i0)) := by
      rw [h3]
      match a, ha, i0, hi0 with
      | [x], _, [y], _ => simp [vl, Instr.sameNow]; rfl
    by_cases hc : a = i0
    · subst hc
      refine ⟨some (j, e.val), by simp [Instr.findNow, hsn], .inr ⟨0, e, v0, by rw [h4]; rfl, rfl, h3, by simp [mget], fun u x hu => ?_⟩⟩
      subst hu
      simp [mset, h5]
    · obtain ⟨r, hr, hr2⟩ := find_now (q := q) ha es l (j + 1) ⟨h5, fun p hp => h2 p (List.mem_cons_of_mem _ hp)⟩
      have hne : ¬ i0 = a := fun h => hc h.symm
      refine ⟨r, by simp [Instr.findNow, hsn, hc, hr], ?_⟩
      rcases hr2 with ⟨h6, h7⟩ | ⟨i, e', v, h6, h7, h8, h9, h10⟩
      · exact .inl ⟨h6, by simp [mget, hne, h7]⟩
      · refine .inr ⟨i + 1, e', v, by rw [h6]; congr 2; omega, by simpa using h7, h8, by simp [mget, hne, h9], fun u x hu => ?_⟩
        have := h10 u x hu
        simp only [List.modify_succ_cons, List.map_cons, mset, hne, if_false]
        rw [this, h3, h4]
theorem MapT.int {P : Program} {T kt e : TypeId} {q : IntKind} (hT : P.underlying T = some (.map kt e)) (hk : P.underlying kt = some (.int q)) (hs : TyS P kt) (hz : ∀ w, (zeroValue e).run P w = .ok (.int .i64 0) w) : MapT P T 1 1 false :=
  ⟨⟨kt, e, hT, FlatT.int hk hs, hz, fun w a es l ha h => by
    obtain ⟨r, h1, h2⟩ := find_now (q := q) ha es l 0 h
    refine ⟨r, MapKept.run_findKey hk h1, ?_⟩
    rcases h2 with h2 | ⟨i, e', v, h3, h4⟩
    · exact .inl h2
    · exact .inr ⟨i, e', v, by rw [h3]; simp, h4⟩⟩, rfl⟩
theorem sameBits_vl (ag : Bool) (a : List Int) : Instr.sameBits 10000 (vl ag a) (vl ag a) = true := by
  cases ag with
  | false => simp [vl, Instr.sameBits]
  | true =>
    have h : ∀ l : List Int, ((l.map (Value.int .i64)).zip (l.map (Value.int .i64))).all (fun (p : Value × Value) => Instr.sameBits 9999 p.1 p.2) = true := by
      intro l
      induction l with
      | nil => rfl
      | cons x t ih => simp [Instr.sameBits, ih]
    have := h a
    simp only [vl, cond_true, Instr.sameBits, BEq.rfl, Bool.true_and, List.toList_toArray]
    exact this
section ops
variable {cx : Cx} {S : St} {dst : Option Tmp} {ty : TypeId} {pos : String} {af : Array Edge} {gd : Option (Nat × Bool)}
def isKey (ag : Bool) (a : List Int) : SV → Prop := fun x => ∀ ε : Env, x.den ε = vl ag a
theorem isKey.g {a : List Int} : isKey true a (.e (.g (a.map ai))) := fun ε => vl_den a
theorem isKey.i {n : Int} : isKey false [n] (.i n) := fun ε => rfl
theorem run_lookup {P : Program} {T : TypeId} {n k : Nat} {ag : Bool} (hT : MapT P T n k ag) {w : World} {b : Nat} {es : Array MapEntry} {clk : Nat} {l : MapL} (hb : w.heap[b]? = some (.map es clk)) (hm : MapHas ag n es.toList l) {a : List Int} (ha : a.length = n) (c : Bool) :
    (Instr.lookup T (.map (some b)) (vl ag a) c).run P w = .ok (if c then .tuple #[.int .i64 ((mget l a).getD 0), .bool (mget l a).isSome] else .int .i64 ((mget l a).getD 0)) w := by
  obtain ⟨⟨kt, e, h1, h2, h3, h4⟩, h5⟩ := hT
  have hgo : (getObj b).run P w = .ok (.map es clk) w := by simp [getObj, Sem.run, hb]
  have hso : ∀ o, (setObj b o).run P w = .ok () { w with heap := w.heap.setIfInBounds b o } := fun o => by simp [setObj, Sem.run, hb]
  obtain ⟨r, h6, h7⟩ := h4 w a es.toList l ha hm
  have hc := h2.chk (10000 - k) es.isEmpty w a ha
  rw [show 10000 - k + k = 10000 from by have := Nat.le_of_ble_eq_true h5; omega] at hc
  rcases h7 with ⟨rfl, h8⟩ | ⟨i, e', v, rfl, _, _, h8, _⟩
  · cases c <;> simp [Instr.lookup, run_underlying h1, hgo, hc, h6, h3, h8]
  · cases c <;> simp [Instr.lookup, run_underlying h1, hgo, hc, h6, h8]
theorem o_look {m x : Operand} {T : TypeId} {n k b km : Nat} {ag : Bool} {l : MapL} {a : List Int} {sv : SV} (hT : MapT cx.P T n k ag) (hm : S.op m = some (.e (.a (.v (.map (some b)))))) (hx : S.op x = some sv) (hkey : isKey ag a sv) (hk : look km S.L = some (.ext (mapXP ag n b l))) (ha : a.length = n) :
    OpG cx S ⟨dst, .lookup T m x false, ty, pos, af, gd⟩ (.val (.i ((mget l a).getD 0))) :=
  OpG.pure (fun _ => by simp) fun M ε I ac w hs => ⟨trivial, by
    have h1 := hs.eval hm; have h2 := hs.eval hx
    rw [hkey ε] at h2
    simp only [SV.den, El.den, At.den] at h1
    obtain ⟨es, clk, h3, h4⟩ := hs.L km _ hk
    have := run_lookup hT h3 h4 ha false
    simp [execOp, h1, h2, this, SV.den, El.den, At.den]⟩
theorem o_look2 {m x : Operand} {T : TypeId} {n k b km : Nat} {ag : Bool} {l : MapL} {a : List Int} {sv : SV} (hT : MapT cx.P T n k ag) (hm : S.op m = some (.e (.a (.v (.map (some b)))))) (hx : S.op x = some sv) (hkey : isKey ag a sv) (hk : look km S.L = some (.ext (mapXP ag n b l))) (ha : a.length = n) :
    OpG cx S ⟨dst, .lookup T m x true, ty, pos, af, gd⟩ (.val (.t [.a (ai ((mget l a).getD 0)), .a (.v (.bool (mget l a).isSome))])) :=
  OpG.pure (fun _ => by simp) fun M ε I ac w hs => ⟨by
      intro x hx
      simp at hx
      rcases hx with rfl | rfl <;> trivial, by
    have h1 := hs.eval hm; have h2 := hs.eval hx
    rw [hkey ε] at h2
    simp only [SV.den, El.den, At.den] at h1
    obtain ⟨es, clk, h3, h4⟩ := hs.L km _ hk
    have := run_lookup hT h3 h4 ha true
    simp [execOp, h1, h2, this, SV.den, El.den, At.den]⟩
theorem run_update {P : Program} {T : TypeId} {n k : Nat} {ag : Bool} (hT : MapT P T n k ag) {w : World} {b : Nat} {es : Array MapEntry} {clk : Nat} {l : MapL} (hb : w.heap[b]? = some (.map es clk)) (hm : MapHas ag n es.toList l) {a : List Int} (ha : a.length = n) (x : Int) :
    ∃ es' clk', (Instr.mapUpdate T (.map (some b)) (vl ag a) (.int .i64 x)).run P w = .ok () { w with heap := w.heap.setIfInBounds b (.map es' clk') } ∧ MapHas ag n es'.toList (mset l a x) := by
  obtain ⟨⟨kt, e, h1, h2, h3, h4⟩, h5⟩ := hT
  have hgo : (getObj b).run P w = .ok (.map es clk) w := by simp [getObj, Sem.run, hb]
  have hso : ∀ o, (setObj b o).run P w = .ok () { w with heap := w.heap.setIfInBounds b o } := fun o => by simp [setObj, Sem.run, hb]
  obtain ⟨r, h6, h7⟩ := h4 w a es.toList l ha hm
  have hc := h2.chk (10000 - k) false w a ha
  rw [show 10000 - k + k = 10000 from by have := Nat.le_of_ble_eq_true h5; omega] at hc
  have hall : ∀ p ∈ mset l a x, p.1.length = n := mset_all (K := fun i _ => i.length = n) hm.2 ha
  rcases h7 with ⟨rfl, h8⟩ | ⟨i, e', v, rfl, h9, h10, h8, h11⟩
  · refine ⟨es.push { key := vl ag a, val := .int .i64 x, born := clk }, clk + 1, ?_, ?_, hall⟩
    · simp [Instr.mapUpdate, run_underlying h1, hgo, hc, h6, hso]
    · rw [Array.toList_push, List.map_append, hm.1]
      have : ∀ l : MapL, mget l a = none → mset l a x = l ++ [(a, x)] := by
        intro l
        induction l with
        | nil => intro _; rfl
        | cons p t ih =>
          obtain ⟨i, u⟩ := p
          intro h
          simp only [mget] at h
          by_cases hi : i = a
          · simp [hi] at h
          · simp only [hi, if_false] at h
            simp [mset, hi, ih h]
      rw [this l h8]; simp
  · have hstay : (Instr.keyThatStays ((Option.map (fun x => x.key) es[i]?).getD (vl ag a)) (vl ag a)).run P w = .ok (vl ag a) w := by
      have h12 : es[i]? = some e' := by rw [← Array.getElem?_toList]; exact h9
      rw [h12]
      simp only [Option.map_some, Option.getD_some, h10, Instr.keyThatStays, sameBits_vl, if_true, Sem.run_pure]
    refine ⟨es.modify i fun e => { e with key := vl ag a, val := .int .i64 x }, clk, ?_, ?_, hall⟩
    · simp [Instr.mapUpdate, run_underlying h1, hgo, hc, h6, hstay, hso]
    · rw [Array.toList_modify]; exact h11 _ x rfl
theorem o_mapup {m x y : Operand} {T : TypeId} {n k b km : Nat} {ag : Bool} {l : MapL} {a : List Int} {v : Int} {sv : SV} (hT : MapT cx.P T n k ag) (hm : S.op m = some (.e (.a (.v (.map (some b)))))) (hx : S.op x = some sv) (hkey : isKey ag a sv) (hy : S.op y = some (.i v)) (hk : look km S.L = some (.ext (mapXP ag n b l))) (ha : a.length = n) :
    OpG cx S ⟨none, .mapUpdate T m x y, ty, pos, af, gd⟩ ⟨.e (.a (.v undef)), [], [], [(km, .ext (mapXP ag n b (mset l a v)))], []⟩ := by
  intro M ε I ac w next Q hs hN K
  have h1 := hs.eval hm; have h2 := hs.eval hx; have h2' := hs.eval hy
  rw [hkey ε] at h2
  simp only [SV.den, El.den, At.den] at h1 h2'
  obtain ⟨es, clk, h3, h4⟩ := hs.L km _ hk
  obtain ⟨es', clk', h5, h6⟩ := run_update hT h3 h4 ha v
  have hft := hs.foot km _ hk b rfl
  have hfp : fpOf S ε ⟨.e (.a (.v undef)), [], [], [(km, .ext (mapXP ag n b (mset l a v)))], []⟩ b := ⟨km, _, by simp [look], hk, rfl⟩
  have hlt := (Array.getElem?_eq_some_iff.1 h3).1
  have hoth : ∀ c, c ≠ b → ({ w with heap := w.heap.setIfInBounds b (.map es' clk') } : World).heap[c]? = w.heap[c]? := fun c hc => by
    simp [Array.getElem?_setIfInBounds_ne (Ne.symm hc)]
  refine ⟨fun _ _ => trivial, ?_⟩
  have hrun : (execOp ac.eval ⟨none, .mapUpdate T m x y, ty, pos, af, gd⟩).run cx.P w = .ok .skip { w with heap := w.heap.setIfInBounds b (.map es' clk') } := by
    simp [execOp, h1, h2, h2', h5]
  rw [semAt_eq _ _ _ (fun _ => by simp), hrun]
  refine K ε I _ ⟨fun _ _ => ⟨rfl, rfl, rfl⟩, IH.le.rfl', fun c o hc => ?_, rfl, rfl, rfl, by simp, fun c _ hn => hoth c (fun e => hn (e ▸ hfp)), fun _ _ h => .inl h⟩
    ⟨trivial, fun _ _ h => (by cases h), fun _ _ h => (by cases h), fun i e he => by obtain ⟨rfl, rfl⟩ := look_one he; exact ⟨.inl (hs.wfL i _ hk).1, trivial⟩, fun _ _ h => (by cases h),
      fun i e he => by obtain ⟨rfl, rfl⟩ := look_one he; exact ⟨es', clk', by simp [hlt], h6⟩,
      fun i e he c hc => by
        obtain ⟨rfl, rfl⟩ := look_one he
        have hc : c = b := hc
        subst hc
        exact ⟨hft.1, by simpa using hft.2.1, hft.2.2, .inr hfp⟩,
      fun i i' e e' c he he' hne => by
        obtain ⟨rfl, _⟩ := look_one he
        obtain ⟨rfl, _⟩ := look_one he'
        exact absurd rfl hne, fun i x he => by
        obtain ⟨_, h⟩ := look_one he
        cases h
        exact ⟨Nat.zero_le _, fun _ h => h.elim⟩⟩
  rw [hoth c (fun e => by rw [e, hft.2.2] at hc; cases hc)]; exact hs.imm c o hc
end ops
section steps
variable {cx : Cx} {Q : Exit → Act → World → Prop} {ops : Array Oper} {rest : List Oper}
variable {n : Nat} {fr : List (Nat × SV)} {X : List (Nat × Pred)} {L : List (Nat × Ent)} {D : List Nat} {G : List (Nat × Bool)} {d : Tmp} {ty : TypeId} {pos : String} {af : Array Edge}
/-- A map is made: in some block. -/
theorem WPl.mkmap (ag : Bool) (nk k m : Nat) {T : TypeId} (hk : Nat.ble n k = true) (hm : Nat.blt k m = true) (hd : Nat.blt d cx.N = true) (K : ∀ b, WPl cx ops ⟨m, (d, .e (.a (.v (.map (some b))))) :: fr, X, (k, .ext (mapXP ag nk b [])) :: L, D, G⟩ rest Q) :
    WPl cx ops ⟨n, fr, X, L, D, G⟩ (⟨some d, .makeMap T none, ty, pos, af, none⟩ :: rest) Q := by
  have hk' : n ≤ k := by simpa using hk
  rw [Nat.blt_eq] at hm hd
  intro ε I a w hs
  refine wpListIn_step fun K' hK => ?_
  simp only [Region.wanted, if_true]
  refine ⟨fun _ _ => trivial, ?_⟩
  have hrun : (execOp a.eval ⟨some d, .makeMap T none, ty, pos, af, none⟩).run cx.P w = .ok (.value (.map (some w.heap.size))) (w.alloc (.map #[] 0)) := by
    simp [execOp, Instr.makeMap, newObj, Sem.run]
  rw [semAt_eq _ _ _ (fun _ => by simp), hrun]
  refine hK _ _ (K w.heap.size ⟨Eng.upd ε.β k w.heap.size, Eng.upd ε.ν k undef, ε.γ⟩ I _ _ ?_)
  have := SatM.app (d := some d) (u := ⟨.e (.a (.v (.map (some w.heap.size)))), [k], [], [(k, .ext (mapXP ag nk w.heap.size []))], []⟩) m hs (St.le.refl _) (fun i hi hlt => by
      have hi : i ∈ [k] := hi
      rw [List.mem_singleton] at hi; subst hi
      have : i < n := hlt
      omega) (fun i hi => by cases hi; exact hd) (Tr.alloc hs.imm k (.map #[] 0) undef)
    ⟨trivial, fun _ _ h => (by cases h), fun _ _ h => (by cases h), fun i e he => by obtain ⟨rfl, rfl⟩ := look_one he; exact ⟨.inr (by simp), trivial⟩, fun _ _ h => (by cases h),
      fun i e he => by obtain ⟨rfl, rfl⟩ := look_one he; exact ⟨#[], 0, heap_alloc_new w _, rfl, fun p hp => by cases hp⟩,
      fun i e he c hc => by
        obtain ⟨rfl, rfl⟩ := look_one he
        have hc : c = w.heap.size := hc
        subst hc
        exact ⟨.inl hs.keep.size, by simp, IH.none_ge hs.imm (Nat.le_refl _), .inl (Nat.le_refl _)⟩,
      fun i i' e e' c he he' hne => by
        obtain ⟨rfl, _⟩ := look_one he
        obtain ⟨rfl, _⟩ := look_one he'
        exact absurd rfl hne, fun i x he => by
        obtain ⟨_, h⟩ := look_one he
        cases h
        exact ⟨Nat.zero_le _, fun _ h => h.elim⟩⟩
  refine SatM.mono (fun i hi => ?_) this
  rcases hi with hi | hi
  · have hi : i < n := hi
    show i < m
    omega
  · have hi : i ∈ [k] := hi
    rw [List.mem_singleton] at hi
    show i < m
    omega
/-- What a map holds gets a name. -/
theorem WP.openX {ag : Bool} {nk b km : Nat} {Kp : List Int → Int → Prop} {c : Code} (hk : look km L = some (.ext (memoXP ag nk b Kp))) (h : ∀ l : MapL, (∀ p ∈ l, Kp p.1 p.2) → WP cx ⟨n, fr, X, (km, .ext (mapXP ag nk b l)) :: L, D, G⟩ c Q) : WP cx ⟨n, fr, X, L, D, G⟩ c Q := by
  intro ε I a w hs
  obtain ⟨l, h1, h2⟩ := hs.L km _ hk
  refine h l h1 ε I a w ?_
  have hlk : ∀ i e, look i ((km, Ent.ext (mapXP ag nk b l)) :: L) = some e → (i = km ∧ e = .ext (mapXP ag nk b l)) ∨ (i ≠ km ∧ look i L = some e) := by
    intro i e he
    rw [look_cons] at he
    by_cases hi : km = i
    · subst hi; simp at he; exact .inl ⟨rfl, he.symm⟩
    · simp [hi] at he; exact .inr ⟨fun h => hi h.symm, he⟩
  have hft : ∀ i e, look i ((km, Ent.ext (mapXP ag nk b l)) :: L) = some e → ∃ e', look i L = some e' ∧ ∀ c, e.foot ε i c → e'.foot ε i c := fun i e he => by
    rcases hlk i e he with ⟨rfl, rfl⟩ | ⟨_, he⟩
    · exact ⟨_, hk, fun c h => h⟩
    · exact ⟨_, he, fun c h => h⟩
  refine { hs with wfL := fun i e he => ?_, L := fun i e he => ?_, foot := fun i e he c hfb => ?_, sep := fun i i' e e' c he he' hne h1 h2 => ?_, ext := fun i z hz => ?_ }
  · rcases hlk i e he with ⟨rfl, rfl⟩ | ⟨_, he⟩
    · exact ⟨(hs.wfL i _ hk).1, trivial⟩
    · exact hs.wfL i e he
  · rcases hlk i e he with ⟨rfl, rfl⟩ | ⟨_, he⟩
    · exact h2
    · exact hs.L i e he
  · obtain ⟨e', h1, h2⟩ := hft i e he; exact hs.foot i e' h1 c (h2 c hfb)
  · obtain ⟨e1, h3, h4⟩ := hft i e he
    obtain ⟨e2, h5, h6⟩ := hft i' e' he'
    exact hs.sep i i' e1 e2 c h3 h5 hne (h4 c h1) (h6 c h2)
  · rcases hlk i _ hz with ⟨_, h'⟩ | ⟨_, h'⟩
    · cases h'; exact ⟨Nat.zero_le _, fun _ h => h.elim⟩
    · exact hs.ext i z h'
end steps

/-! ### Yields -/
inductive LtF (S : St) (k : Nat) (R : Pred) : Prop
  | own {α : Type} {E : EP α} {l : List α} {T : TypeId} (hk : look k S.L = some (.own T E.size l.length (RP E l))) (hR : R = PL E l) (hf : ∀ I I' cs x, E.h I cs x → E.h I' cs x)
def LtOK (S : St) (ρ : Nat → Nat) : List (Nat × Pred) → Prop
  | [] => True
  | (j, R) :: t => LtF S (ρ j) R ∧ LtOK S ρ t
theorem LtOK.get {S : St} {ρ : Nat → Nat} : ∀ {X : List (Nat × Pred)}, LtOK S ρ X → ∀ j R, look j X = some R → LtF S (ρ j) R
  | (k, R') :: t, h, j, R, hj => by
    rw [look_cons] at hj
    by_cases hk : k = j
    · subst hk; simp at hj; subst hj; exact h.1
    · simp [hk] at hj; exact LtOK.get h.2 j R hj
/-- The round that a yield calls for. -/
theorem yieldH {cx : Cx} {S : St} {l ky : Nat} {svs : List SV} {J : List Nat} {F : Nat → Prop} {it : Item} {Y Y' K' : YI cx.w0.heap.size} (ρ : Nat → Nat)
    (hround : ∀ F I' w' us vs, Y.J F I' w' → cx.I0.le I' → I'.on w' → cx.w0.heap.size ≤ w'.heap.size → (∀ b, cx.E b → F b) → it.ok F I' w' us vs → RoundR cx.P l vs cx.w0.heap.size F I' w' Y' K')
    (hk : look ky S.L = some (.ext (Y.xp F))) (hF : ∀ b, cx.E b → F b) (hsv : SvsOK S svs (it.svs.map (SV.ren ρ))) (hwf : ∀ x ∈ it.svs, x.res J) (hX : RenOK S.X ρ it.X) (hLt : LtOK S ρ it.Lt) :
    ∀ ε I a w, Sat cx ε I S a w → RoundR cx.P l (svs.map (SV.den ε)) cx.w0.heap.size F I w Y' K' := by
  intro ε I a w hs
  refine hround F I w (fun j => ε.ν (ρ j)) _ (hs.L ky _ hk) hs.le0 hs.imm hs.keep.size hF ⟨?_, fun j R hj => hs.has (hX.get j R hj), fun j R hj => ?_⟩
  · rw [hsv.den hs, svs_ren hwf]
  · cases hLt.get j R hj with
    | own hl hR hf =>
      subst hR
      obtain ⟨xs, h1, h2⟩ := hs.L _ _ hl
      refine ⟨own_pl h1 h2 (fun cs x h => hf _ _ cs x h) fun b hb => by simp only [rd, if_pos hb], fun b hb => ⟨(hs.foot _ _ hl b hb).2.1, fun hFb => ?_⟩⟩
      have hne : ρ j ≠ ky := fun e => by rw [e, hk] at hl; cases hl
      exact hs.sep _ ky _ _ b hl hk hne hb hFb

/-! ### Slices of settled slices -/
section ops
variable {cx : Cx} {S : St} {dst : Option Tmp} {ty : TypeId} {pos : String} {af : Array Edge} {gd : Option (Nat × Bool)}
theorem PL.sub {α : Type} {E : EP α} {l : List α} {I : IH} {a : Option Addr} {cap : Nat} {lo hi : Nat} (h : (PL E l).h I (.slice a l.length cap)) (h1 : lo ≤ hi) (h2 : hi ≤ l.length) : (PL E ((l.take hi).drop lo)).h I (.slice (if cap = lo then a else a.map (·.add (lo * E.size))) (hi - lo) (cap - lo)) := by
  obtain ⟨a', cap', hv, hc, h⟩ := h
  simp only [Value.slice.injEq, true_and] at hv
  obtain ⟨rfl, rfl⟩ := hv
  have hl : ((l.take hi).drop lo).length = hi - lo := by simp; omega
  refine ⟨_, _, by rw [hl], by rw [hl]; omega, fun i hi' => ?_⟩
  rw [hl] at hi'
  obtain ⟨cs, ad, h3, h4, h5, h6⟩ := h (lo + i) (by omega)
  have hne : ¬ cap = lo := by omega
  refine ⟨cs, ad.add (lo * E.size), ?_, by rw [if_neg hne, h4]; rfl, Addr.add_spot h5 _, fun j y hj => ?_⟩
  · have : ((l.take hi).drop lo)[i]'(by omega) = l[lo + i]'(by omega) := by simp
    rw [this]; exact h3
  · rw [Addr.add_add h5, show lo * E.size + (i * E.size + j) = (lo + i) * E.size + j by rw [Nat.add_mul]; omega]
    exact h6 j y hj
theorem o_slice {x : Operand} {lo hi : Option Operand} {T e : TypeId} {j k : Nat} {α : Type} {E : EP α} {l : List α} {a b : Int} (hT : IsSl cx.P T e E.size) (hx : S.op x = some (.e (.a (.q j)))) (hj : Has S.X j (PL E l))
    (hlo : match lo with | some y => S.op y = some (.i a) | none => a = 0) (hhi : match hi with | some y => S.op y = some (.i b) | none => b = l.length) (h0 : 0 ≤ a) (h1 : a ≤ b) (h2 : b ≤ l.length) :
    OpG cx S ⟨dst, .slice T x lo hi none, ty, pos, af, gd⟩ ⟨.e (.a (.q k)), [k], [(k, PL E ((l.take b.toNat).drop a.toNat))], [], []⟩ :=
  OpG.newq (fun _ => by simp) fun M ε I ac w hs => by
    have h := hs.eval hx
    have hp := hs.has hj
    obtain ⟨ad, cap, hv, hc, _⟩ := hp
    have hp' := hs.has hj
    rw [hv] at hp'
    simp only [SV.den, El.den, At.den, hv] at h
    refine ⟨_, PL.sub hp' (lo := a.toNat) (hi := b.toNat) (by omega) (by omega), ?_⟩
    obtain ⟨hu, hsz⟩ := hT
    have hb1 : b ≤ cap := by omega
    have hbn : ((b.toNat : Nat) : Int) = b := by omega
    cases lo with
    | none =>
      cases hi with
      | none =>
        subst hlo; subst hhi
        simp [execOp, h, Instr.sliceAt, Instr.slice, run_underlying hu, Instr.sliceBounds, hsz]
      | some yh =>
        subst hlo
        have h4 := hs.eval hhi
        simp only [SV.den, El.den, At.den] at h4
        simp [execOp, h, h4, Instr.sliceAt, Instr.slice, run_underlying hu, Instr.sliceBounds, hsz, Instr.sliceBound, asIntOf, show 0 ≤ b by omega, hb1]
    | some yl =>
      have h3 := hs.eval hlo
      simp only [SV.den, El.den, At.den] at h3
      cases hi with
      | none =>
        subst hhi
        simp [execOp, h, h3, Instr.sliceAt, Instr.slice, run_underlying hu, Instr.sliceBounds, hsz, Instr.sliceBound, asIntOf, h0, h1]
      | some yh =>
        have h4 := hs.eval hhi
        simp only [SV.den, El.den, At.den] at h4
        simp [execOp, h, h3, h4, Instr.sliceAt, Instr.slice, run_underlying hu, Instr.sliceBounds, hsz, Instr.sliceBound, asIntOf, h0, h1, show 0 ≤ b by omega, hb1, hbn]
end ops

/-! ### Steps of drawn regions that turn memory in a call -/
section
variable {cx : Cx} {Q : Exit → Act → World → Prop} {ops : Array Oper} {nf : Nat} {r : Rec} {t : List (Oper × Rec)} {rest : List Oper}
variable {n : Nat} {fr : List (Nat × SV)} {X : List (Nat × Pred)} {L : List (Nat × Ent)} {D : List Nat} {G : List (Nat × Bool)} {d : Tmp} {op : Op} {ty : TypeId} {pos : String} {af : Array Edge} {gd : Option (Nat × Bool)} {sv : SV}
theorem DRQ.cL {X' : List (Nat × Pred)} {L' : List (Nat × Ent)} (hd : Nat.blt d cx.N = true) (hg : GOK ops (dropL r.ds fr) gd true) (hN : r.N = keys X') (hk : r.ks = keys X' ++ keys L') (h : OpG cx (St.drop ⟨n, fr, X, L, D, G⟩ r.ds r.dk) ⟨some d, op, ty, pos, af, gd⟩ ⟨sv, keys X', X', L', []⟩)
    (K : DRQ cx ops nf t ⟨n, (d, sv) :: fr, X' ++ X, L' ++ L, D, G⟩ Q) : DRQ cx ops nf ((⟨some d, op, ty, pos, af, gd⟩, r) :: t) ⟨n, fr, X, L, D, G⟩ Q :=
  ⟨⟨sv, keys X', X', L', []⟩, ROp.on hg h, ⟨hN.symm, fun i _ h => by rw [hk]; exact List.mem_append_left _ (look_keys h), fun i _ h => by rw [hk]; exact List.mem_append_right _ (look_keys h), rfl, fun i hi => by cases hi; rw [Nat.blt_eq] at hd; exact hd⟩, K⟩
theorem WPl.cL (m : Nat) {X' : List (Nat × Pred)} {L' : List (Nat × Ent)} (hk : (keys X').all (Nat.ble n ·) = true) (hm : (keys X').all (Nat.blt · m) = true) (hn : Nat.ble n m = true) (hd : Nat.blt d cx.N = true) (hg : GOK ops fr gd true) (h : OpG cx ⟨n, fr, X, L, D, G⟩ ⟨some d, op, ty, pos, af, gd⟩ ⟨sv, keys X', X', L', []⟩)
    (K : WPl cx ops ⟨m, (d, sv) :: fr, X' ++ X, L' ++ L, D, G⟩ rest Q) : WPl cx ops ⟨n, fr, X, L, D, G⟩ (⟨some d, op, ty, pos, af, gd⟩ :: rest) Q :=
  WPl.upd m (ROp.on hg h) (St.le.refl _) (fun i hi => by cases hi; rw [Nat.blt_eq] at hd; exact hd)
    (fun j h => ⟨by simpa using List.all_eq_true.1 hk j h, by simpa [Nat.blt_eq] using List.all_eq_true.1 hm j h⟩) (by simpa using hn) K
end
end Go.Eng
