/- Laws of layer 13 in plain terms, part 1: pots, plans, fails. -/
import Derived.Test.YtglbnodjcngefaaBase9
set_option linter.unusedSimpArgs false
set_option linter.unusedVariables false
namespace Go.Flong
open Go Go.Eng
theorem sumTo_plus {f : Pig → Int} {pigs : List Pig} {a b : List Int} : ∀ i : Nat, i ≤ a.length → sumTo f pigs (plus a b) i = sumTo f pigs a i + sumTo f pigs b i
  | 0, _ => by simp [sumTo]
  | i + 1, h => by
    simp only [sumTo]
    rw [sumTo_plus i (by omega), nth_plus (by omega), Int.add_mul]; omega
theorem sumOf_plus {f : Pig → Int} {pigs : List Pig} {a b : List Int} (h : b.length = a.length) : sumOf f pigs (plus a b) = sumOf f pigs a + sumOf f pigs b := by
  simp only [sumOf]
  rw [plus_len, sumTo_plus _ (Nat.le_refl _), h]
theorem sumTo_zero {f : Pig → Int} {pigs : List Pig} {n : Nat} : ∀ i : Nat, sumTo f pigs (List.replicate n 0) i = 0
  | 0 => rfl
  | i + 1 => by simp only [sumTo]; rw [sumTo_zero i, nth_rep]; simp
theorem sumOf_zero {f : Pig → Int} {pigs : List Pig} {n : Nat} : sumOf f pigs (List.replicate n 0) = 0 := sumTo_zero _
section
variable {f : Fnd} {plan : List (List Int)}
theorem upTo_plus (hp : PlanB f plan) {g : Pig → Int} {i : Nat} (hi : i < plan.length) : sumOf g f.shop.pigs (upTo f.shop.pigs.length plan (i + 1)) = sumOf g f.shop.pigs (upTo f.shop.pigs.length plan i) + sumOf g f.shop.pigs (nth plan i) := by
  rw [upTo, sumOf_plus (by rw [upTo_len, (hp.2 i hi).1])]
theorem addL_eq (p : Pt) (pigs : List Pig) (l : List Int) : p.addL pigs l = ⟨p.pounds + sumOf Pig.pounds pigs l, p.tl + sumOf Pig.tin pigs l, p.th + sumOf Pig.tin pigs l, p.al + sumOf Pig.ant pigs l, p.ah + sumOf Pig.ant pigs l, p.dl, p.dh⟩ := rfl
/-- The pot ahead of a night, in the document's terms. -/
theorem pre_eq (hp : PlanB f plan) : ∀ i : Nat, i ≤ plan.length → f.pre plan i = ⟨f.shop.pounds + sumOf Pig.pounds f.shop.pigs (upTo f.shop.pigs.length plan i), f.shop.tl + sumOf Pig.tin f.shop.pigs (upTo f.shop.pigs.length plan i), f.shop.th + sumOf Pig.tin f.shop.pigs (upTo f.shop.pigs.length plan i), f.shop.al + sumOf Pig.ant f.shop.pigs (upTo f.shop.pigs.length plan i), f.shop.ah + sumOf Pig.ant f.shop.pigs (upTo f.shop.pigs.length plan i), loTo f.nights i, hiTo f.nights i⟩
  | 0, _ => by simp [Fnd.pre, Fnd.pt0, upTo, sumOf_zero, loTo, hiTo]
  | i + 1, hi => by
    have h1 := fun g => upTo_plus (g := g) hp (show i < plan.length by omega)
    simp only [Fnd.pre, pre_eq hp i (by omega), addL_eq, Pt.lose, h1, loTo, hiTo, Pt.mk.injEq]
    refine ⟨?_, ?_, ?_, ?_, ?_, trivial, trivial⟩ <;> omega
theorem at_eq (hp : PlanB f plan) {i : Nat} (hi : i < plan.length) : f.at plan i = ⟨f.shop.pounds + sumOf Pig.pounds f.shop.pigs (upTo f.shop.pigs.length plan (i + 1)), f.shop.tl + sumOf Pig.tin f.shop.pigs (upTo f.shop.pigs.length plan (i + 1)), f.shop.th + sumOf Pig.tin f.shop.pigs (upTo f.shop.pigs.length plan (i + 1)), f.shop.al + sumOf Pig.ant f.shop.pigs (upTo f.shop.pigs.length plan (i + 1)), f.shop.ah + sumOf Pig.ant f.shop.pigs (upTo f.shop.pigs.length plan (i + 1)), loTo f.nights i, hiTo f.nights i⟩ := by
  have h1 := fun g => upTo_plus (g := g) hp hi
  simp only [Fnd.at, pre_eq hp i (by omega), addL_eq, h1, Pt.mk.injEq]
  refine ⟨?_, ?_, ?_, ?_, ?_, trivial, trivial⟩ <;> omega
end
theorem keeps4_iff {s : Shop} {p t a : Int} : keeps4 s p t a = true ↔ p * s.tpl ≤ 1000 * t ∧ 1000 * t ≤ p * s.tph ∧ p * s.apl ≤ 1000 * a ∧ 1000 * a ≤ p * s.aph := by
  simp only [keeps4, allI, keeps1, Bool.true_and, Bool.and_eq_true]
  simp
  constructor
  · rintro ⟨⟨⟨h1, h2⟩, h3⟩, h4⟩; exact ⟨h1, h2, h3, h4⟩
  · rintro ⟨h1, h2, h3, h4⟩; exact ⟨⟨⟨h1, h2⟩, h3⟩, h4⟩
/-- What is safe in the worst truths is safe in all. -/
theorem safe_iff {s : Shop} (h1 : 0 ≤ s.tpl ∧ s.tpl ≤ 1000) (h2 : 0 ≤ s.tph ∧ s.tph ≤ 1000) (h3 : 0 ≤ s.apl) (h4 : 0 ≤ s.aph) {P tl th al ah dl dh : Int} (ht : tl ≤ th) (ha : al ≤ ah) (hd : dl ≤ dh) :
    ((∀ j : Nat, j < (dh - dl + 1).toNat → keeps4 s (P - (dl + j)) (tl - (dl + j)) al = true ∧ keeps4 s (P - (dl + j)) (th - (dl + j)) ah = true) ↔
      ((P - dh) * s.tpl ≤ 1000 * (tl - dh) ∧ 1000 * (th - dl) ≤ (P - dl) * s.tph ∧ (P - dl) * s.apl ≤ 1000 * al ∧ 1000 * ah ≤ (P - dh) * s.aph)) := by
  constructor
  · intro h
    have a0 := h 0 (by omega)
    have a1 := h (dh - dl).toNat (by omega)
    rw [show dl + ((dh - dl).toNat : Int) = dh by omega, keeps4_iff, keeps4_iff] at a1
    rw [show dl + ((0 : Nat) : Int) = dl by omega, keeps4_iff, keeps4_iff] at a0
    exact ⟨a1.1.1, a0.2.2.1, a0.1.2.2.1, a1.2.2.2.2⟩
  · rintro ⟨b1, b2, b3, b4⟩ j hj
    rw [keeps4_iff, keeps4_iff]
    have e1 := Int.mul_nonneg (show 0 ≤ dh - (dl + j) by omega) (show 0 ≤ 1000 - s.tpl by omega)
    have e2 := Int.mul_nonneg (show 0 ≤ (dl + j) - dl by omega) (show 0 ≤ 1000 - s.tph by omega)
    have e3 := Int.mul_nonneg (show 0 ≤ (dl + j) - dl by omega) h3
    have e4 := Int.mul_nonneg (show 0 ≤ dh - (dl + j) by omega) h4
    generalize dl + (j : Int) = d at *
    simp only [Int.sub_mul, Int.mul_sub] at *
    omega
theorem shop_parts {s : Shop} (h : s.chk = true) : (0 ≤ s.tpl ∧ s.tpl ≤ 1000) ∧ (0 ≤ s.tph ∧ s.tph ≤ 1000) ∧ 0 ≤ s.apl ∧ 0 ≤ s.aph ∧ s.tl ≤ s.th ∧ s.al ≤ s.ah := by
  simp only [Shop.chk, Shop.head, isPot, isSpan, within, Bool.and_eq_true, decide_eq_true_eq] at h
  omega
theorem safeOn_iff {f : Fnd} {tl th al ah dl dh : Int} {add : List Int} : f.safeOn tl th al ah dl dh add = true ↔ ∀ j : Nat, j < (dh - dl + 1).toNat → keeps4 f.shop (f.shop.pounds + sumOf Pig.pounds f.shop.pigs add - (dl + j)) (tl + sumOf Pig.tin f.shop.pigs add - (dl + j)) (al + sumOf Pig.ant f.shop.pigs add) = true ∧ keeps4 f.shop (f.shop.pounds + sumOf Pig.pounds f.shop.pigs add - (dl + j)) (th + sumOf Pig.tin f.shop.pigs add - (dl + j)) (ah + sumOf Pig.ant f.shop.pigs add) = true := by
  simp only [Fnd.safeOn, allI_iff, Bool.and_eq_true, Fnd.keeps]
theorem sure_safe {f : Fnd} (hf : f.chk = true) {tl th al ah dl dh : Int} (ht : tl ≤ th) (ha : al ≤ ah) (hd : dl ≤ dh) {add : List Int} :
    f.sureP ⟨f.shop.pounds + sumOf Pig.pounds f.shop.pigs add, tl + sumOf Pig.tin f.shop.pigs add, th + sumOf Pig.tin f.shop.pigs add, al + sumOf Pig.ant f.shop.pigs add, ah + sumOf Pig.ant f.shop.pigs add, dl, dh⟩ = f.safeOn tl th al ah dl dh add := by
  obtain ⟨h1, h2, h3, h4, _, _⟩ := shop_parts (Fnd.shopOK hf)
  rw [Bool.eq_iff_iff, safeOn_iff, safe_iff h1 h2 h3 h4 (by omega) (by omega) hd]
  simp only [Fnd.sureP, Bool.and_eq_true, decide_eq_true_eq]
  constructor
  · rintro ⟨⟨⟨a, b⟩, c⟩, d⟩; exact ⟨a, b, c, d⟩
  · rintro ⟨a, b, c, d⟩; exact ⟨⟨⟨a, b⟩, c⟩, d⟩
section
variable {f : Fnd} {plan : List (List Int)}
theorem sureAt_eq (hf : f.chk = true) (hp : PlanB f plan) {i : Nat} (hi : i < plan.length) : f.sureP (f.at plan i) = f.safeAt plan i := by
  have h := shop_parts (Fnd.shopOK hf)
  have hl := lohi_bnd (Fnd.nightsOK hf) i (by have := hp.1; omega)
  rw [at_eq hp hi, sure_safe hf (by omega) (by omega) hl.2.1]; rfl
theorem wFailsTo_eq (hf : f.chk = true) (hp : PlanB f plan) : ∀ i : Nat, i ≤ plan.length → f.wFailsTo plan i = failsTo f plan i
  | 0, _ => rfl
  | i + 1, hi => by
    simp only [Fnd.wFailsTo, failsTo, sureAt_eq hf hp (show i < plan.length by omega), wFailsTo_eq hf hp i (by omega)]
theorem wFails_eq (hf : f.chk = true) (hp : PlanB f plan) : f.wFails plan = failsTo f plan f.nights.length := by
  rw [Fnd.wFails, ← hp.1]; exact wFailsTo_eq hf hp _ (Nat.le_refl _)
end
end Go.Flong
