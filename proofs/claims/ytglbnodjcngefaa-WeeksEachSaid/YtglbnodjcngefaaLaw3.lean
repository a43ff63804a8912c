/- Laws of layer 13 in plain terms, part 3: Safe. -/
import Derived.Test.YtglbnodjcngefaaLaw2
set_option linter.unusedSimpArgs false
set_option linter.unusedVariables false
namespace Go.Flong
open Go Go.Eng
theorem cutLK_spec {hi n low : Int} : ∀ (k : Nat) (x : Int), hi - x + 1 ≤ k → ∀ t, (cutLK hi n low k x ≤ t ∧ t ≤ hi) ↔ (x ≤ t ∧ t ≤ hi ∧ low ≤ 1000 * (t + n))
  | 0, x, hk, t => by simp only [cutLK]; omega
  | k + 1, x, hk, t => by
    simp only [cutLK]
    split
    · have := cutLK_spec (hi := hi) (n := n) (low := low) k (x + 1) (by omega) t
      rw [this]; omega
    · omega
theorem cutL_spec {lo hi n low : Int} (t : Int) : (cutL lo hi n low ≤ t ∧ t ≤ hi) ↔ (lo ≤ t ∧ t ≤ hi ∧ low ≤ 1000 * (t + n)) := cutLK_spec _ _ (by omega) t
theorem cutHK_spec {lo n high : Int} : ∀ (k : Nat) (x : Int), x - lo + 1 ≤ k → ∀ t, (lo ≤ t ∧ t ≤ cutHK lo n high k x) ↔ (lo ≤ t ∧ t ≤ x ∧ 1000 * (t + n) ≤ high)
  | 0, x, hk, t => by simp only [cutHK]; omega
  | k + 1, x, hk, t => by
    simp only [cutHK]
    split
    · have := cutHK_spec (lo := lo) (n := n) (high := high) k (x - 1) (by omega) t
      rw [this]; omega
    · omega
theorem cut_spec {lo hi n low high : Int} (t : Int) : (cutL lo hi n low ≤ t ∧ t ≤ cutH (cutL lo hi n low) hi n high) ↔ (lo ≤ t ∧ t ≤ hi ∧ low ≤ 1000 * (t + n) ∧ 1000 * (t + n) ≤ high) := by
  have h1 := cutHK_spec (lo := cutL lo hi n low) (n := n) (high := high) (hi - cutL lo hi n low + 1).toNat hi (by omega) t
  have h2 := cutL_spec (lo := lo) (hi := hi) (n := n) (low := low) t
  have h3 : cutH (cutL lo hi n low) hi n high = cutHK (cutL lo hi n low) n high (hi - cutL lo hi n low + 1).toNat hi := rfl
  rw [h3, h1]
  constructor
  · rintro ⟨a, b, c⟩
    have := h2.1 ⟨a, b⟩
    exact ⟨this.1, this.2.1, this.2.2, c⟩
  · rintro ⟨a, b, c, d⟩
    have := h2.2 ⟨a, b, c⟩
    exact ⟨this.1, b, d⟩
theorem not_allI_iff {p : Nat → Bool} {n : Nat} : (!allI p n) = true ↔ ∃ i : Nat, i < n ∧ p i = false := by
  rw [Bool.not_eq_true']
  constructor
  · intro h
    cases hx : decide (∃ i : Nat, i < n ∧ p i = false) with
    | true => exact of_decide_eq_true hx
    | false =>
      have hx := of_decide_eq_false hx
      have : allI p n = true := allI_iff.2 fun j hj => by
        cases hp : p j with
        | true => rfl
        | false => exact absurd ⟨j, hj, hp⟩ hx
      rw [this] at h; cases h
  · rintro ⟨i, hi, hp⟩; exact not_allI hi hp
/-- What was added and lost ahead of a night. -/
def goneAt (f : Fnd) (plan : List (List Int)) (night : Nat) (d : Int) : Pt :=
  ⟨f.shop.pounds + sumOf Pig.pounds f.shop.pigs (upTo f.shop.pigs.length plan night) - d, sumOf Pig.tin f.shop.pigs (upTo f.shop.pigs.length plan night) - d, sumOf Pig.tin f.shop.pigs (upTo f.shop.pigs.length plan night) - d, sumOf Pig.ant f.shop.pigs (upTo f.shop.pigs.length plan night), sumOf Pig.ant f.shop.pigs (upTo f.shop.pigs.length plan night), 0, 0⟩
theorem goneAt_add {f : Fnd} {plan : List (List Int)} (hp : PlanB f plan) {night : Nat} (hn : night < plan.length) (d : Int) : (goneAt f plan night d).addL f.shop.pigs (nth plan (night : Int)) = goneAt f plan (night + 1) d := by
  have h1 := fun g => upTo_plus (g := g) hp hn
  simp only [goneAt, addL_eq, h1]
  congr 1 <;> omega
theorem goneAt_drop {f : Fnd} {plan : List (List Int)} {night : Nat} {d x : Int} : (goneAt f plan night d).drop x = goneAt f plan night (d + x) := by
  simp only [goneAt, Pt.drop]
  congr 1 <;> omega
theorem canP_iff {f : Fnd} {plan : List (List Int)} (hp : PlanB f plan) : ∀ (n night : Nat) (tl th al ah d : Int), night + n = f.nights.length →
    (f.canP plan n night tl th al ah (goneAt f plan night d) = true ↔ ∃ t a : Int, tl ≤ t ∧ t ≤ th ∧ al ≤ a ∧ a ≤ ah ∧ f.holds plan t a n d = true)
  | 0, night, tl, th, al, ah, d, hn => by
    simp only [Fnd.canP, Fnd.holds, and_true]
    constructor
    · intro h
      simp at h
      exact ⟨tl, al, by omega, by omega, by omega, by omega⟩
    · rintro ⟨t, a, h1, h2, h3, h4⟩
      simp; omega
  | n + 1, night, tl, th, al, ah, d, hn => by
    have hl := hp.1
    have hg : f.gone1 plan (night : Int) (goneAt f plan night d) = goneAt f plan (night + 1) d := goneAt_add hp (by omega) d
    have e1 : f.nights.length - n = night + 1 := by omega
    have e2 : f.nights.length - (n + 1) = night := by omega
    have key : ∀ t a : Int, (f.keeps t a d (upTo f.shop.pigs.length plan (night + 1)) = true) ↔ ((goneAt f plan (night + 1) d).pounds * f.shop.tpl ≤ 1000 * (t + (goneAt f plan (night + 1) d).tl) ∧ 1000 * (t + (goneAt f plan (night + 1) d).tl) ≤ (goneAt f plan (night + 1) d).pounds * f.shop.tph ∧ (goneAt f plan (night + 1) d).pounds * f.shop.apl ≤ 1000 * (a + (goneAt f plan (night + 1) d).al) ∧ 1000 * (a + (goneAt f plan (night + 1) d).al) ≤ (goneAt f plan (night + 1) d).pounds * f.shop.aph) := by
      intro t a
      rw [Fnd.keeps, keeps4_iff]
      have e : t + (sumOf Pig.tin f.shop.pigs (upTo f.shop.pigs.length plan (night + 1)) - d) = t + sumOf Pig.tin f.shop.pigs (upTo f.shop.pigs.length plan (night + 1)) - d := by omega
      simp only [goneAt, e]
    simp only [Fnd.canP, Fnd.holds, hg, e1, e2, Bool.and_eq_true, not_allI_iff, Bool.not_eq_false']
    have ih := fun (t1 t2 a1 a2 x : Int) => canP_iff hp n (night + 1) t1 t2 a1 a2 (d + x) (by omega)
    have e3 : ((night : Int) + 1) = ((night + 1 : Nat) : Int) := by omega
    simp only [goneAt_drop, e3, ih]
    constructor
    · rintro ⟨_, i, hi, t, a, h1, h2, h3, h4, h5⟩
      have c1 := (cut_spec t).1 ⟨h1, h2⟩
      have c2 := (cut_spec a).1 ⟨h3, h4⟩
      refine ⟨t, a, c1.1, c1.2.1, c2.1, c2.2.1, (key t a).2 ⟨c1.2.2.1, c1.2.2.2, c2.2.2.1, c2.2.2.2⟩, i, hi, ?_⟩
      rw [Int.add_assoc]; exact h5
    · rintro ⟨t, a, h1, h2, h3, h4, h5, i, hi, h6⟩
      obtain ⟨k1, k2, k3, k4⟩ := (key t a).1 h5
      refine ⟨by simp; omega, i, hi, t, a, ((cut_spec t).2 ⟨h1, h2, k1, k2⟩).1, ((cut_spec t).2 ⟨h1, h2, k1, k2⟩).2, ((cut_spec a).2 ⟨h3, h4, k3, k4⟩).1, ((cut_spec a).2 ⟨h3, h4, k3, k4⟩).2, ?_⟩
      rw [Int.add_assoc] at h6; exact h6
theorem wCan_iff {f : Fnd} {plan : List (List Int)} (hp : PlanB f plan) : f.wCan plan = true ↔ ∃ t a : Int, f.shop.tl ≤ t ∧ t ≤ f.shop.th ∧ f.shop.al ≤ a ∧ a ≤ f.shop.ah ∧ f.holds plan t a f.nights.length 0 = true := by
  have h := canP_iff hp f.nights.length 0 f.shop.tl f.shop.th f.shop.al f.shop.ah 0 (by omega)
  have e : goneAt f plan 0 0 = ⟨f.shop.pounds, 0, 0, 0, 0, 0, 0⟩ := by simp [goneAt, upTo, sumOf_zero]
  rw [e] at h
  exact h
theorem wCan_eq {f : Fnd} {plan : List (List Int)} (hp : PlanB f plan) : f.wCan plan = !allI (f.noneAt plan) (f.shop.th - f.shop.tl + 1).toNat := by
  rw [Bool.eq_iff_iff, wCan_iff hp, not_allI_iff]
  constructor
  · rintro ⟨t, a, h1, h2, h3, h4, h5⟩
    refine ⟨(t - f.shop.tl).toNat, by omega, ?_⟩
    unfold Fnd.noneAt
    refine not_allI (show (a - f.shop.al).toNat < _ by omega) ?_
    rw [show f.shop.tl + ((t - f.shop.tl).toNat : Int) = t by omega, show f.shop.al + ((a - f.shop.al).toNat : Int) = a by omega, h5]; rfl
  · rintro ⟨i, hi, h⟩
    have := not_allI_iff.1 (show (!allI _ _) = true by rw [Bool.not_eq_true']; exact h)
    obtain ⟨j, hj, h2⟩ := this
    exact ⟨f.shop.tl + i, f.shop.al + j, by omega, by omega, by omega, by omega, by simpa using h2⟩
theorem wSafeV_eq {f : Fnd} {plan : List (List Int)} : f.wSafeV plan = f.safeK plan := by
  unfold Fnd.wSafeV Fnd.safeK
  rw [wOpen_eq]
  by_cases h : f.openE plan = 0
  · obtain ⟨hf, hp⟩ := open_zero h
    rw [if_pos h, wFails_eq hf hp, wCan_eq hp, if_neg (show ¬ f.openE plan ≠ 0 from fun g => g h)]
    split
    · rfl
    · cases allI (f.noneAt plan) (f.shop.th - f.shop.tl + 1).toNat <;> rfl
  · rw [if_neg h, if_pos (by simpa using h)]
/-- Check, Pot, Safe, Fails and Last are as the document says. -/
theorem potLaw (f : Fnd) (plan : List (List Int)) (night : Int) : PotLaw f plan night := ⟨wPotV_eq, wPotE_eq, wSafeV_eq, wOpen_eq, wFailsV_eq, wLastV_eq⟩
end Go.Flong
