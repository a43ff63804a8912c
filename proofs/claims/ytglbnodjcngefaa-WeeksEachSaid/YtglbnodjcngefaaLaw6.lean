/- Laws of layer 13 in plain terms, part 6: each truth. -/
import Derived.Test.YtglbnodjcngefaaLaw3
import Derived.Test.YtglbnodjcngefaaBase10
set_option linter.unusedSimpArgs false
set_option linter.unusedVariables false
namespace Go.Flong
open Go Go.Eng
/-- What is safe with the ends of spans is safe with all between. -/
theorem safe_keeps {f : Fnd} {tl th al ah dl dh : Int} {add : List Int} (h : f.safeOn tl th al ah dl dh add = true) {t a d : Int} (h1 : tl ≤ t) (h2 : t ≤ th) (h3 : al ≤ a) (h4 : a ≤ ah) (h5 : dl ≤ d) (h6 : d ≤ dh) : f.keeps t a d add = true := by
  have := safeOn_iff.1 h (d - dl).toNat (by omega)
  rw [show dl + ((d - dl).toNat : Int) = d by omega, keeps4_iff, keeps4_iff] at this
  rw [Fnd.keeps, keeps4_iff]
  omega
theorem keeps_safe {f : Fnd} {tl th al ah dl dh : Int} {add : List Int} (ht : tl ≤ th) (ha : al ≤ ah) (h : ∀ t a d : Int, tl ≤ t → t ≤ th → al ≤ a → a ≤ ah → dl ≤ d → d ≤ dh → f.keeps t a d add = true) : f.safeOn tl th al ah dl dh add = true := by
  rw [safeOn_iff]
  intro j hj
  exact ⟨h tl al (dl + j) (by omega) ht (by omega) ha (by omega) (by omega), h th ah (dl + j) ht (by omega) ha (by omega) (by omega) (by omega)⟩
section
variable {f : Fnd} {plan : List (List Int)} {t : Tru}
theorem truth_parts (ht : f.isTruth t = true) : (f.shop.tl ≤ t.tin ∧ t.tin ≤ f.shop.th) ∧ (f.shop.al ≤ t.ant ∧ t.ant ≤ f.shop.ah) ∧ t.dross.length = f.nights.length ∧ ∀ i : Nat, i < f.nights.length → (nth f.nights i).lo ≤ nth t.dross i ∧ nth t.dross i ≤ (nth f.nights i).hi := by
  simp only [Fnd.isTruth, Bool.and_eq_true, decide_eq_true_eq, within] at ht
  refine ⟨ht.1.1.1, ht.1.1.2, by omega, fun i hi => ?_⟩
  have := allI_iff.1 ht.2 i (by omega)
  simpa only [Fnd.truthAt, within, Bool.and_eq_true, decide_eq_true_eq] using this
theorem safe_at_keeps (hf : f.chk = true) (ht : f.isTruth t = true) {i : Nat} (hi : i < f.nights.length) (h : f.safeAt plan i = true) : f.keepsAt plan t i = true := by
  have h1 := truth_parts ht
  have h2 := truth_sum hf ht i (by omega)
  exact safe_keeps h h1.1.1 h1.1.2 h1.2.1.1 h1.2.1.2 h2.1 h2.2
/-- Numbers that ascend, below a bound. -/
def Asc (l : List Int) (n : Int) : Prop := ∀ j : Nat, j < l.length → 0 ≤ nth l j ∧ nth l j < n ∧ (0 < j → nth l ((j : Int) - 1) < nth l j)
theorem nth_app1 {l r : List Int} {j : Nat} (h : j < l.length) : nth (l ++ r) j = nth l j := by
  simp only [nth, List.getD_eq_getElem?_getD]
  rw [List.getElem?_append_left (by simpa using h)]
theorem asc_fails : ∀ n : Nat, Asc (failsTo f plan n) n
  | 0 => fun j hj => by simp [failsTo] at hj
  | n + 1 => by
    have ih := asc_fails n
    simp only [failsTo]
    split
    · intro j hj
      have := ih j hj
      exact ⟨this.1, by omega, this.2.2⟩
    · intro j hj
      rw [List.length_append, List.length_singleton] at hj
      by_cases e : j < (failsTo f plan n).length
      · have := ih j e
        rw [nth_app1 e]
        refine ⟨this.1, by omega, fun h0 => ?_⟩
        rw [show ((j : Int) - 1) = ((j - 1 : Nat) : Int) by omega, nth_app1 (by omega)]
        rw [show ((j - 1 : Nat) : Int) = (j : Int) - 1 by omega]
        exact this.2.2 h0
      · have e2 : j = (failsTo f plan n).length := by omega
        subst e2
        have e3 : nth (failsTo f plan n ++ [(n : Int)]) ((failsTo f plan n).length : Int) = n := by
          simp [nth, List.getD_eq_getElem?_getD]
        rw [e3]
        refine ⟨by omega, by omega, fun h0 => ?_⟩
        rw [show (((failsTo f plan n).length : Int) - 1) = (((failsTo f plan n).length - 1 : Nat) : Int) by omega, nth_app1 (by omega)]
        exact (ih _ (by omega)).2.1
theorem rising_asc {l : List Int} {n : Int} (h : Asc l n) : rising l 0 (n - 1) = true := allI_iff.2 fun j hj => by
  have := h j hj
  simp only [risingAt, within, Bool.and_eq_true, decide_eq_true_eq, Bool.not_eq_true', Bool.and_eq_false_iff, decide_eq_false_iff_not]
  refine ⟨by omega, ?_⟩
  by_cases h0 : 0 < j
  · exact .inr (by have := this.2.2 h0; omega)
  · exact .inl (by omega)
theorem inL_mem {l : List Int} {x : Int} (h : x ∈ l) : inL l x = true := by
  obtain ⟨j, hj, rfl⟩ := List.mem_iff_getElem.1 h
  exact not_allI_iff.2 ⟨j, hj, by rw [nthN hj]; simp⟩
/-- With a truth in which all limits are kept on all nights the plan holds. -/
theorem truth_holds (hp : PlanB f plan) (ht : f.isTruth t = true) (hk : ∀ i : Nat, i < f.nights.length → f.keepsAt plan t i = true) : ∀ n night : Nat, night + n = f.nights.length → f.holds plan t.tin t.ant n (sumI t.dross night) = true
  | 0, _, _ => rfl
  | n + 1, night, hn => by
    have h1 := (truth_parts ht).2.2.2 night (by omega)
    have e1 : f.nights.length - n = night + 1 := by omega
    have e2 : f.nights.length - (n + 1) = night := by omega
    simp only [Fnd.holds, Bool.and_eq_true, e1, e2]
    refine ⟨hk night (by omega), not_allI_iff.2 ⟨(nth t.dross (night : Int) - (nth f.nights (night : Int)).lo).toNat, by omega, ?_⟩⟩
    have ih := truth_holds hp ht hk n (night + 1) (by omega)
    simp only [sumI] at ih
    rw [show sumI t.dross night + (nth f.nights (night : Int)).lo + ((nth t.dross (night : Int) - (nth f.nights (night : Int)).lo).toNat : Int) = sumI t.dross night + nth t.dross (night : Int) by omega, ih]; rfl
theorem safeV_cases (h : f.openE plan = 0) : (f.wSafeV plan = 1 ∧ (failsTo f plan f.nights.length).length = 0) ∨ (f.wSafeV plan = 3 ∧ (failsTo f plan f.nights.length).length ≠ 0 ∧ f.wCan plan = true) ∨ (f.wSafeV plan = 2 ∧ (failsTo f plan f.nights.length).length ≠ 0 ∧ f.wCan plan = false) := by
  obtain ⟨hf, hp⟩ := open_zero h
  unfold Fnd.wSafeV
  rw [if_pos (by rw [wOpen_eq]; exact h), wFails_eq hf hp]
  by_cases h0 : (failsTo f plan f.nights.length).length = 0
  · exact .inl ⟨if_pos h0, h0⟩
  · rw [if_neg h0]
    cases hc : f.wCan plan with
    | true => exact .inr (.inl ⟨rfl, h0, rfl⟩)
    | false => exact .inr (.inr ⟨rfl, h0, rfl⟩)
theorem fails_none (h : (failsTo f plan f.nights.length).length = 0) {i : Nat} (hi : i < f.nights.length) : f.safeAt plan i = true := by
  cases hs : f.safeAt plan i with
  | true => rfl
  | false =>
    have := (mem_failsTo (f := f) (plan := plan) (x := (i : Int)) f.nights.length).2 ⟨i, hi, rfl, hs⟩
    rw [List.length_eq_zero_iff.1 h] at this
    exact absurd this (by simp)
theorem openE_ok (hf : f.chk = true) (hp : f.isPlan plan = true) : f.openE plan = 0 := by
  unfold Fnd.openE; rw [hf, hp]; rfl
theorem eachLaw (hf : f.chk = true) (hp : f.isPlan plan = true) (ht : f.isTruth t = true) : EachLaw f plan t := by
  have ho := openE_ok hf hp
  have hB := Fnd.planB hf hp
  have hw : f.wFailsV plan = failsTo f plan f.nights.length := by
    rw [wFailsV_eq]; unfold Fnd.failsR; rw [if_pos ho]
  have hc := safeV_cases ho
  have hpe : ∀ i : Nat, i < f.nights.length → f.potE plan i = 0 := fun i hi => by
    unfold Fnd.potE
    rw [if_neg (by rw [ho]; simp), if_pos (by simp only [within, Bool.and_eq_true, decide_eq_true_eq]; omega)]
  have htp := truth_parts ht
  have hpv : ∀ i : Nat, i < f.nights.length → f.wPotV plan i = f.potL plan i := fun i hi => by
    rw [wPotV_eq, Fnd.potV, if_pos (hpe i hi)]
  refine ⟨by rw [wOpen_eq]; exact ho, ?_, ?_, ?_, fun i hi => by rw [wPotE_eq]; exact hpe i hi, fun i hi => ?_, fun i hi => ?_, fun i hi => ?_, fun i hi hk => ?_, fun h => ?_, fun h => ?_⟩
  · rcases hc with ⟨h, _⟩ | ⟨h, _⟩ | ⟨h, _⟩ <;> rw [h] <;> rfl
  · rw [hw]; exact rising_asc (asc_fails _)
  · rw [hw]
    rcases hc with ⟨h, h2⟩ | ⟨h, h2, _⟩ | ⟨h, h2, _⟩
    · exact ⟨fun _ => h, fun _ => h2⟩
    · exact ⟨fun g => absurd g h2, fun g => by rw [h] at g; omega⟩
    · exact ⟨fun g => absurd g h2, fun g => by rw [h] at g; omega⟩
  · have := truth_sum hf ht i (by omega)
    rw [hpv i hi]
    simp only [Fnd.potL, within, Bool.and_eq_true, decide_eq_true_eq, show ((i : Int) + 1).toNat = i + 1 by omega, Int.toNat_natCast]
    show f.shop.pounds + _ - hiTo f.nights i ≤ _ ∧ _ ≤ f.shop.pounds + _ - loTo f.nights i
    omega
  · have := truth_sum hf ht i (by omega)
    rw [hpv i hi]
    simp only [Fnd.potL, within, Bool.and_eq_true, decide_eq_true_eq, show ((i : Int) + 1).toNat = i + 1 by omega, Int.toNat_natCast]
    show f.shop.tl + _ - hiTo f.nights i ≤ _ ∧ _ ≤ f.shop.th + _ - loTo f.nights i
    omega
  · rw [hpv i hi]
    simp only [Fnd.potL, within, Bool.and_eq_true, decide_eq_true_eq, show ((i : Int) + 1).toNat = i + 1 by omega, Int.toNat_natCast]
    show f.shop.al + _ ≤ _ ∧ _ ≤ f.shop.ah + _
    omega
  · rw [hw]
    refine inL_mem ((mem_failsTo _).2 ⟨i, hi, rfl, ?_⟩)
    cases hs : f.safeAt plan i with
    | false => rfl
    | true => rw [safe_at_keeps hf ht hi hs] at hk; cases hk
  · refine allI_iff.2 fun i hi => ?_
    rcases hc with ⟨_, h2⟩ | ⟨h3, _⟩ | ⟨h3, _⟩
    · exact safe_at_keeps hf ht hi (fails_none h2 hi)
    · rw [h3] at h; omega
    · rw [h3] at h; omega
  · rcases hc with ⟨h3, _⟩ | ⟨h3, _⟩ | ⟨_, _, h3⟩
    · rw [h3] at h; omega
    · rw [h3] at h; omega
    · cases ha : allI (f.keepsAt plan t) f.nights.length with
      | false => rfl
      | true =>
        have := truth_holds hB ht (allI_iff.1 ha) f.nights.length 0 (by omega)
        rw [(wCan_iff hB).2 ⟨t.tin, t.ant, htp.1.1, htp.1.2, htp.2.1.1, htp.2.1.2, this⟩] at h3
        cases h3
end
end Go.Flong
