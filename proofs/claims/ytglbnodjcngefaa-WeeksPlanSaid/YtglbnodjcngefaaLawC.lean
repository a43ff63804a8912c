/- Laws of layer 13 in plain terms, part 6: each truth. Laws of layer 13 in plain terms, part 7: what costs the least, and what is known; foundries of which one is better than the other. Laws of layer 13 in plain terms, part 8: safe plans; what Cheap, Once and Known say. -/
import Derived.Test.YtglbnodjcngefaaLawA
import Derived.Test.YtglbnodjcngefaaBase10
import Derived.Test.YtglbnodjcngefaaLawB
set_option linter.unusedSimpArgs false
set_option linter.unusedVariables false
namespace Go.Flong
open Go Go.Eng
/-- What is safe with the ends of spans is safe with all between. -/
theorem safe_keeps {f : Fnd} {tl th al ah dl dh : Int} {add : List Int} (h : f.safeOn tl th al ah dl dh add = true) {t a d : Int} (h1 : tl ≤ t) (h2 : t ≤ th) (h3 : al ≤ a) (h4 : a ≤ ah) (h5 : dl ≤ d) (h6 : d ≤ dh) : f.keeps t a d add = true := by
  have := safeOn_iff.1 h (d - dl).toNat (by omega)
  rw [show dl + ((d - dl).toNat : Int) = d by omega, keeps4_iff, keeps4_iff] at this
  rw [Fnd.keeps, keeps4_iff]
  omega
theorem keeps_safe {f : Fnd} {tl th al ah dl dh : Int} {add : List Int} (ht : tl ≤ th) (ha : al ≤ ah) (h : ∀ t a d : Int, tl ≤ t → t ≤ th → al ≤ a → a ≤ ah → dl ≤ d → d ≤ dh → f.keeps t a d add = true) : f.safeOn tl th al ah dl dh add = true := by
  rw [safeOn_iff]
  intro j hj
  exact ⟨h tl al (dl + j) (by omega) ht (by omega) ha (by omega) (by omega), h th ah (dl + j) ht (by omega) ha (by omega) (by omega) (by omega)⟩
section
variable {f : Fnd} {plan : List (List Int)} {t : Tru}
theorem truth_parts (ht : f.isTruth t = true) : (f.shop.tl ≤ t.tin ∧ t.tin ≤ f.shop.th) ∧ (f.shop.al ≤ t.ant ∧ t.ant ≤ f.shop.ah) ∧ t.dross.length = f.nights.length ∧ ∀ i : Nat, i < f.nights.length → (nth f.nights i).lo ≤ nth t.dross i ∧ nth t.dross i ≤ (nth f.nights i).hi := by
  simp only [Fnd.isTruth, Bool.and_eq_true, decide_eq_true_eq, within] at ht
  refine ⟨ht.1.1.1, ht.1.1.2, by omega, fun i hi => ?_⟩
  have := allI_iff.1 ht.2 i (by omega)
  simpa only [Fnd.truthAt, within, Bool.and_eq_true, decide_eq_true_eq] using this
theorem safe_at_keeps (hf : f.chk = true) (ht : f.isTruth t = true) {i : Nat} (hi : i < f.nights.length) (h : f.safeAt plan i = true) : f.keepsAt plan t i = true := by
  have h1 := truth_parts ht
  have h2 := truth_sum hf ht i (by omega)
  exact safe_keeps h h1.1.1 h1.1.2 h1.2.1.1 h1.2.1.2 h2.1 h2.2
/-- Numbers that ascend, below a bound. -/
def Asc (l : List Int) (n : Int) : Prop := ∀ j : Nat, j < l.length → 0 ≤ nth l j ∧ nth l j < n ∧ (0 < j → nth l ((j : Int) - 1) < nth l j)
theorem nth_app1 {l r : List Int} {j : Nat} (h : j < l.length) : nth (l ++ r) j = nth l j := by
  simp only [nth, List.getD_eq_getElem?_getD]
  rw [List.getElem?_append_left (by simpa using h)]
theorem asc_fails : ∀ n : Nat, Asc (failsTo f plan n) n
  | 0 => fun j hj => by simp [failsTo] at hj
  | n + 1 => by
    have ih := asc_fails n
    simp only [failsTo]
    split
    · intro j hj
      have := ih j hj
      exact ⟨this.1, by omega, this.2.2⟩
    · intro j hj
      rw [List.length_append, List.length_singleton] at hj
      by_cases e : j < (failsTo f plan n).length
      · have := ih j e
        rw [nth_app1 e]
        refine ⟨this.1, by omega, fun h0 => ?_⟩
        rw [show ((j : Int) - 1) = ((j - 1 : Nat) : Int) by omega, nth_app1 (by omega)]
        rw [show ((j - 1 : Nat) : Int) = (j : Int) - 1 by omega]
        exact this.2.2 h0
      · have e2 : j = (failsTo f plan n).length := by omega
        subst e2
        have e3 : nth (failsTo f plan n ++ [(n : Int)]) ((failsTo f plan n).length : Int) = n := by
          simp [nth, List.getD_eq_getElem?_getD]
        rw [e3]
        refine ⟨by omega, by omega, fun h0 => ?_⟩
        rw [show (((failsTo f plan n).length : Int) - 1) = (((failsTo f plan n).length - 1 : Nat) : Int) by omega, nth_app1 (by omega)]
        exact (ih _ (by omega)).2.1
theorem rising_asc {l : List Int} {n : Int} (h : Asc l n) : rising l 0 (n - 1) = true := allI_iff.2 fun j hj => by
  have := h j hj
  simp only [risingAt, within, Bool.and_eq_true, decide_eq_true_eq, Bool.not_eq_true', Bool.and_eq_false_iff, decide_eq_false_iff_not]
  refine ⟨by omega, ?_⟩
  by_cases h0 : 0 < j
  · exact .inr (by have := this.2.2 h0; omega)
  · exact .inl (by omega)
theorem inL_mem {l : List Int} {x : Int} (h : x ∈ l) : inL l x = true := by
  obtain ⟨j, hj, rfl⟩ := List.mem_iff_getElem.1 h
  exact not_allI_iff.2 ⟨j, hj, by rw [nthN hj]; simp⟩
/-- With a truth in which all limits are kept on all nights the plan holds. -/
theorem truth_holds (hp : PlanB f plan) (ht : f.isTruth t = true) (hk : ∀ i : Nat, i < f.nights.length → f.keepsAt plan t i = true) : ∀ n night : Nat, night + n = f.nights.length → f.holds plan t.tin t.ant n (sumI t.dross night) = true
  | 0, _, _ => rfl
  | n + 1, night, hn => by
    have h1 := (truth_parts ht).2.2.2 night (by omega)
    have e1 : f.nights.length - n = night + 1 := by omega
    have e2 : f.nights.length - (n + 1) = night := by omega
    simp only [Fnd.holds, Bool.and_eq_true, e1, e2]
    refine ⟨hk night (by omega), not_allI_iff.2 ⟨(nth t.dross (night : Int) - (nth f.nights (night : Int)).lo).toNat, by omega, ?_⟩⟩
    have ih := truth_holds hp ht hk n (night + 1) (by omega)
    simp only [sumI] at ih
    rw [show sumI t.dross night + (nth f.nights (night : Int)).lo + ((nth t.dross (night : Int) - (nth f.nights (night : Int)).lo).toNat : Int) = sumI t.dross night + nth t.dross (night : Int) by omega, ih]; rfl
theorem safeV_cases (h : f.openE plan = 0) : (f.wSafeV plan = 1 ∧ (failsTo f plan f.nights.length).length = 0) ∨ (f.wSafeV plan = 3 ∧ (failsTo f plan f.nights.length).length ≠ 0 ∧ f.wCan plan = true) ∨ (f.wSafeV plan = 2 ∧ (failsTo f plan f.nights.length).length ≠ 0 ∧ f.wCan plan = false) := by
  obtain ⟨hf, hp⟩ := open_zero h
  unfold Fnd.wSafeV
  rw [if_pos (by rw [wOpen_eq]; exact h), wFails_eq hf hp]
  by_cases h0 : (failsTo f plan f.nights.length).length = 0
  · exact .inl ⟨if_pos h0, h0⟩
  · rw [if_neg h0]
    cases hc : f.wCan plan with
    | true => exact .inr (.inl ⟨rfl, h0, rfl⟩)
    | false => exact .inr (.inr ⟨rfl, h0, rfl⟩)
theorem fails_none (h : (failsTo f plan f.nights.length).length = 0) {i : Nat} (hi : i < f.nights.length) : f.safeAt plan i = true := by
  cases hs : f.safeAt plan i with
  | true => rfl
  | false =>
    have := (mem_failsTo (f := f) (plan := plan) (x := (i : Int)) f.nights.length).2 ⟨i, hi, rfl, hs⟩
    rw [List.length_eq_zero_iff.1 h] at this
    exact absurd this (by simp)
theorem openE_ok (hf : f.chk = true) (hp : f.isPlan plan = true) : f.openE plan = 0 := by
  unfold Fnd.openE; rw [hf, hp]; rfl
theorem eachLaw (hf : f.chk = true) (hp : f.isPlan plan = true) (ht : f.isTruth t = true) : EachLaw f plan t := by
  have ho := openE_ok hf hp
  have hB := Fnd.planB hf hp
  have hw : f.wFailsV plan = failsTo f plan f.nights.length := by
    rw [wFailsV_eq]; unfold Fnd.failsR; rw [if_pos ho]
  have hc := safeV_cases ho
  have hpe : ∀ i : Nat, i < f.nights.length → f.potE plan i = 0 := fun i hi => by
    unfold Fnd.potE
    rw [if_neg (by rw [ho]; simp), if_pos (by simp only [within, Bool.and_eq_true, decide_eq_true_eq]; omega)]
  have htp := truth_parts ht
  have hpv : ∀ i : Nat, i < f.nights.length → f.wPotV plan i = f.potL plan i := fun i hi => by
    rw [wPotV_eq, Fnd.potV, if_pos (hpe i hi)]
  refine ⟨by rw [wOpen_eq]; exact ho, ?_, ?_, ?_, fun i hi => by rw [wPotE_eq]; exact hpe i hi, fun i hi => ?_, fun i hi => ?_, fun i hi => ?_, fun i hi hk => ?_, fun h => ?_, fun h => ?_⟩
  · rcases hc with ⟨h, _⟩ | ⟨h, _⟩ | ⟨h, _⟩ <;> rw [h] <;> rfl
  · rw [hw]; exact rising_asc (asc_fails _)
  · rw [hw]
    rcases hc with ⟨h, h2⟩ | ⟨h, h2, _⟩ | ⟨h, h2, _⟩
    · exact ⟨fun _ => h, fun _ => h2⟩
    · exact ⟨fun g => absurd g h2, fun g => by rw [h] at g; omega⟩
    · exact ⟨fun g => absurd g h2, fun g => by rw [h] at g; omega⟩
  · have := truth_sum hf ht i (by omega)
    rw [hpv i hi]
    simp only [Fnd.potL, within, Bool.and_eq_true, decide_eq_true_eq, show ((i : Int) + 1).toNat = i + 1 by omega, Int.toNat_natCast]
    show f.shop.pounds + _ - hiTo f.nights i ≤ _ ∧ _ ≤ f.shop.pounds + _ - loTo f.nights i
    omega
  · have := truth_sum hf ht i (by omega)
    rw [hpv i hi]
    simp only [Fnd.potL, within, Bool.and_eq_true, decide_eq_true_eq, show ((i : Int) + 1).toNat = i + 1 by omega, Int.toNat_natCast]
    show f.shop.tl + _ - hiTo f.nights i ≤ _ ∧ _ ≤ f.shop.th + _ - loTo f.nights i
    omega
  · rw [hpv i hi]
    simp only [Fnd.potL, within, Bool.and_eq_true, decide_eq_true_eq, show ((i : Int) + 1).toNat = i + 1 by omega, Int.toNat_natCast]
    show f.shop.al + _ ≤ _ ∧ _ ≤ f.shop.ah + _
    omega
  · rw [hw]
    refine inL_mem ((mem_failsTo _).2 ⟨i, hi, rfl, ?_⟩)
    cases hs : f.safeAt plan i with
    | false => rfl
    | true => rw [safe_at_keeps hf ht hi hs] at hk; cases hk
  · refine allI_iff.2 fun i hi => ?_
    rcases hc with ⟨_, h2⟩ | ⟨h3, _⟩ | ⟨h3, _⟩
    · exact safe_at_keeps hf ht hi (fails_none h2 hi)
    · rw [h3] at h; omega
    · rw [h3] at h; omega
  · rcases hc with ⟨h3, _⟩ | ⟨h3, _⟩ | ⟨_, _, h3⟩
    · rw [h3] at h; omega
    · rw [h3] at h; omega
    · cases ha : allI (f.keepsAt plan t) f.nights.length with
      | false => rfl
      | true =>
        have := truth_holds hB ht (allI_iff.1 ha) f.nights.length 0 (by omega)
        rw [(wCan_iff hB).2 ⟨t.tin, t.ant, htp.1.1, htp.1.2, htp.2.1.1, htp.2.1.2, this⟩] at h3
        cases h3
end
end Go.Flong
namespace Go.Flong
open Go Go.Eng
/-! ### The least of some numbers -/
theorem foldl_min_le {α : Type} {c : α → Int} : ∀ (l : List α) (w : Int), l.foldl (fun w r => min w (c r)) w ≤ w ∧ ∀ r ∈ l, l.foldl (fun w r => min w (c r)) w ≤ c r
  | [], w => ⟨Int.le_refl _, fun r h => by simp at h⟩
  | x :: t, w => by
    have := foldl_min_le (c := c) t (min w (c x))
    rw [List.foldl_cons]
    refine ⟨by omega, fun r hr => ?_⟩
    rcases List.mem_cons.1 hr with rfl | h
    · omega
    · exact this.2 r h
theorem foldl_min_at {α : Type} {c : α → Int} : ∀ (l : List α) (w : Int), l.foldl (fun w r => min w (c r)) w = w ∨ ∃ r ∈ l, l.foldl (fun w r => min w (c r)) w = c r
  | [], w => .inl rfl
  | x :: t, w => by
    rw [List.foldl_cons]
    rcases foldl_min_at (c := c) t (min w (c x)) with h | ⟨r, hr, h⟩
    · rw [h]
      by_cases g : w ≤ c x
      · exact .inl (by omega)
      · exact .inr ⟨x, List.mem_cons_self, by omega⟩
    · exact .inr ⟨r, List.mem_cons_of_mem _ hr, h⟩
abbrev nextS (f : Fnd) (night : Int) (s : Sp) : Sp := { s with dl := s.dl + (nth f.nights night).lo, dh := s.dh + (nth f.nights night).hi }
theorem beh_foldN {f : Fnd} {nx : Sp → List Int → Int} {night : Int} {s : Sp} {before : List Int} : f.beh nx night s before = min ((f.rowsS s before).foldl (fun w r => min w (sumOf Pig.pence f.shop.pigs r + nx (nextS f night s) (plus before r))) neverC) neverC := beh_fold
theorem beh_le {f : Fnd} {nx : Sp → List Int → Int} {night : Int} {s : Sp} {before : List Int} : f.beh nx night s before ≤ neverC ∧ ∀ r ∈ f.rowsS s before, f.beh nx night s before ≤ sumOf Pig.pence f.shop.pigs r + nx (nextS f night s) (plus before r) := by
  rw [beh_foldN]
  have := foldl_min_le (c := fun r => sumOf Pig.pence f.shop.pigs r + nx (nextS f night s) (plus before r)) (f.rowsS s before) neverC
  exact ⟨by omega, fun r hr => by have := this.2 r hr; omega⟩
theorem beh_at {f : Fnd} {nx : Sp → List Int → Int} {night : Int} {s : Sp} {before : List Int} : f.beh nx night s before = neverC ∨ ∃ r ∈ f.rowsS s before, f.beh nx night s before = sumOf Pig.pence f.shop.pigs r + nx (nextS f night s) (plus before r) := by
  rw [beh_foldN]
  have h0 := (foldl_min_le (c := fun r => sumOf Pig.pence f.shop.pigs r + nx (nextS f night s) (plus before r)) (f.rowsS s before) neverC).1
  rcases foldl_min_at (c := fun r => sumOf Pig.pence f.shop.pigs r + nx (nextS f night s) (plus before r)) (f.rowsS s before) neverC with h | ⟨r, hr, h⟩
  · exact .inl (by omega)
  · exact .inr ⟨r, hr, by omega⟩
/-! ### The worst of some numbers -/
theorem iter_ge {F : Nat → Int → Int} {v : Int} (hF : ∀ i x, x ≤ F i x) : ∀ {n : Nat} {s : Int}, (∃ i, i < n ∧ ∀ x, v ≤ F i x) → v ≤ iter F s n
  | 0, s, h => by obtain ⟨i, hi, _⟩ := h; omega
  | n + 1, s, ⟨i, hi, h⟩ => by
    rw [show iter F s (n + 1) = F n (iter F s n) from rfl]
    by_cases e : i = n
    · subst e; exact h _
    · exact Int.le_trans (iter_ge hF ⟨i, by omega, h⟩) (hF n _)
theorem iter_le_self {F : Nat → Int → Int} (hF : ∀ i x, x ≤ F i x) : ∀ {n : Nat} {s : Int}, s ≤ iter F s n
  | 0, s => Int.le_refl _
  | n + 1, s => Int.le_trans (iter_le_self hF (n := n)) (hF n _)
theorem worst3_ge {g : Int → Int → Int → Int} {s : Sp} {t a d : Int} (h1 : s.tl ≤ t) (h2 : t ≤ s.th) (h3 : s.al ≤ a) (h4 : a ≤ s.ah) (h5 : s.dl ≤ d) (h6 : d ≤ s.dh) : g t a d ≤ worst3 g s := by
  unfold worst3
  have m3 : ∀ (t a : Int) (k : Nat) (x : Int), x ≤ max x (g t a (s.dl + (k : Int))) := fun t a k x => by omega
  have m2 : ∀ (t : Int) (j : Nat) (x : Int), x ≤ iter (fun k w => max w (g t (s.al + (j : Int)) (s.dl + (k : Int)))) x (s.dh - s.dl + 1).toNat := fun t j x => iter_le_self (m3 t _)
  have m1 : ∀ (i : Nat) (x : Int), x ≤ iter (fun j w => iter (fun k w => max w (g (s.tl + (i : Int)) (s.al + (j : Int)) (s.dl + (k : Int)))) w (s.dh - s.dl + 1).toNat) x (s.ah - s.al + 1).toNat := fun i x => iter_le_self (m2 _)
  refine iter_ge m1 ⟨(t - s.tl).toNat, by omega, fun x => iter_ge (m2 _) ⟨(a - s.al).toNat, by omega, fun y => iter_ge (m3 _ _) ⟨(d - s.dl).toNat, by omega, fun z => ?_⟩⟩⟩
  rw [show s.tl + ((t - s.tl).toNat : Int) = t by omega, show s.al + ((a - s.al).toNat : Int) = a by omega, show s.dl + ((d - s.dl).toNat : Int) = d by omega]
  omega
theorem worst3_nonneg {g : Int → Int → Int → Int} {s : Sp} : 0 ≤ worst3 g s := by
  unfold worst3
  exact iter_le_self fun i x => iter_le_self fun j y => iter_le_self fun k z => by omega
theorem worst3_le {g : Int → Int → Int → Int} {s : Sp} {m : Int} (hm : 0 ≤ m) (hg : ∀ t a d, s.tl ≤ t → t ≤ s.th → s.al ≤ a → a ≤ s.ah → s.dl ≤ d → d ≤ s.dh → g t a d ≤ m) : worst3 g s ≤ m := by
  unfold worst3
  refine iter_ind (P := fun w => w ≤ m) hm fun i x hi hx => iter_ind (P := fun w => w ≤ m) hx fun j y hj hy => iter_ind (P := fun w => w ≤ m) hy fun k z hk hz => ?_
  have := hg (s.tl + i) (s.al + j) (s.dl + k) (by omega) (by omega) (by omega) (by omega) (by omega) (by omega)
  omega
theorem worst3_at {g : Int → Int → Int → Int} {s : Sp} : worst3 g s = 0 ∨ ∃ t a d, (s.tl ≤ t ∧ t ≤ s.th) ∧ (s.al ≤ a ∧ a ≤ s.ah) ∧ (s.dl ≤ d ∧ d ≤ s.dh) ∧ worst3 g s = g t a d := by
  have : ∀ w : Int, w = 0 ∨ (∃ t a d, (s.tl ≤ t ∧ t ≤ s.th) ∧ (s.al ≤ a ∧ a ≤ s.ah) ∧ (s.dl ≤ d ∧ d ≤ s.dh) ∧ w = g t a d) → True := fun _ _ => trivial
  unfold worst3
  refine iter_ind (P := fun w => w = 0 ∨ ∃ t a d, (s.tl ≤ t ∧ t ≤ s.th) ∧ (s.al ≤ a ∧ a ≤ s.ah) ∧ (s.dl ≤ d ∧ d ≤ s.dh) ∧ w = g t a d) (.inl rfl) fun i x hi hx => iter_ind (P := fun w => w = 0 ∨ ∃ t a d, (s.tl ≤ t ∧ t ≤ s.th) ∧ (s.al ≤ a ∧ a ≤ s.ah) ∧ (s.dl ≤ d ∧ d ≤ s.dh) ∧ w = g t a d) hx fun j y hj hy => iter_ind (P := fun w => w = 0 ∨ ∃ t a d, (s.tl ≤ t ∧ t ≤ s.th) ∧ (s.al ≤ a ∧ a ≤ s.ah) ∧ (s.dl ≤ d ∧ d ≤ s.dh) ∧ w = g t a d) hy fun k z hk hz => ?_
  clear hx hy
  by_cases h : z ≤ g (s.tl + (i : Int)) (s.al + (j : Int)) (s.dl + (k : Int))
  · clear hz
    exact .inr ⟨s.tl + i, s.al + j, s.dl + k, ⟨by omega, by omega⟩, ⟨by omega, by omega⟩, ⟨by omega, by omega⟩, by omega⟩
  · rw [show max z (g (s.tl + (i : Int)) (s.al + (j : Int)) (s.dl + (k : Int))) = z by omega]; exact hz
/-! ### Safe plans -/
/-- Pigs that were added, as many as there are. -/
structure BefP (f : Fnd) (before : List Int) : Prop where
  len : before.length = f.shop.pigs.length
  pos : nonneg before
theorem bef_zeros (f : Fnd) : BefP f f.zeros := ⟨zeros_len f, fun j hj => by have := zeros_bnd f 5 (by omega) j hj; exact this.1⟩
theorem mem_rowsS {f : Fnd} {s : Sp} {before x : List Int} (hb : BefP f before) : x ∈ f.rowsS s before ↔ x ∈ boxS (remL f before) ∧ f.shop.pounds - s.dl + (sumOf Pig.pounds f.shop.pigs before + sumOf Pig.pounds f.shop.pigs x) ≤ f.shop.room ∧ f.safeOn s.tl s.th s.al s.ah s.dl s.dh (plus before x) = true := by
  unfold Fnd.rowsS
  rw [addsL_box, List.mem_filter, List.mem_filter]
  constructor
  · rintro ⟨⟨h1, h2⟩, h3⟩
    rw [isAdd_box hb.len hb.pos h1, decide_eq_true_eq] at h2
    exact ⟨h1, h2, h3⟩
  · rintro ⟨h1, h2, h3⟩
    refine ⟨⟨h1, ?_⟩, h3⟩
    rw [isAdd_box hb.len hb.pos h1, decide_eq_true_eq]; exact h2
theorem BefP.next {f : Fnd} {before x : List Int} (hb : BefP f before) (hx : x ∈ boxS (remL f before)) : BefP f (plus before x) := by
  obtain ⟨h1, h2⟩ := mem_boxS.1 hx
  rw [remL_len] at h1 h2
  refine ⟨by rw [plus_len, hb.len], fun j hj => ?_⟩
  rw [plus_len] at hj
  have h3 := h2 j (by have := hb.len; omega)
  have h4 := hb.pos j hj
  rw [nth_plus hj]; omega
theorem row_len {f : Fnd} {before x : List Int} (hx : x ∈ boxS (remL f before)) : x.length = f.shop.pigs.length := by
  have := (mem_boxS.1 hx).1
  rwa [remL_len] at this
theorem row_pos {f : Fnd} {before x : List Int} (hx : x ∈ boxS (remL f before)) : nonneg x := fun j hj => by
  obtain ⟨h1, h2⟩ := mem_boxS.1 hx
  exact (h2 j (by omega)).1
theorem pence_pos {f : Fnd} (hp : PigsOK f.shop.pigs) {before x : List Int} (hb : BefP f before) (hx : x ∈ boxS (remL f before)) : 0 ≤ sumOf Pig.pence f.shop.pigs x ∧ sumOf Pig.pence f.shop.pigs x ≤ 2000 := by
  obtain ⟨h1, h2⟩ := mem_boxS.1 hx
  rw [remL_len] at h1 h2
  refine pence_bnd hp h1 fun j hj => ?_
  have h3 := h2 j (by omega)
  rw [remL_nth (by omega)] at h3
  have h4 := hb.pos j (by rw [hb.len]; omega)
  have h5 := Pig.bnds (hp.at (show j < f.shop.pigs.length by omega))
  omega
/-- Spans within spans. -/
def SpIn (s s' : Sp) : Prop := (s'.tl ≤ s.tl ∧ s.tl ≤ s.th ∧ s.th ≤ s'.th) ∧ (s'.al ≤ s.al ∧ s.al ≤ s.ah ∧ s.ah ≤ s'.ah) ∧ (s'.dl ≤ s.dl ∧ s.dl ≤ s.dh ∧ s.dh ≤ s'.dh)
theorem safe_sub {f : Fnd} {s s' : Sp} (h : SpIn s s') {add : List Int} (hs : f.safeOn s'.tl s'.th s'.al s'.ah s'.dl s'.dh add = true) : f.safeOn s.tl s.th s.al s.ah s.dl s.dh add = true := by
  unfold SpIn at h
  exact keeps_safe (by omega) (by omega) fun t a d _ _ _ _ _ _ => safe_keeps hs (by omega) (by omega) (by omega) (by omega) (by omega) (by omega)
/-- One foundry is at least as good as another one, on the nights that it has. -/
structure Better (f o : Fnd) : Prop where
  n : o.nights.length ≤ f.nights.length
  k : o.shop.pigs.length = f.shop.pigs.length
  g : ∀ j : Nat, (nth o.shop.pigs j).pounds = (nth f.shop.pigs j).pounds ∧ (nth o.shop.pigs j).tin = (nth f.shop.pigs j).tin ∧ (nth o.shop.pigs j).ant = (nth f.shop.pigs j).ant ∧ (nth o.shop.pigs j).pence = (nth f.shop.pigs j).pence ∧ (nth f.shop.pigs j).many ≤ (nth o.shop.pigs j).many
  p : o.shop.pounds = f.shop.pounds ∧ f.shop.room ≤ o.shop.room
  l : o.shop.tpl = f.shop.tpl ∧ o.shop.tph = f.shop.tph ∧ o.shop.apl = f.shop.apl ∧ o.shop.aph = f.shop.aph
  d : ∀ i : Nat, i < o.nights.length → (nth f.nights i).lo ≤ (nth o.nights i).lo ∧ (nth o.nights i).lo ≤ (nth o.nights i).hi ∧ (nth o.nights i).hi ≤ (nth f.nights i).hi
  s : (f.shop.tl ≤ o.shop.tl ∧ o.shop.tl ≤ o.shop.th ∧ o.shop.th ≤ f.shop.th) ∧ (f.shop.al ≤ o.shop.al ∧ o.shop.al ≤ o.shop.ah ∧ o.shop.ah ≤ f.shop.ah)
section
variable {f o : Fnd} (B : Better f o)
theorem sum_same {g : Pig → Int} {p q : List Pig} (h : ∀ j : Nat, g (nth p j) = g (nth q j)) : ∀ (add : List Int) (i : Nat), sumTo g p add i = sumTo g q add i
  | _, 0 => rfl
  | add, i + 1 => by simp only [sumTo]; rw [sum_same h add i, h i]
theorem Better.pounds (B : Better f o) (add : List Int) : sumOf Pig.pounds o.shop.pigs add = sumOf Pig.pounds f.shop.pigs add := sum_same (fun j => (B.g j).1) _ _
theorem Better.tin (B : Better f o) (add : List Int) : sumOf Pig.tin o.shop.pigs add = sumOf Pig.tin f.shop.pigs add := sum_same (fun j => (B.g j).2.1) _ _
theorem Better.ant (B : Better f o) (add : List Int) : sumOf Pig.ant o.shop.pigs add = sumOf Pig.ant f.shop.pigs add := sum_same (fun j => (B.g j).2.2.1) _ _
theorem Better.pence (B : Better f o) (add : List Int) : sumOf Pig.pence o.shop.pigs add = sumOf Pig.pence f.shop.pigs add := sum_same (fun j => (B.g j).2.2.2.1) _ _
theorem Better.keeps (B : Better f o) (t a d : Int) (add : List Int) : o.keeps t a d add = f.keeps t a d add := by
  rw [Bool.eq_iff_iff, Fnd.keeps, Fnd.keeps, keeps4_iff, keeps4_iff, B.pounds, B.tin, B.ant, B.p.1, B.l.1, B.l.2.1, B.l.2.2.1, B.l.2.2.2]
theorem Better.safe (B : Better f o) (tl th al ah dl dh : Int) (add : List Int) : o.safeOn tl th al ah dl dh add = f.safeOn tl th al ah dl dh add := by
  unfold Fnd.safeOn; simp only [B.keeps]
theorem Better.bef (B : Better f o) {before : List Int} (h : BefP f before) : BefP o before := ⟨by rw [h.len, B.k], h.pos⟩
theorem Better.row (B : Better f o) {s s' : Sp} (hs : SpIn s s') {before x : List Int} (hb : BefP f before) (hx : x ∈ f.rowsS s' before) : x ∈ o.rowsS s before := by
  obtain ⟨h1, h2, h3⟩ := (mem_rowsS hb).1 hx
  refine (mem_rowsS (B.bef hb)).2 ⟨?_, ?_, ?_⟩
  · obtain ⟨g1, g2⟩ := mem_boxS.1 h1
    rw [remL_len] at g1 g2
    refine mem_boxS.2 ⟨by rw [remL_len, g1, B.k], fun j hj => ?_⟩
    rw [remL_len, B.k] at hj
    have := g2 j hj
    rw [remL_nth hj] at this
    rw [remL_nth (by rw [B.k]; exact hj)]
    have := (B.g j).2.2.2.2
    omega
  · have := hs.2.2
    have := B.p
    rw [B.pounds, B.pounds]; omega
  · rw [B.safe]; exact safe_sub hs h3
theorem Better.next (B : Better f o) {s s' : Sp} (hs : SpIn s s') {i : Nat} (hi : i < o.nights.length) : SpIn (nextS o i s) (nextS f i s') := by
  have := B.d i hi
  unfold SpIn at *
  simp only [nextS]; omega
theorem Better.sp (B : Better f o) : ∀ i : Nat, i ≤ o.nights.length → SpIn (spOf o i) (spOf f i)
  | 0, _ => by
    have := B.s
    unfold SpIn spOf; simp only [Int.toNat_natCast, loTo, hiTo]; omega
  | i + 1, hi => by
    have ih := B.sp i (by omega)
    have h := B.d i (by omega)
    unfold SpIn spOf at *
    simp only [Int.toNat_natCast, loTo, hiTo] at *
    omega
/-- The first nights of a safe plan are one of the better foundry. -/
theorem Better.plans (B : Better f o) : ∀ (n night m : Nat) (before : List Int) (p : List (List Int)), night + n = f.nights.length → night + m = o.nights.length → BefP f before → p ∈ f.plansR n night before → p.take m ∈ o.plansR m night before
  | n, night, 0, before, p, hn, hm, hb, hp => by simp [Fnd.plansR]
  | 0, night, m + 1, before, p, hn, hm, hb, hp => by have := B.n; omega
  | n + 1, night, m + 1, before, p, hn, hm, hb, hp => by
    rw [plansR_succ, List.mem_flatMap] at hp
    obtain ⟨x, hx, hp⟩ := hp
    obtain ⟨q, hq, rfl⟩ := List.mem_map.1 hp
    have hx2 := B.row (B.sp night (by omega)) hb hx
    have e3 : ((night : Int) + 1) = ((night + 1 : Nat) : Int) := by omega
    rw [e3] at hq
    have ih := B.plans n (night + 1) m (plus before x) q (by omega) (by omega) (hb.next (rowsS_box hx)) hq
    rw [plansR_succ, List.mem_flatMap]
    exact ⟨x, hx2, List.mem_map.2 ⟨q.take m, by rw [e3]; exact ih, rfl⟩⟩
theorem Better.known (B : Better f o) (hf : f.chk = true) (ho : o.chk = true) (ht : ∀ i : Nat, i < o.nights.length → (nth o.nights i).test = (nth f.nights i).test ∨ (nth f.nights i).test = 0) : ∀ (n night m : Nat) (s s' : Sp) (before : List Int), night + n = f.nights.length → night + m = o.nights.length → BefP f before → bnd before 5 → SpIn s s' → o.now m night s before ≤ f.now n night s' before
  | n, night, 0, s, s', before, hn, hm, hb, hb5, hs => (now_bnd hf n night s' before hb.len hb5).1
  | 0, night, m + 1, s, s', before, hn, hm, hb, hb5, hs => by have := B.n; omega
  | n + 1, night, m + 1, s, s', before, hn, hm, hb, hb5, hs => by
    have e3 : ((night : Int) + 1) = ((night + 1 : Nat) : Int) := by omega
    have hpg := Shop.pigsOK (Fnd.shopOK hf)
    have key : ∀ s s' : Sp, SpIn s s' → o.beh (o.now m ((night : Int) + 1)) night s before ≤ f.beh (f.now n ((night : Int) + 1)) night s' before := fun s s' hs => by
      rcases beh_at (f := f) (nx := f.now n ((night : Int) + 1)) (night := night) (s := s') (before := before) with h | ⟨r, hr, h⟩
      · rw [h]; exact beh_le.1
      · rw [h]
        have h1 := (beh_le (nx := o.now m ((night : Int) + 1)) (night := (night : Int))).2 r (B.row hs hb hr)
        have hbx := rowsS_box hr
        have hb5' : bnd (plus before r) 5 := by
          obtain ⟨g1, g2⟩ := mem_boxS.1 hbx
          rw [remL_len] at g1 g2
          intro j hj
          rw [plus_len] at hj
          have h3 := g2 j (by have := hb.len; omega)
          rw [remL_nth (by have := hb.len; omega)] at h3
          have h4 := hb.pos j hj
          have h5 := Pig.bnds (hpg.at (show j < f.shop.pigs.length by have := hb.len; omega))
          rw [nth_plus hj]; omega
        have ih := B.known hf ho ht n (night + 1) m (nextS o night s) (nextS f night s') (plus before r) (by omega) (by omega) (hb.next hbx) hb5' (B.next hs (by omega))
        rw [B.pence] at h1
        rw [e3] at h1 ⊢
        omega
    simp only [Fnd.now]
    have hpos : 0 ≤ worst3 (fun t a d => f.beh (f.now n ((night : Int) + 1)) night ⟨t, t, a, a, d, d⟩ before) s' := worst3_nonneg
    have hs2 := hs
    unfold SpIn at hs2
    have hbp : 0 ≤ f.beh (f.now n ((night : Int) + 1)) night s' before := by
      rcases beh_at (f := f) (nx := f.now n ((night : Int) + 1)) (night := night) (s := s') (before := before) with h | ⟨r, hr, h⟩
      · rw [h]; decide
      · rw [h]
        have hbx := rowsS_box hr
        have h1 := pence_pos hpg hb hbx
        have hb5' : bnd (plus before r) 5 := by
          obtain ⟨g1, g2⟩ := mem_boxS.1 hbx
          rw [remL_len] at g1 g2
          intro j hj
          rw [plus_len] at hj
          have h3 := g2 j (by have := hb.len; omega)
          rw [remL_nth (by have := hb.len; omega)] at h3
          have h4 := hb.pos j hj
          have h5 := Pig.bnds (hpg.at (show j < f.shop.pigs.length by have := hb.len; omega))
          rw [nth_plus hj]; omega
        have := (now_bnd hf n ((night : Int) + 1) (nextS f night s') (plus before r) (hb.next hbx).len hb5').1
        omega
    by_cases h0 : (nth f.nights (night : Int)).test = 0
    · rw [if_pos h0]
      by_cases h1 : (nth o.nights (night : Int)).test = 0
      · rw [if_pos h1]; exact key s s' hs
      · rw [if_neg h1]
        exact worst3_le hbp fun t a d _ _ _ _ _ _ => key _ _ (by unfold SpIn; simp only []; omega)
    · rw [if_neg h0]
      have h1 : (nth o.nights (night : Int)).test ≠ 0 := by
        rcases ht night (by omega) with h | h
        · rw [h]; exact h0
        · exact absurd h h0
      rw [if_neg h1]
      refine worst3_le hpos fun t a d _ _ _ _ _ _ => Int.le_trans (key _ ⟨t, t, a, a, d, d⟩ (by unfold SpIn; simp only []; omega)) ?_
      exact worst3_ge (g := fun t a d => f.beh (f.now n ((night : Int) + 1)) night ⟨t, t, a, a, d, d⟩ before) (by omega) (by omega) (by omega) (by omega) (by omega) (by omega)
end
end Go.Flong
namespace Go.Flong
open Go Go.Eng
/-- What a plan adds ahead of its i-th night, behind some pigs. -/
def befTo (before : List Int) (p : List (List Int)) : Nat → List Int
  | 0 => before
  | i + 1 => plus (befTo before p i) (nth p i)
theorem befTo_upTo {n : Nat} {p : List (List Int)} : ∀ i : Nat, befTo (List.replicate n 0) p i = upTo n p i
  | 0 => rfl
  | i + 1 => by rw [befTo, upTo, befTo_upTo i]
theorem befTo_cons {before x : List Int} {p : List (List Int)} : ∀ i : Nat, befTo before (x :: p) (i + 1) = befTo (plus before x) p i
  | 0 => rfl
  | i + 1 => by rw [befTo, befTo_cons i, befTo, nth_cons_succ]
theorem mem_plansR {f : Fnd} : ∀ (n night : Nat) (before : List Int) (p : List (List Int)), p ∈ f.plansR n night before ↔ p.length = n ∧ ∀ i : Nat, i < n → nth p i ∈ f.rowsS (spOf f ((night + i : Nat) : Int)) (befTo before p i)
  | 0, night, before, p => by
    simp only [Fnd.plansR, List.mem_singleton]
    constructor
    · rintro rfl; exact ⟨rfl, fun i hi => absurd hi (by omega)⟩
    · intro h; exact List.eq_nil_of_length_eq_zero h.1
  | n + 1, night, before, p => by
    have e3 : ((night : Int) + 1) = ((night + 1 : Nat) : Int) := by omega
    rw [plansR_succ, List.mem_flatMap]
    constructor
    · rintro ⟨x, hx, hp⟩
      obtain ⟨q, hq, rfl⟩ := List.mem_map.1 hp
      rw [e3] at hq
      obtain ⟨h1, h2⟩ := (mem_plansR n (night + 1) (plus before x) q).1 hq
      refine ⟨by simp [h1], fun i hi => ?_⟩
      cases i with
      | zero => exact hx
      | succ i =>
        rw [nth_cons_succ, befTo_cons, show night + (i + 1) = night + 1 + i by omega]
        exact h2 i (by omega)
    · rintro ⟨h1, h2⟩
      match p, h1 with
      | x :: q, h1 =>
        refine ⟨x, h2 0 (by omega), List.mem_map.2 ⟨q, ?_, rfl⟩⟩
        rw [e3]
        refine (mem_plansR n (night + 1) (plus before x) q).2 ⟨by simpa using h1, fun i hi => ?_⟩
        have := h2 (i + 1) (by omega)
        rw [nth_cons_succ, befTo_cons, show night + (i + 1) = night + 1 + i by omega] at this
        exact this
theorem befP_upTo {f : Fnd} {p : List (List Int)} : ∀ i : Nat, (∀ k : Nat, k < i → nth p k ∈ boxS (remL f (upTo f.shop.pigs.length p k))) → BefP f (upTo f.shop.pigs.length p i)
  | 0, _ => bef_zeros f
  | i + 1, h => (befP_upTo i (fun k hk => h k (by omega))).next (h i (by omega))
/-- The safe plans. -/
theorem mem_allPlans {f : Fnd} (hf : f.chk = true) {p : List (List Int)} : p ∈ f.allPlans ↔ f.isPlan p = true ∧ ∀ i : Nat, i < f.nights.length → f.safeAt p i = true := by
  have h0 := mem_plansR (f := f) f.nights.length 0 f.zeros p
  unfold Fnd.zeros at h0
  simp only [befTo_upTo, Nat.zero_add] at h0
  have hmem : p ∈ f.allPlans ↔ p.length = f.nights.length ∧ ∀ i : Nat, i < f.nights.length → nth p i ∈ f.rowsS (spOf f (i : Int)) (upTo f.shop.pigs.length p i) := h0
  have hpg := Shop.pigsOK (Fnd.shopOK hf)
  rw [hmem]
  constructor
  · rintro ⟨h1, h2⟩
    have hbx : ∀ i : Nat, i < f.nights.length → nth p i ∈ boxS (remL f (upTo f.shop.pigs.length p i)) := fun i hi => rowsS_box (h2 i hi)
    have hB : ∀ i : Nat, i ≤ f.nights.length → BefP f (upTo f.shop.pigs.length p i) := fun i hi => befP_upTo i fun k hk => hbx k (by omega)
    refine ⟨?_, fun i hi => ?_⟩
    · simp only [Fnd.isPlan, Bool.and_eq_true, decide_eq_true_eq, allI_iff]
      refine ⟨⟨by omega, fun i hi => ?_⟩, fun i hi => ?_⟩
      · obtain ⟨g1, g2⟩ := mem_boxS.1 (hbx i (by omega))
        rw [remL_len] at g1 g2
        simp only [rowOK, Bool.and_eq_true, decide_eq_true_eq, allI_iff, fitsMany, within]
        refine ⟨by omega, fun j hj => ?_⟩
        have g3 := g2 j (by omega)
        rw [remL_nth (by omega)] at g3
        have g4 := (hB i (by omega)).pos j (by rw [(hB i (by omega)).len]; omega)
        omega
      · rw [fitsAt_iff]
        have g0 := hB (i + 1) (by omega)
        obtain ⟨g1, g2, _⟩ := (mem_rowsS (hB i (by omega))).1 (h2 i (by omega))
        obtain ⟨g3, g4⟩ := mem_boxS.1 g1
        rw [remL_len] at g3 g4
        refine ⟨fun j hj => ⟨g0.pos j (by rw [g0.len]; exact hj), ?_⟩, ?_⟩
        · have g5 := g4 j hj
          rw [remL_nth hj] at g5
          rw [upTo, nth_plus (by rw [upTo_len]; exact hj)]
          omega
        · rw [upTo, sumOf_plus (by rw [upTo_len, g3])]
          simp only [spOf, Int.toNat_natCast] at g2
          omega
    · exact ((mem_rowsS (hB i (by omega))).1 (h2 i hi)).2.2
  · rintro ⟨h1, h2⟩
    have hPB := Fnd.planB hf h1
    simp only [Fnd.isPlan, Bool.and_eq_true, decide_eq_true_eq, allI_iff] at h1
    obtain ⟨⟨h3, h4⟩, h5⟩ := h1
    refine ⟨by omega, fun i hi => ?_⟩
    have hfa := fun k (hk : k < p.length) => fitsAt_iff.1 (h5 k hk)
    have hb : BefP f (upTo f.shop.pigs.length p i) := by
      refine ⟨upTo_len _ _ _, fun j hj => ?_⟩
      rw [upTo_len] at hj
      have := upTo_bnd (by omega) hPB.2 i (by have := hPB.1; omega) j (by rw [upTo_len]; exact hj)
      exact this.1
    have g1 := hfa i (by omega)
    have g2 := hPB.2 i (by omega)
    refine (mem_rowsS hb).2 ⟨mem_boxS.2 ⟨by rw [remL_len]; exact g2.1, fun j hj => ?_⟩, ?_, h2 i hi⟩
    · rw [remL_len] at hj
      have g3 := (g1.1 j hj).2
      rw [upTo, nth_plus (by rw [upTo_len]; exact hj)] at g3
      rw [remL_nth hj]
      have := (g2.2 j (by rw [g2.1]; exact hj)).1
      omega
    · have g3 := g1.2
      rw [upTo, sumOf_plus (by rw [upTo_len, g2.1])] at g3
      simp only [spOf, Int.toNat_natCast]
      omega
/-! ### What the program says -/
theorem foldl_stepM {c : List (List Int) → Int} : ∀ (t : List (List (List Int))) (b : List (List Int)), ∃ x, (x = b ∨ x ∈ t) ∧ t.foldl (stepM c) (c b, b, true) = (c x, x, true) ∧ c x ≤ c b ∧ (∀ y ∈ t, c x ≤ c y)
  | [], b => ⟨b, .inl rfl, rfl, Int.le_refl _, fun y h => by simp at h⟩
  | y :: t, b => by
    rw [List.foldl_cons]
    by_cases h : c y < c b
    · have e : stepM c (c b, b, true) y = (c y, y, true) := by simp [stepM, h]
      rw [e]
      obtain ⟨x, h1, h2, h3, h4⟩ := foldl_stepM t y
      refine ⟨x, ?_, h2, by omega, fun z hz => ?_⟩
      · rcases h1 with rfl | h1
        · exact .inr List.mem_cons_self
        · exact .inr (List.mem_cons_of_mem _ h1)
      · rcases List.mem_cons.1 hz with rfl | hz
        · exact h3
        · exact h4 z hz
    · have e : stepM c (c b, b, true) y = (c b, b, true) := by simp [stepM, h]
      rw [e]
      obtain ⟨x, h1, h2, h3, h4⟩ := foldl_stepM t b
      refine ⟨x, ?_, h2, h3, fun z hz => ?_⟩
      · rcases h1 with rfl | h1
        · exact .inl rfl
        · exact .inr (List.mem_cons_of_mem _ h1)
      · rcases List.mem_cons.1 hz with rfl | hz
        · omega
        · exact h4 z hz
theorem fmin_spec {c : List (List Int) → Int} {L : List (List (List Int))} (h : 0 < L.length) : ∃ x ∈ L, fmin c L = (c x, x, true) ∧ ∀ y ∈ L, c x ≤ c y := by
  match L, h with
  | b :: t, _ =>
    rw [fmin_cons]
    obtain ⟨x, h1, h2, h3, h4⟩ := foldl_stepM (c := c) t b
    refine ⟨x, ?_, h2, fun y hy => ?_⟩
    · rcases h1 with rfl | h1
      · exact List.mem_cons_self
      · exact List.mem_cons_of_mem _ h1
    · rcases List.mem_cons.1 hy with rfl | hy
      · exact h3
      · exact h4 y hy
theorem least_spec {f : Fnd} (hf : f.chk = true) (g : Int → List Int → Int) : (f.allPlans = [] ∧ f.leastE g = 3) ∨ (0 < f.allPlans.length ∧ f.leastE g = 0 ∧ ∃ p ∈ f.allPlans, f.bestF g = (gcost g f.shop.pigs p, p, true) ∧ f.leastV g = gcost g f.shop.pigs p ∧ ∀ q ∈ f.allPlans, gcost g f.shop.pigs p ≤ gcost g f.shop.pigs q) := by
  have hE : f.leastE g = if f.allPlans.length = 0 then 3 else 0 := by rw [leastE_eq, Fnd.plansE, hf]; rfl
  by_cases h : f.allPlans.length = 0
  · exact .inl ⟨List.length_eq_zero_iff.1 h, by rw [hE, if_pos h]⟩
  · rw [if_neg h] at hE
    obtain ⟨p, h1, h2, h3⟩ := fmin_spec (c := gcost g f.shop.pigs) (show 0 < f.allPlans.length by omega)
    refine .inr ⟨by omega, hE, p, h1, by rw [bestF_eq hf, h2], ?_, h3⟩
    unfold Fnd.leastV
    rw [if_pos hE, bestF_eq hf, h2]
theorem leastV_small {f : Fnd} (hf : f.chk = true) {g : Int → List Int → Int} (hg : OfB g) : 0 ≤ f.leastV g ∧ f.leastV g ≤ 8000 := by
  unfold Fnd.leastV
  split
  · have h1 := bestW_bnd hg (Shop.pigsOK (Fnd.shopOK hf)) f.nights.length 0 f.pt0 (left0 f.shop.pigs) (left0_b (Shop.pigsOK (Fnd.shopOK hf)))
    have h2 := (Fnd.nightsOK hf).2
    unfold Fnd.bestF
    omega
  · omega
theorem now_small {f : Fnd} (hf : f.chk = true) : ∀ (n : Nat) (night : Int) (s : Sp) (before : List Int), BefP f before → f.now n night s before = neverC ∨ (0 ≤ f.now n night s before ∧ f.now n night s before ≤ 2000 * n)
  | 0, _, _, _, _ => .inr (by simp [Fnd.now])
  | n + 1, night, s, before, hb => by
    have hpg := Shop.pigsOK (Fnd.shopOK hf)
    have key : ∀ s : Sp, f.beh (f.now n (night + 1)) night s before = neverC ∨ (0 ≤ f.beh (f.now n (night + 1)) night s before ∧ f.beh (f.now n (night + 1)) night s before ≤ 2000 * (n + 1 : Nat)) := fun s => by
      have h0 := (beh_le (f := f) (nx := f.now n (night + 1)) (night := night) (s := s) (before := before)).1
      rcases beh_at (f := f) (nx := f.now n (night + 1)) (night := night) (s := s) (before := before) with h | ⟨r, hr, h⟩
      · exact .inl h
      · have hbx := rowsS_box hr
        have h1 := pence_pos hpg hb hbx
        rcases now_small hf n (night + 1) (nextS f night s) (plus before r) (hb.next hbx) with h2 | h2
        · rw [h2] at h; exact .inl (by omega)
        · exact .inr (by omega)
    simp only [Fnd.now]
    split
    · exact key s
    · rcases worst3_at (g := fun t a d => f.beh (f.now n (night + 1)) night ⟨t, t, a, a, d, d⟩ before) (s := s) with h | ⟨t, a, d, _, _, _, h⟩
      · rw [h]; exact .inr (by omega)
      · rw [h]; exact key _
theorem knownN_small {f : Fnd} (hf : f.chk = true) : f.knownN = neverC ∨ (0 ≤ f.knownN ∧ f.knownN ≤ 8000) := by
  have h2 := (Fnd.nightsOK hf).2
  rcases now_small hf f.nights.length 0 ⟨f.shop.tl, f.shop.th, f.shop.al, f.shop.ah, 0, 0⟩ f.zeros (bef_zeros f) with h | h
  · exact .inl h
  · exact .inr (by unfold Fnd.knownN; omega)
theorem knownC_eq {f : Fnd} (hf : f.chk = true) : (f.knownN = neverC ∧ f.wKnownE = 3 ∧ f.knownC = 1000000) ∨ (0 ≤ f.knownN ∧ f.knownN ≤ 8000 ∧ f.wKnownE = 0 ∧ f.wKnownV = f.knownN ∧ f.knownC = f.knownN) := by
  have hn : neverC = 1073741824 := rfl
  have hE : f.wKnownE = if f.knownN ≥ neverC then 3 else 0 := by rw [wKnownE_eq, Fnd.knownE, hf]; rfl
  unfold Fnd.knownC costN
  rcases knownN_small hf with h | h
  · rw [if_pos (by omega)] at hE
    exact .inl ⟨h, hE, by rw [hE]; rfl⟩
  · rw [if_neg (by omega)] at hE
    have hv : f.wKnownV = f.knownN := by rw [wKnownV_eq, Fnd.knownV, ← wKnownE_eq, if_pos hE]
    exact .inr ⟨h.1, h.2, hE, hv, by rw [hE, hv]; rfl⟩
theorem leastC_eq {f : Fnd} (hf : f.chk = true) {g : Int → List Int → Int} (hg : OfB g) : (f.allPlans = [] ∧ f.leastE g = 3 ∧ costN (f.leastV g) (f.leastE g) = 1000000) ∨ (0 < f.allPlans.length ∧ f.leastE g = 0 ∧ costN (f.leastV g) (f.leastE g) = f.leastV g ∧ 0 ≤ f.leastV g ∧ f.leastV g ≤ 8000 ∧ ∃ p ∈ f.allPlans, f.bestF g = (gcost g f.shop.pigs p, p, true) ∧ f.leastV g = gcost g f.shop.pigs p ∧ ∀ q ∈ f.allPlans, f.leastV g ≤ gcost g f.shop.pigs q) := by
  have h1 := leastV_small hf hg
  rcases least_spec hf g with ⟨h2, h3⟩ | ⟨h2, h3, p, h4, h5, h6, h7⟩
  · exact .inl ⟨h2, h3, by rw [h3]; rfl⟩
  · exact .inr ⟨h2, h3, by rw [h3]; rfl, h1.1, h1.2, p, h4, h5, h6, fun q hq => by rw [h6]; exact h7 q hq⟩
theorem costsLaw {f : Fnd} (hf : f.chk = true) : CostsLaw f := by
  have key : ∀ g, OfB g → costB (f.leastV g) (f.leastE g) = true := fun g hg => by
    rcases leastC_eq hf hg with ⟨_, h, _⟩ | ⟨_, h, _, h1, h2, _⟩
    · rw [h]; rfl
    · rw [h]; simp [costB, h1]; omega
  refine ⟨key _ costG_b, key _ onceG_b, ?_, ?_⟩
  · rcases knownC_eq hf with ⟨_, h, _⟩ | ⟨h1, h2, h, h3, _⟩
    · rw [h]; rfl
    · rw [h, h3]; simp [costB, h1]; omega
  · rw [decide_eq_decide]
    unfold Fnd.cheapC Fnd.onceC
    rcases leastC_eq hf costG_b with ⟨h1, h2, h3⟩ | ⟨h1, h2, h3, h4, h5, _⟩
    · rcases leastC_eq hf onceG_b with ⟨g1, g2, g3⟩ | ⟨g1, g2, g3, g4, g5, _⟩
      · rw [h3, g3]
      · rw [h1] at g1; simp at g1
    · rcases leastC_eq hf onceG_b with ⟨g1, g2, g3⟩ | ⟨g1, g2, g3, g4, g5, _⟩
      · rw [g1] at h1; simp at h1
      · rw [h3, g3]; omega
theorem gcost_take {g : Int → List Int → Int} {pigs : List Pig} : ∀ (p : List (List Int)) (m : Nat), (∀ r ∈ p, 0 ≤ g (sumOf Pig.pence pigs r) r) → gcost g pigs (p.take m) ≤ gcost g pigs p
  | [], m, _ => by simp
  | r :: p, 0, h => by
    have h1 := h r List.mem_cons_self
    have h2 := gcost_take p 0 (fun x hx => h x (List.mem_cons_of_mem _ hx))
    simp only [List.take_zero, gcost] at h2 ⊢
    omega
  | r :: p, m + 1, h => by
    have h2 := gcost_take p m (fun x hx => h x (List.mem_cons_of_mem _ hx))
    simp only [List.take_succ_cons, gcost]
    omega
theorem gcost_congr {g : Int → List Int → Int} {p q : List Pig} (h : ∀ r, sumOf Pig.pence p r = sumOf Pig.pence q r) : ∀ x : List (List Int), gcost g p x = gcost g q x
  | [] => rfl
  | r :: x => by rw [gcost, gcost, gcost_congr h x, h]
theorem allPlans_row {f : Fnd} (hf : f.chk = true) {p : List (List Int)} (hp : p ∈ f.allPlans) {r : List Int} (hr : r ∈ p) : r.length = f.shop.pigs.length ∧ bnd r 5 ∧ nonneg r := by
  have hB := Fnd.planB hf ((mem_allPlans hf).1 hp).1
  obtain ⟨j, hj, rfl⟩ := List.mem_iff_getElem.1 hr
  have := hB.2 j hj
  rw [nthN hj] at this
  exact ⟨this.1, this.2, fun k hk => (this.2 k hk).1⟩
theorem row_cost {f : Fnd} (hf : f.chk = true) {g : Int → List Int → Int} (hg : OfB g) {p : List (List Int)} (hp : p ∈ f.allPlans) {r : List Int} (hr : r ∈ p) : 0 ≤ g (sumOf Pig.pence f.shop.pigs r) r ∧ g (sumOf Pig.pence f.shop.pigs r) r ≤ 2000 := by
  have h1 := allPlans_row hf hp hr
  have h2 := pence_bnd (Shop.pigsOK (Fnd.shopOK hf)) h1.1 h1.2.1
  exact hg _ _ h2.1 h2.2
/-- What a better foundry costs. -/
theorem Better.least {f o : Fnd} (B : Better f o) (hf : f.chk = true) (ho : o.chk = true) {g : Int → List Int → Int} (hg : OfB g) : costN (o.leastV g) (o.leastE g) ≤ costN (f.leastV g) (f.leastE g) := by
  rcases leastC_eq hf hg with ⟨_, _, h1⟩ | ⟨_, _, h1, h2, h3, p, hp, _, h4, _⟩
  · rw [h1]
    rcases leastC_eq ho hg with ⟨_, _, g1⟩ | ⟨_, _, g1, g2, g3, _⟩
    · rw [g1]; exact Int.le_refl _
    · rw [g1]; omega
  · have hq := B.plans f.nights.length 0 o.nights.length f.zeros p (by omega) (by omega) (bef_zeros f) hp
    have hz : f.zeros = o.zeros := by unfold Fnd.zeros; rw [B.k]
    rw [hz] at hq
    have hq2 : p.take o.nights.length ∈ o.allPlans := hq
    rcases leastC_eq ho hg with ⟨g0, _, _⟩ | ⟨_, _, g1, _, _, q, _, _, _, g4⟩
    · rw [g0] at hq2; simp at hq2
    · have h5 := g4 _ hq2
      have h6 := gcost_take (g := g) (pigs := f.shop.pigs) p o.nights.length (fun r hr => (row_cost hf hg hp hr).1)
      rw [gcost_congr (fun r => B.pence r)] at h5
      rw [h1, g1]; omega
theorem Better.less {f o : Fnd} (B : Better f o) (hf : f.chk = true) (ho : o.chk = true) (ht : ∀ i : Nat, i < o.nights.length → (nth o.nights i).test = (nth f.nights i).test ∨ (nth f.nights i).test = 0) : LessLaw o f := by
  refine ⟨costsLaw ho, costsLaw hf, B.least hf ho costG_b, B.least hf ho onceG_b, ?_⟩
  have hz : f.zeros = o.zeros := by unfold Fnd.zeros; rw [B.k]
  have h1 := B.known hf ho ht f.nights.length 0 o.nights.length ⟨o.shop.tl, o.shop.th, o.shop.al, o.shop.ah, 0, 0⟩ ⟨f.shop.tl, f.shop.th, f.shop.al, f.shop.ah, 0, 0⟩ f.zeros (by omega) (by omega) (bef_zeros f) (zeros_bnd f 5 (by omega)) (by have := B.s; unfold SpIn; simp only []; omega)
  rw [show o.now o.nights.length ((0 : Nat) : Int) ⟨o.shop.tl, o.shop.th, o.shop.al, o.shop.ah, 0, 0⟩ f.zeros = o.knownN from by rw [hz]; rfl] at h1
  have h1 : o.knownN ≤ f.knownN := h1
  have hn : neverC = 1073741824 := rfl
  rcases knownC_eq hf with ⟨h2, _, h3⟩ | ⟨h2, h3, _, _, h4⟩
  · rw [h3]
    rcases knownC_eq ho with ⟨_, _, g3⟩ | ⟨_, g3, _, _, g4⟩
    · omega
    · omega
  · rw [h4]
    rcases knownC_eq ho with ⟨g2, _, g3⟩ | ⟨_, g3, _, _, g4⟩
    · omega
    · omega
end Go.Flong
