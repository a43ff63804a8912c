/- Laws of layer 13 in plain terms, part 1: pots, plans, fails. Laws of layer 13 in plain terms, part 2: what is a plan, Last. Laws of layer 13 in plain terms, part 3: Safe. -/
import Derived.Test.YtglbnodjcngefaaBase9
set_option linter.unusedSimpArgs false
set_option linter.unusedVariables false
namespace Go.Flong
open Go Go.Eng
theorem sumTo_plus {f : Pig → Int} {pigs : List Pig} {a b : List Int} : ∀ i : Nat, i ≤ a.length → sumTo f pigs (plus a b) i = sumTo f pigs a i + sumTo f pigs b i
  | 0, _ => by simp [sumTo]
  | i + 1, h => by
    simp only [sumTo]
    rw [sumTo_plus i (by omega), nth_plus (by omega), Int.add_mul]; omega
theorem sumOf_plus {f : Pig → Int} {pigs : List Pig} {a b : List Int} (h : b.length = a.length) : sumOf f pigs (plus a b) = sumOf f pigs a + sumOf f pigs b := by
  simp only [sumOf]
  rw [plus_len, sumTo_plus _ (Nat.le_refl _), h]
theorem sumTo_zero {f : Pig → Int} {pigs : List Pig} {n : Nat} : ∀ i : Nat, sumTo f pigs (List.replicate n 0) i = 0
  | 0 => rfl
  | i + 1 => by simp only [sumTo]; rw [sumTo_zero i, nth_rep]; simp
theorem sumOf_zero {f : Pig → Int} {pigs : List Pig} {n : Nat} : sumOf f pigs (List.replicate n 0) = 0 := sumTo_zero _
section
variable {f : Fnd} {plan : List (List Int)}
theorem upTo_plus (hp : PlanB f plan) {g : Pig → Int} {i : Nat} (hi : i < plan.length) : sumOf g f.shop.pigs (upTo f.shop.pigs.length plan (i + 1)) = sumOf g f.shop.pigs (upTo f.shop.pigs.length plan i) + sumOf g f.shop.pigs (nth plan i) := by
  rw [upTo, sumOf_plus (by rw [upTo_len, (hp.2 i hi).1])]
theorem addL_eq (p : Pt) (pigs : List Pig) (l : List Int) : p.addL pigs l = ⟨p.pounds + sumOf Pig.pounds pigs l, p.tl + sumOf Pig.tin pigs l, p.th + sumOf Pig.tin pigs l, p.al + sumOf Pig.ant pigs l, p.ah + sumOf Pig.ant pigs l, p.dl, p.dh⟩ := rfl
/-- The pot ahead of a night, in the document's terms. -/
theorem pre_eq (hp : PlanB f plan) : ∀ i : Nat, i ≤ plan.length → f.pre plan i = ⟨f.shop.pounds + sumOf Pig.pounds f.shop.pigs (upTo f.shop.pigs.length plan i), f.shop.tl + sumOf Pig.tin f.shop.pigs (upTo f.shop.pigs.length plan i), f.shop.th + sumOf Pig.tin f.shop.pigs (upTo f.shop.pigs.length plan i), f.shop.al + sumOf Pig.ant f.shop.pigs (upTo f.shop.pigs.length plan i), f.shop.ah + sumOf Pig.ant f.shop.pigs (upTo f.shop.pigs.length plan i), loTo f.nights i, hiTo f.nights i⟩
  | 0, _ => by simp [Fnd.pre, Fnd.pt0, upTo, sumOf_zero, loTo, hiTo]
  | i + 1, hi => by
    have h1 := fun g => upTo_plus (g := g) hp (show i < plan.length by omega)
    simp only [Fnd.pre, pre_eq hp i (by omega), addL_eq, Pt.lose, h1, loTo, hiTo, Pt.mk.injEq]
    refine ⟨?_, ?_, ?_, ?_, ?_, trivial, trivial⟩ <;> omega
theorem at_eq (hp : PlanB f plan) {i : Nat} (hi : i < plan.length) : f.at plan i = ⟨f.shop.pounds + sumOf Pig.pounds f.shop.pigs (upTo f.shop.pigs.length plan (i + 1)), f.shop.tl + sumOf Pig.tin f.shop.pigs (upTo f.shop.pigs.length plan (i + 1)), f.shop.th + sumOf Pig.tin f.shop.pigs (upTo f.shop.pigs.length plan (i + 1)), f.shop.al + sumOf Pig.ant f.shop.pigs (upTo f.shop.pigs.length plan (i + 1)), f.shop.ah + sumOf Pig.ant f.shop.pigs (upTo f.shop.pigs.length plan (i + 1)), loTo f.nights i, hiTo f.nights i⟩ := by
  have h1 := fun g => upTo_plus (g := g) hp hi
  simp only [Fnd.at, pre_eq hp i (by omega), addL_eq, h1, Pt.mk.injEq]
  refine ⟨?_, ?_, ?_, ?_, ?_, trivial, trivial⟩ <;> omega
end
theorem keeps4_iff {s : Shop} {p t a : Int} : keeps4 s p t a = true ↔ p * s.tpl ≤ 1000 * t ∧ 1000 * t ≤ p * s.tph ∧ p * s.apl ≤ 1000 * a ∧ 1000 * a ≤ p * s.aph := by
  simp only [keeps4, allI, keeps1, Bool.true_and, Bool.and_eq_true]
  simp
  constructor
  · rintro ⟨⟨⟨h1, h2⟩, h3⟩, h4⟩; exact ⟨h1, h2, h3, h4⟩
  · rintro ⟨h1, h2, h3, h4⟩; exact ⟨⟨⟨h1, h2⟩, h3⟩, h4⟩
/-- What is safe in the worst truths is safe in all. -/
theorem safe_iff {s : Shop} (h1 : 0 ≤ s.tpl ∧ s.tpl ≤ 1000) (h2 : 0 ≤ s.tph ∧ s.tph ≤ 1000) (h3 : 0 ≤ s.apl) (h4 : 0 ≤ s.aph) {P tl th al ah dl dh : Int} (ht : tl ≤ th) (ha : al ≤ ah) (hd : dl ≤ dh) :
    ((∀ j : Nat, j < (dh - dl + 1).toNat → keeps4 s (P - (dl + j)) (tl - (dl + j)) al = true ∧ keeps4 s (P - (dl + j)) (th - (dl + j)) ah = true) ↔
      ((P - dh) * s.tpl ≤ 1000 * (tl - dh) ∧ 1000 * (th - dl) ≤ (P - dl) * s.tph ∧ (P - dl) * s.apl ≤ 1000 * al ∧ 1000 * ah ≤ (P - dh) * s.aph)) := by
  constructor
  · intro h
    have a0 := h 0 (by omega)
    have a1 := h (dh - dl).toNat (by omega)
    rw [show dl + ((dh - dl).toNat : Int) = dh by omega, keeps4_iff, keeps4_iff] at a1
    rw [show dl + ((0 : Nat) : Int) = dl by omega, keeps4_iff, keeps4_iff] at a0
    exact ⟨a1.1.1, a0.2.2.1, a0.1.2.2.1, a1.2.2.2.2⟩
  · rintro ⟨b1, b2, b3, b4⟩ j hj
    rw [keeps4_iff, keeps4_iff]
    have e1 := Int.mul_nonneg (show 0 ≤ dh - (dl + j) by omega) (show 0 ≤ 1000 - s.tpl by omega)
    have e2 := Int.mul_nonneg (show 0 ≤ (dl + j) - dl by omega) (show 0 ≤ 1000 - s.tph by omega)
    have e3 := Int.mul_nonneg (show 0 ≤ (dl + j) - dl by omega) h3
    have e4 := Int.mul_nonneg (show 0 ≤ dh - (dl + j) by omega) h4
    generalize dl + (j : Int) = d at *
    simp only [Int.sub_mul, Int.mul_sub] at *
    omega
theorem shop_parts {s : Shop} (h : s.chk = true) : (0 ≤ s.tpl ∧ s.tpl ≤ 1000) ∧ (0 ≤ s.tph ∧ s.tph ≤ 1000) ∧ 0 ≤ s.apl ∧ 0 ≤ s.aph ∧ s.tl ≤ s.th ∧ s.al ≤ s.ah := by
  simp only [Shop.chk, Shop.head, isPot, isSpan, within, Bool.and_eq_true, decide_eq_true_eq] at h
  omega
theorem safeOn_iff {f : Fnd} {tl th al ah dl dh : Int} {add : List Int} : f.safeOn tl th al ah dl dh add = true ↔ ∀ j : Nat, j < (dh - dl + 1).toNat → keeps4 f.shop (f.shop.pounds + sumOf Pig.pounds f.shop.pigs add - (dl + j)) (tl + sumOf Pig.tin f.shop.pigs add - (dl + j)) (al + sumOf Pig.ant f.shop.pigs add) = true ∧ keeps4 f.shop (f.shop.pounds + sumOf Pig.pounds f.shop.pigs add - (dl + j)) (th + sumOf Pig.tin f.shop.pigs add - (dl + j)) (ah + sumOf Pig.ant f.shop.pigs add) = true := by
  simp only [Fnd.safeOn, allI_iff, Bool.and_eq_true, Fnd.keeps]
theorem sure_safe {f : Fnd} (hf : f.chk = true) {tl th al ah dl dh : Int} (ht : tl ≤ th) (ha : al ≤ ah) (hd : dl ≤ dh) {add : List Int} :
    f.sureP ⟨f.shop.pounds + sumOf Pig.pounds f.shop.pigs add, tl + sumOf Pig.tin f.shop.pigs add, th + sumOf Pig.tin f.shop.pigs add, al + sumOf Pig.ant f.shop.pigs add, ah + sumOf Pig.ant f.shop.pigs add, dl, dh⟩ = f.safeOn tl th al ah dl dh add := by
  obtain ⟨h1, h2, h3, h4, _, _⟩ := shop_parts (Fnd.shopOK hf)
  rw [Bool.eq_iff_iff, safeOn_iff, safe_iff h1 h2 h3 h4 (by omega) (by omega) hd]
  simp only [Fnd.sureP, Bool.and_eq_true, decide_eq_true_eq]
  constructor
  · rintro ⟨⟨⟨a, b⟩, c⟩, d⟩; exact ⟨a, b, c, d⟩
  · rintro ⟨a, b, c, d⟩; exact ⟨⟨⟨a, b⟩, c⟩, d⟩
section
variable {f : Fnd} {plan : List (List Int)}
theorem sureAt_eq (hf : f.chk = true) (hp : PlanB f plan) {i : Nat} (hi : i < plan.length) : f.sureP (f.at plan i) = f.safeAt plan i := by
  have h := shop_parts (Fnd.shopOK hf)
  have hl := lohi_bnd (Fnd.nightsOK hf) i (by have := hp.1; omega)
  rw [at_eq hp hi, sure_safe hf (by omega) (by omega) hl.2.1]; rfl
theorem wFailsTo_eq (hf : f.chk = true) (hp : PlanB f plan) : ∀ i : Nat, i ≤ plan.length → f.wFailsTo plan i = failsTo f plan i
  | 0, _ => rfl
  | i + 1, hi => by
    simp only [Fnd.wFailsTo, failsTo, sureAt_eq hf hp (show i < plan.length by omega), wFailsTo_eq hf hp i (by omega)]
theorem wFails_eq (hf : f.chk = true) (hp : PlanB f plan) : f.wFails plan = failsTo f plan f.nights.length := by
  rw [Fnd.wFails, ← hp.1]; exact wFailsTo_eq hf hp _ (Nat.le_refl _)
end
end Go.Flong
namespace Go.Flong
open Go Go.Eng
theorem leftTo_nth {pigs : List Pig} (hp : pigs.length ≤ 4) : ∀ (i j : Nat), i ≤ pigs.length → nth (leftTo pigs i) j = if j < i then (nth pigs j).many else 0
  | 0, j, _ => by
    rw [if_neg (by omega)]
    simp only [leftTo, nth]
    have : j = 0 ∨ j = 1 ∨ j = 2 ∨ j = 3 ∨ 4 ≤ j := by omega
    rcases this with rfl | rfl | rfl | rfl | h
    · rfl
    · rfl
    · rfl
    · rfl
    · rw [List.getD_eq_getElem?_getD, List.getElem?_eq_none (by simp; omega)]; rfl
  | i + 1, j, hi => by
    rw [leftTo, nth_lset (by rw [leftTo_len]; omega)]
    by_cases h : j = i
    · subst h; rw [if_pos rfl, if_pos (by omega)]
    · rw [if_neg h, leftTo_nth hp i j (by omega)]
      by_cases h2 : j < i
      · rw [if_pos h2, if_pos (by omega)]
      · rw [if_neg h2, if_neg (by omega)]
theorem left0_nth {pigs : List Pig} (hp : pigs.length ≤ 4) {j : Nat} (hj : j < pigs.length) : nth (left0 pigs) j = (nth pigs j).many := by
  rw [left0, leftTo_nth hp _ j (Nat.le_refl _), if_pos hj]
theorem takeTo_nth {left row : List Int} (hl : left.length = 4) : ∀ (m j : Nat), m ≤ 4 → nth (takeTo left row m) j = if j < m then nth left j - nth row j else nth left j
  | 0, j, _ => by rw [if_neg (by omega)]; rfl
  | m + 1, j, hm => by
    rw [takeTo, nth_lset (by rw [takeTo_len, hl]; omega), takeTo_nth hl m m (by omega), if_neg (Nat.lt_irrefl _)]
    by_cases h : j = m
    · subst h; rw [if_pos rfl, if_pos (by omega)]
    · rw [if_neg h, takeTo_nth hl m j (by omega)]
      by_cases h2 : j < m
      · rw [if_pos h2, if_pos (by omega)]
      · rw [if_neg h2, if_neg (by omega)]
theorem takeL_nth {left row : List Int} (hl : left.length = 4) (hr : row.length ≤ 4) {j : Nat} (hj : j < row.length) : nth (takeL left row) j = nth left j - nth row j := by
  rw [takeL, takeTo_nth hl _ _ hr, if_pos hj]
section
variable {f : Fnd} {plan : List (List Int)}
/-- What is left: all pigs without those that were added. -/
theorem leftAt_nth (hp4 : f.shop.pigs.length ≤ 4) : ∀ i : Nat, (∀ k : Nat, k < i → (nth plan k).length = f.shop.pigs.length) → ∀ j : Nat, j < f.shop.pigs.length → nth (leftAt f.shop.pigs plan i) j = (nth f.shop.pigs j).many - nth (upTo f.shop.pigs.length plan i) j
  | 0, _, j, hj => by simp only [leftAt, upTo]; rw [left0_nth hp4 hj, nth_rep]; omega
  | i + 1, h, j, hj => by
    have hr := h i (by omega)
    simp only [leftAt, upTo]
    rw [takeL_nth (leftAt_len _ _ _) (by omega) (by omega), leftAt_nth hp4 i (fun k hk => h k (by omega)) j hj, nth_plus (by rw [upTo_len]; exact hj)]
    omega
theorem rowW_iff (hp4 : f.shop.pigs.length ≤ 4) {i : Nat} (h : ∀ k : Nat, k < i → (nth plan k).length = f.shop.pigs.length) : f.rowW plan i = true ↔ (nth plan i).length = f.shop.pigs.length ∧ ∀ j : Nat, j < f.shop.pigs.length → 0 ≤ nth (nth plan i) j ∧ nth (upTo f.shop.pigs.length plan (i + 1)) j ≤ (nth f.shop.pigs j).many := by
  simp only [Fnd.rowW, Bool.and_eq_true, decide_eq_true_eq, allI_iff, rowFits, within]
  constructor
  · rintro ⟨h1, h2⟩
    refine ⟨by omega, fun j hj => ?_⟩
    have h3 := h2 j (by omega)
    rw [takeTo_other _ _ (leftAt_len _ _ _) j j (Nat.le_refl _) (by omega), leftAt_nth hp4 i h j hj] at h3
    rw [upTo, nth_plus (by rw [upTo_len]; exact hj)]
    omega
  · rintro ⟨h1, h2⟩
    refine ⟨by omega, fun j hj => ?_⟩
    have h3 := h2 j (by omega)
    rw [takeTo_other _ _ (leftAt_len _ _ _) j j (Nat.le_refl _) (by omega), leftAt_nth hp4 i h j (by omega)]
    rw [upTo, nth_plus (by rw [upTo_len]; omega)] at h3
    omega
theorem fitsAt_iff {i : Nat} : f.fitsAt plan i = true ↔ (∀ j : Nat, j < f.shop.pigs.length → 0 ≤ nth (upTo f.shop.pigs.length plan (i + 1)) j ∧ nth (upTo f.shop.pigs.length plan (i + 1)) j ≤ (nth f.shop.pigs j).many) ∧ f.shop.pounds - loTo f.nights i + sumOf Pig.pounds f.shop.pigs (upTo f.shop.pigs.length plan (i + 1)) ≤ f.shop.room := by
  simp only [Fnd.fitsAt, isAdd, Bool.and_eq_true, decide_eq_true_eq, allI_iff, fitsMany, within, upTo_len]
  constructor
  · rintro ⟨⟨_, h1⟩, h2⟩; exact ⟨h1, h2⟩
  · rintro ⟨h1, h2⟩; exact ⟨⟨rfl, h1⟩, h2⟩
/-- What the program takes for a plan is what the document does. -/
theorem wPlan_eq (hf : f.chk = true) : f.wPlan plan = f.isPlan plan := by
  have hpg := Shop.pigsOK (Fnd.shopOK hf)
  have hp4 := hpg.2
  rw [Bool.eq_iff_iff]
  constructor
  · intro h
    have hB := wPlanB hf h
    simp only [Fnd.wPlan, Bool.and_eq_true, decide_eq_true_eq, allI_iff] at h
    obtain ⟨⟨h1, h2⟩, h3⟩ := h
    have hlen := fun (k : Nat) (hk : k < plan.length) => (hB.2 k hk).1
    have hrow := fun (i : Nat) (hi : i < plan.length) => (rowW_iff (f := f) (plan := plan) hp4 (i := i) (fun k hk => hlen k (by omega))).1 (h2 i hi)
    have hpos : ∀ i : Nat, i ≤ plan.length → ∀ j : Nat, j < f.shop.pigs.length → 0 ≤ nth (upTo f.shop.pigs.length plan i) j := by
      intro i
      induction i with
      | zero => intro _ j _; simp only [upTo]; rw [nth_rep]; omega
      | succ i ih =>
        intro hi j hj
        have := ih (by omega) j hj
        have h5 := (hrow i (by omega)).2 j hj
        rw [upTo, nth_plus (by rw [upTo_len]; exact hj)]; omega
    simp only [Fnd.isPlan, Bool.and_eq_true, decide_eq_true_eq, allI_iff]
    refine ⟨⟨h1, fun i hi => ?_⟩, fun i hi => ?_⟩
    · simp only [rowOK, Bool.and_eq_true, decide_eq_true_eq, allI_iff, fitsMany, within]
      refine ⟨by have := hlen i hi; omega, fun j hj => ?_⟩
      have hj' : j < f.shop.pigs.length := by have := hlen i hi; omega
      have h5 := (hrow i hi).2 j hj'
      have h6 := hpos i (by omega) j hj'
      rw [upTo, nth_plus (by rw [upTo_len]; exact hj')] at h5
      omega
    · rw [fitsAt_iff]
      refine ⟨fun j hj => ⟨hpos (i + 1) (by omega) j hj, ((hrow i hi).2 j hj).2⟩, ?_⟩
      have h5 := h3 i (by have := hB.1; omega)
      rw [at_eq hB hi] at h5
      simp only [Fnd.fitsP, decide_eq_true_eq] at h5
      omega
  · intro h
    have hB := Fnd.planB hf h
    simp only [Fnd.isPlan, Bool.and_eq_true, decide_eq_true_eq, allI_iff] at h
    obtain ⟨⟨h1, h2⟩, h3⟩ := h
    have hlen := fun (k : Nat) (hk : k < plan.length) => (hB.2 k hk).1
    simp only [Fnd.wPlan, Bool.and_eq_true, decide_eq_true_eq, allI_iff]
    refine ⟨⟨h1, fun i hi => ?_⟩, fun i hi => ?_⟩
    · refine (rowW_iff hp4 (fun k hk => hlen k (by omega))).2 ⟨hlen i hi, fun j hj => ⟨?_, ((fitsAt_iff.1 (h3 i hi)).1 j hj).2⟩⟩
      exact ((hB.2 i hi).2 j (by rw [hlen i hi]; exact hj)).1
    · have hi' : i < plan.length := by have := hB.1; omega
      have h5 := (fitsAt_iff.1 (h3 i hi')).2
      rw [at_eq hB hi']
      simp only [Fnd.fitsP, decide_eq_true_eq]
      omega
theorem wOpen_eq : f.wOpen (f.wPlan plan) = f.openE plan := by
  unfold Fnd.wOpen Fnd.openE
  cases hf : f.chk with
  | false => rfl
  | true => rw [wPlan_eq hf]
theorem open_zero (h : f.openE plan = 0) : f.chk = true ∧ PlanB f plan := by
  have h1 := Fnd.openE_eq h
  exact ⟨h1.1, Fnd.planB h1.1 h1.2⟩
theorem wFailsV_eq : f.wFailsV plan = f.failsR plan := by
  unfold Fnd.wFailsV Fnd.failsR
  rw [wOpen_eq]
  split
  · rename_i h
    have := open_zero h
    exact wFails_eq this.1 this.2
  · rfl
theorem wPotE_eq {night : Int} : f.wPotE plan night = f.potE plan night := by
  unfold Fnd.wPotE Fnd.potE Fnd.isPotW Fnd.wOpen
  have h := wOpen_eq (f := f) (plan := plan)
  unfold Fnd.wOpen at h
  cases hf : f.chk with
  | false => rw [hf] at h; rw [← h]; simp
  | true =>
    rw [hf] at h
    rw [← h]
    cases f.wPlan plan <;> simp
theorem wPotV_eq {night : Int} : f.wPotV plan night = f.potV plan night := by
  unfold Fnd.wPotV Fnd.potV
  rw [wPotE_eq]
  split
  · rename_i h
    have h0 : f.openE plan = 0 := by
      unfold Fnd.potE at h
      split at h
      · exact h
      · rename_i h2; omega
    have h1 : within night 0 ((f.nights.length : Int) - 1) = true := by
      unfold Fnd.potE at h
      rw [if_neg (by omega)] at h
      split at h
      · assumption
      · omega
    simp only [within, Bool.and_eq_true, decide_eq_true_eq] at h1
    obtain ⟨hf, hp⟩ := open_zero h0
    have hn : night.toNat < plan.length := by have := hp.1; omega
    unfold Fnd.wPotL Fnd.potL
    rw [at_eq hp hn, show (night + 1).toNat = night.toNat + 1 by omega]
  · rfl
end

/-! ### Last -/
theorem minTo1_le (l : List Int) : ∀ (n j : Nat), j ≤ n → minTo1 l n ≤ nth l j
  | 0, j, hj => by rw [show j = 0 by omega]; exact Int.le_refl _
  | n + 1, j, hj => by
    by_cases h : j = n + 1
    · subst h; simp only [minTo1]; omega
    · have := minTo1_le l n j (by omega)
      simp only [minTo1]; omega
theorem minTo1_at (l : List Int) : ∀ n : Nat, ∃ j : Nat, j ≤ n ∧ minTo1 l n = nth l j
  | 0 => ⟨0, Nat.le_refl _, rfl⟩
  | n + 1 => by
    obtain ⟨j, h1, h2⟩ := minTo1_at l n
    by_cases h : minTo1 l n ≤ nth l ((n + 1 : Nat) : Int)
    · exact ⟨j, by omega, by simp only [minTo1]; omega⟩
    · exact ⟨n + 1, Nat.le_refl _, by simp only [minTo1]; omega⟩
theorem minL1_spec {l : List Int} (h : 0 < l.length) : minL1 l ∈ l ∧ ∀ x ∈ l, minL1 l ≤ x := by
  constructor
  · obtain ⟨j, h1, h2⟩ := minTo1_at l (l.length - 1)
    rw [minL1, h2, nthN (show j < l.length by omega)]
    exact List.getElem_mem _
  · intro x hx
    obtain ⟨j, hj, rfl⟩ := List.mem_iff_getElem.1 hx
    rw [← nthN hj]
    exact minTo1_le l _ j (by omega)
theorem mem_failsTo {f : Fnd} {plan : List (List Int)} {x : Int} : ∀ n : Nat, x ∈ failsTo f plan n ↔ ∃ i : Nat, i < n ∧ x = i ∧ f.safeAt plan i = false
  | 0 => by simp [failsTo]
  | n + 1 => by
    simp only [failsTo]
    split
    · rename_i h
      rw [mem_failsTo n]
      constructor
      · rintro ⟨i, h1, h2, h3⟩; exact ⟨i, by omega, h2, h3⟩
      · rintro ⟨i, h1, h2, h3⟩
        refine ⟨i, ?_, h2, h3⟩
        by_cases e : i = n
        · subst e; rw [h3] at h; cases h
        · omega
    · rename_i h
      rw [List.mem_append, mem_failsTo n, List.mem_singleton]
      constructor
      · rintro (⟨i, h1, h2, h3⟩ | h1)
        · exact ⟨i, by omega, h2, h3⟩
        · exact ⟨n, by omega, h1, by simpa using h⟩
      · rintro ⟨i, h1, h2, h3⟩
        by_cases e : i = n
        · subst e; exact .inr h2
        · exact .inl ⟨i, by omega, h2, h3⟩
theorem upTo_nothing {f : Fnd} : ∀ i : Nat, i ≤ f.nights.length → upTo f.shop.pigs.length f.nothing i = List.replicate f.shop.pigs.length 0
  | 0, _ => rfl
  | i + 1, hi => by
    rw [upTo, upTo_nothing i (by omega)]
    have e : nth f.nothing (i : Int) = List.replicate f.shop.pigs.length 0 := by
      rw [Fnd.nothing, nth_replicate (by omega) (by omega)]
    rw [e]
    apply List.ext_getElem
    · rw [plus_len]
    · intro j h1 h2
      have h1' : j < (List.replicate f.shop.pigs.length (0 : Int)).length := h2
      rw [← nthN h1, ← nthN h2, nth_plus h1', nth_rep]; rfl
theorem safe_calm {f : Fnd} {i : Nat} (hi : i < f.nights.length) : f.safeAt f.nothing i = f.calmAt i := by
  rw [Fnd.safeAt, upTo_nothing _ (by omega)]; rfl
theorem wLastV_eq {f : Fnd} : f.wLastV = f.lastN := by
  unfold Fnd.wLastV Fnd.lastN
  cases hf : f.chk with
  | false => rfl
  | true =>
    simp only [if_true]
    unfold Fnd.wLast
    rw [wFails_eq hf (nothingB f)]
    obtain ⟨h1, h2⟩ := minL1_spec (l := failsTo f f.nothing f.nights.length ++ [(f.nights.length : Int)]) (by simp)
    generalize minL1 (failsTo f f.nothing f.nights.length ++ [(f.nights.length : Int)]) = m at *
    have hm : ∃ i : Nat, m = i ∧ i ≤ f.nights.length ∧ (i = f.nights.length ∨ f.calmAt i = false) := by
      rcases List.mem_append.1 h1 with h | h
      · obtain ⟨i, g1, g2, g3⟩ := (mem_failsTo _).1 h
        exact ⟨i, g2, by omega, .inr (by rw [← safe_calm g1]; exact g3)⟩
      · exact ⟨f.nights.length, by simpa using h, Nat.le_refl _, .inl rfl⟩
    obtain ⟨i, rfl, hi, hc⟩ := hm
    rw [Fnd.lastTo_all hi (allI_iff.2 fun j hj => ?_) hc]
    cases hcj : f.calmAt j with
    | true => rfl
    | false =>
      have := h2 j (List.mem_append_left _ ((mem_failsTo _).2 ⟨j, by omega, rfl, by rw [safe_calm (by omega)]; exact hcj⟩))
      omega
end Go.Flong
namespace Go.Flong
open Go Go.Eng
theorem cutLK_spec {hi n low : Int} : ∀ (k : Nat) (x : Int), hi - x + 1 ≤ k → ∀ t, (cutLK hi n low k x ≤ t ∧ t ≤ hi) ↔ (x ≤ t ∧ t ≤ hi ∧ low ≤ 1000 * (t + n))
  | 0, x, hk, t => by simp only [cutLK]; omega
  | k + 1, x, hk, t => by
    simp only [cutLK]
    split
    · have := cutLK_spec (hi := hi) (n := n) (low := low) k (x + 1) (by omega) t
      rw [this]; omega
    · omega
theorem cutL_spec {lo hi n low : Int} (t : Int) : (cutL lo hi n low ≤ t ∧ t ≤ hi) ↔ (lo ≤ t ∧ t ≤ hi ∧ low ≤ 1000 * (t + n)) := cutLK_spec _ _ (by omega) t
theorem cutHK_spec {lo n high : Int} : ∀ (k : Nat) (x : Int), x - lo + 1 ≤ k → ∀ t, (lo ≤ t ∧ t ≤ cutHK lo n high k x) ↔ (lo ≤ t ∧ t ≤ x ∧ 1000 * (t + n) ≤ high)
  | 0, x, hk, t => by simp only [cutHK]; omega
  | k + 1, x, hk, t => by
    simp only [cutHK]
    split
    · have := cutHK_spec (lo := lo) (n := n) (high := high) k (x - 1) (by omega) t
      rw [this]; omega
    · omega
theorem cut_spec {lo hi n low high : Int} (t : Int) : (cutL lo hi n low ≤ t ∧ t ≤ cutH (cutL lo hi n low) hi n high) ↔ (lo ≤ t ∧ t ≤ hi ∧ low ≤ 1000 * (t + n) ∧ 1000 * (t + n) ≤ high) := by
  have h1 := cutHK_spec (lo := cutL lo hi n low) (n := n) (high := high) (hi - cutL lo hi n low + 1).toNat hi (by omega) t
  have h2 := cutL_spec (lo := lo) (hi := hi) (n := n) (low := low) t
  have h3 : cutH (cutL lo hi n low) hi n high = cutHK (cutL lo hi n low) n high (hi - cutL lo hi n low + 1).toNat hi := rfl
  rw [h3, h1]
  constructor
  · rintro ⟨a, b, c⟩
    have := h2.1 ⟨a, b⟩
    exact ⟨this.1, this.2.1, this.2.2, c⟩
  · rintro ⟨a, b, c, d⟩
    have := h2.2 ⟨a, b, c⟩
    exact ⟨this.1, b, d⟩
theorem not_allI_iff {p : Nat → Bool} {n : Nat} : (!allI p n) = true ↔ ∃ i : Nat, i < n ∧ p i = false := by
  rw [Bool.not_eq_true']
  constructor
  · intro h
    cases hx : decide (∃ i : Nat, i < n ∧ p i = false) with
    | true => exact of_decide_eq_true hx
    | false =>
      have hx := of_decide_eq_false hx
      have : allI p n = true := allI_iff.2 fun j hj => by
        cases hp : p j with
        | true => rfl
        | false => exact absurd ⟨j, hj, hp⟩ hx
      rw [this] at h; cases h
  · rintro ⟨i, hi, hp⟩; exact not_allI hi hp
/-- What was added and lost ahead of a night. -/
def goneAt (f : Fnd) (plan : List (List Int)) (night : Nat) (d : Int) : Pt :=
  ⟨f.shop.pounds + sumOf Pig.pounds f.shop.pigs (upTo f.shop.pigs.length plan night) - d, sumOf Pig.tin f.shop.pigs (upTo f.shop.pigs.length plan night) - d, sumOf Pig.tin f.shop.pigs (upTo f.shop.pigs.length plan night) - d, sumOf Pig.ant f.shop.pigs (upTo f.shop.pigs.length plan night), sumOf Pig.ant f.shop.pigs (upTo f.shop.pigs.length plan night), 0, 0⟩
theorem goneAt_add {f : Fnd} {plan : List (List Int)} (hp : PlanB f plan) {night : Nat} (hn : night < plan.length) (d : Int) : (goneAt f plan night d).addL f.shop.pigs (nth plan (night : Int)) = goneAt f plan (night + 1) d := by
  have h1 := fun g => upTo_plus (g := g) hp hn
  simp only [goneAt, addL_eq, h1]
  congr 1 <;> omega
theorem goneAt_drop {f : Fnd} {plan : List (List Int)} {night : Nat} {d x : Int} : (goneAt f plan night d).drop x = goneAt f plan night (d + x) := by
  simp only [goneAt, Pt.drop]
  congr 1 <;> omega
theorem canP_iff {f : Fnd} {plan : List (List Int)} (hp : PlanB f plan) : ∀ (n night : Nat) (tl th al ah d : Int), night + n = f.nights.length →
    (f.canP plan n night tl th al ah (goneAt f plan night d) = true ↔ ∃ t a : Int, tl ≤ t ∧ t ≤ th ∧ al ≤ a ∧ a ≤ ah ∧ f.holds plan t a n d = true)
  | 0, night, tl, th, al, ah, d, hn => by
    simp only [Fnd.canP, Fnd.holds, and_true]
    constructor
    · intro h
      simp at h
      exact ⟨tl, al, by omega, by omega, by omega, by omega⟩
    · rintro ⟨t, a, h1, h2, h3, h4⟩
      simp; omega
  | n + 1, night, tl, th, al, ah, d, hn => by
    have hl := hp.1
    have hg : f.gone1 plan (night : Int) (goneAt f plan night d) = goneAt f plan (night + 1) d := goneAt_add hp (by omega) d
    have e1 : f.nights.length - n = night + 1 := by omega
    have e2 : f.nights.length - (n + 1) = night := by omega
    have key : ∀ t a : Int, (f.keeps t a d (upTo f.shop.pigs.length plan (night + 1)) = true) ↔ ((goneAt f plan (night + 1) d).pounds * f.shop.tpl ≤ 1000 * (t + (goneAt f plan (night + 1) d).tl) ∧ 1000 * (t + (goneAt f plan (night + 1) d).tl) ≤ (goneAt f plan (night + 1) d).pounds * f.shop.tph ∧ (goneAt f plan (night + 1) d).pounds * f.shop.apl ≤ 1000 * (a + (goneAt f plan (night + 1) d).al) ∧ 1000 * (a + (goneAt f plan (night + 1) d).al) ≤ (goneAt f plan (night + 1) d).pounds * f.shop.aph) := by
      intro t a
      rw [Fnd.keeps, keeps4_iff]
      have e : t + (sumOf Pig.tin f.shop.pigs (upTo f.shop.pigs.length plan (night + 1)) - d) = t + sumOf Pig.tin f.shop.pigs (upTo f.shop.pigs.length plan (night + 1)) - d := by omega
      simp only [goneAt, e]
    simp only [Fnd.canP, Fnd.holds, hg, e1, e2, Bool.and_eq_true, not_allI_iff, Bool.not_eq_false']
    have ih := fun (t1 t2 a1 a2 x : Int) => canP_iff hp n (night + 1) t1 t2 a1 a2 (d + x) (by omega)
    have e3 : ((night : Int) + 1) = ((night + 1 : Nat) : Int) := by omega
    simp only [goneAt_drop, e3, ih]
    constructor
    · rintro ⟨_, i, hi, t, a, h1, h2, h3, h4, h5⟩
      have c1 := (cut_spec t).1 ⟨h1, h2⟩
      have c2 := (cut_spec a).1 ⟨h3, h4⟩
      refine ⟨t, a, c1.1, c1.2.1, c2.1, c2.2.1, (key t a).2 ⟨c1.2.2.1, c1.2.2.2, c2.2.2.1, c2.2.2.2⟩, i, hi, ?_⟩
      rw [Int.add_assoc]; exact h5
    · rintro ⟨t, a, h1, h2, h3, h4, h5, i, hi, h6⟩
      obtain ⟨k1, k2, k3, k4⟩ := (key t a).1 h5
      refine ⟨by simp; omega, i, hi, t, a, ((cut_spec t).2 ⟨h1, h2, k1, k2⟩).1, ((cut_spec t).2 ⟨h1, h2, k1, k2⟩).2, ((cut_spec a).2 ⟨h3, h4, k3, k4⟩).1, ((cut_spec a).2 ⟨h3, h4, k3, k4⟩).2, ?_⟩
      rw [Int.add_assoc] at h6; exact h6
theorem wCan_iff {f : Fnd} {plan : List (List Int)} (hp : PlanB f plan) : f.wCan plan = true ↔ ∃ t a : Int, f.shop.tl ≤ t ∧ t ≤ f.shop.th ∧ f.shop.al ≤ a ∧ a ≤ f.shop.ah ∧ f.holds plan t a f.nights.length 0 = true := by
  have h := canP_iff hp f.nights.length 0 f.shop.tl f.shop.th f.shop.al f.shop.ah 0 (by omega)
  have e : goneAt f plan 0 0 = ⟨f.shop.pounds, 0, 0, 0, 0, 0, 0⟩ := by simp [goneAt, upTo, sumOf_zero]
  rw [e] at h
  exact h
theorem wCan_eq {f : Fnd} {plan : List (List Int)} (hp : PlanB f plan) : f.wCan plan = !allI (f.noneAt plan) (f.shop.th - f.shop.tl + 1).toNat := by
  rw [Bool.eq_iff_iff, wCan_iff hp, not_allI_iff]
  constructor
  · rintro ⟨t, a, h1, h2, h3, h4, h5⟩
    refine ⟨(t - f.shop.tl).toNat, by omega, ?_⟩
    unfold Fnd.noneAt
    refine not_allI (show (a - f.shop.al).toNat < _ by omega) ?_
    rw [show f.shop.tl + ((t - f.shop.tl).toNat : Int) = t by omega, show f.shop.al + ((a - f.shop.al).toNat : Int) = a by omega, h5]; rfl
  · rintro ⟨i, hi, h⟩
    have := not_allI_iff.1 (show (!allI _ _) = true by rw [Bool.not_eq_true']; exact h)
    obtain ⟨j, hj, h2⟩ := this
    exact ⟨f.shop.tl + i, f.shop.al + j, by omega, by omega, by omega, by omega, by simpa using h2⟩
theorem wSafeV_eq {f : Fnd} {plan : List (List Int)} : f.wSafeV plan = f.safeK plan := by
  unfold Fnd.wSafeV Fnd.safeK
  rw [wOpen_eq]
  by_cases h : f.openE plan = 0
  · obtain ⟨hf, hp⟩ := open_zero h
    rw [if_pos h, wFails_eq hf hp, wCan_eq hp, if_neg (show ¬ f.openE plan ≠ 0 from fun g => g h)]
    split
    · rfl
    · cases allI (f.noneAt plan) (f.shop.th - f.shop.tl + 1).toNat <;> rfl
  · rw [if_neg h, if_pos (by simpa using h)]
/-- Check, Pot, Safe, Fails and Last are as the document says. -/
theorem potLaw (f : Fnd) (plan : List (List Int)) (night : Int) : PotLaw f plan night := ⟨wPotV_eq, wPotE_eq, wSafeV_eq, wOpen_eq, wFailsV_eq, wLastV_eq⟩
end Go.Flong
