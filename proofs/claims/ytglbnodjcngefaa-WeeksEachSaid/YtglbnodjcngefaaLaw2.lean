/- Laws of layer 13 in plain terms, part 2: what is a plan, Last. -/
import Derived.Test.YtglbnodjcngefaaLaw1
set_option linter.unusedSimpArgs false
set_option linter.unusedVariables false
namespace Go.Flong
open Go Go.Eng
theorem leftTo_nth {pigs : List Pig} (hp : pigs.length ≤ 4) : ∀ (i j : Nat), i ≤ pigs.length → nth (leftTo pigs i) j = if j < i then (nth pigs j).many else 0
  | 0, j, _ => by
    rw [if_neg (by omega)]
    simp only [leftTo, nth]
    have : j = 0 ∨ j = 1 ∨ j = 2 ∨ j = 3 ∨ 4 ≤ j := by omega
    rcases this with rfl | rfl | rfl | rfl | h
    · rfl
    · rfl
    · rfl
    · rfl
    · rw [List.getD_eq_getElem?_getD, List.getElem?_eq_none (by simp; omega)]; rfl
  | i + 1, j, hi => by
    rw [leftTo, nth_lset (by rw [leftTo_len]; omega)]
    by_cases h : j = i
    · subst h; rw [if_pos rfl, if_pos (by omega)]
    · rw [if_neg h, leftTo_nth hp i j (by omega)]
      by_cases h2 : j < i
      · rw [if_pos h2, if_pos (by omega)]
      · rw [if_neg h2, if_neg (by omega)]
theorem left0_nth {pigs : List Pig} (hp : pigs.length ≤ 4) {j : Nat} (hj : j < pigs.length) : nth (left0 pigs) j = (nth pigs j).many := by
  rw [left0, leftTo_nth hp _ j (Nat.le_refl _), if_pos hj]
theorem takeTo_nth {left row : List Int} (hl : left.length = 4) : ∀ (m j : Nat), m ≤ 4 → nth (takeTo left row m) j = if j < m then nth left j - nth row j else nth left j
  | 0, j, _ => by rw [if_neg (by omega)]; rfl
  | m + 1, j, hm => by
    rw [takeTo, nth_lset (by rw [takeTo_len, hl]; omega), takeTo_nth hl m m (by omega), if_neg (Nat.lt_irrefl _)]
    by_cases h : j = m
    · subst h; rw [if_pos rfl, if_pos (by omega)]
    · rw [if_neg h, takeTo_nth hl m j (by omega)]
      by_cases h2 : j < m
      · rw [if_pos h2, if_pos (by omega)]
      · rw [if_neg h2, if_neg (by omega)]
theorem takeL_nth {left row : List Int} (hl : left.length = 4) (hr : row.length ≤ 4) {j : Nat} (hj : j < row.length) : nth (takeL left row) j = nth left j - nth row j := by
  rw [takeL, takeTo_nth hl _ _ hr, if_pos hj]
section
variable {f : Fnd} {plan : List (List Int)}
/-- What is left: all pigs without those that were added. -/
theorem leftAt_nth (hp4 : f.shop.pigs.length ≤ 4) : ∀ i : Nat, (∀ k : Nat, k < i → (nth plan k).length = f.shop.pigs.length) → ∀ j : Nat, j < f.shop.pigs.length → nth (leftAt f.shop.pigs plan i) j = (nth f.shop.pigs j).many - nth (upTo f.shop.pigs.length plan i) j
  | 0, _, j, hj => by simp only [leftAt, upTo]; rw [left0_nth hp4 hj, nth_rep]; omega
  | i + 1, h, j, hj => by
    have hr := h i (by omega)
    simp only [leftAt, upTo]
    rw [takeL_nth (leftAt_len _ _ _) (by omega) (by omega), leftAt_nth hp4 i (fun k hk => h k (by omega)) j hj, nth_plus (by rw [upTo_len]; exact hj)]
    omega
theorem rowW_iff (hp4 : f.shop.pigs.length ≤ 4) {i : Nat} (h : ∀ k : Nat, k < i → (nth plan k).length = f.shop.pigs.length) : f.rowW plan i = true ↔ (nth plan i).length = f.shop.pigs.length ∧ ∀ j : Nat, j < f.shop.pigs.length → 0 ≤ nth (nth plan i) j ∧ nth (upTo f.shop.pigs.length plan (i + 1)) j ≤ (nth f.shop.pigs j).many := by
  simp only [Fnd.rowW, Bool.and_eq_true, decide_eq_true_eq, allI_iff, rowFits, within]
  constructor
  · rintro ⟨h1, h2⟩
    refine ⟨by omega, fun j hj => ?_⟩
    have h3 := h2 j (by omega)
    rw [takeTo_other _ _ (leftAt_len _ _ _) j j (Nat.le_refl _) (by omega), leftAt_nth hp4 i h j hj] at h3
    rw [upTo, nth_plus (by rw [upTo_len]; exact hj)]
    omega
  · rintro ⟨h1, h2⟩
    refine ⟨by omega, fun j hj => ?_⟩
    have h3 := h2 j (by omega)
    rw [takeTo_other _ _ (leftAt_len _ _ _) j j (Nat.le_refl _) (by omega), leftAt_nth hp4 i h j (by omega)]
    rw [upTo, nth_plus (by rw [upTo_len]; omega)] at h3
    omega
theorem fitsAt_iff {i : Nat} : f.fitsAt plan i = true ↔ (∀ j : Nat, j < f.shop.pigs.length → 0 ≤ nth (upTo f.shop.pigs.length plan (i + 1)) j ∧ nth (upTo f.shop.pigs.length plan (i + 1)) j ≤ (nth f.shop.pigs j).many) ∧ f.shop.pounds - loTo f.nights i + sumOf Pig.pounds f.shop.pigs (upTo f.shop.pigs.length plan (i + 1)) ≤ f.shop.room := by
  simp only [Fnd.fitsAt, isAdd, Bool.and_eq_true, decide_eq_true_eq, allI_iff, fitsMany, within, upTo_len]
  constructor
  · rintro ⟨⟨_, h1⟩, h2⟩; exact ⟨h1, h2⟩
  · rintro ⟨h1, h2⟩; exact ⟨⟨rfl, h1⟩, h2⟩
/-- What the program takes for a plan is what the document does. -/
theorem wPlan_eq (hf : f.chk = true) : f.wPlan plan = f.isPlan plan := by
  have hpg := Shop.pigsOK (Fnd.shopOK hf)
  have hp4 := hpg.2
  rw [Bool.eq_iff_iff]
  constructor
  · intro h
    have hB := wPlanB hf h
    simp only [Fnd.wPlan, Bool.and_eq_true, decide_eq_true_eq, allI_iff] at h
    obtain ⟨⟨h1, h2⟩, h3⟩ := h
    have hlen := fun (k : Nat) (hk : k < plan.length) => (hB.2 k hk).1
    have hrow := fun (i : Nat) (hi : i < plan.length) => (rowW_iff (f := f) (plan := plan) hp4 (i := i) (fun k hk => hlen k (by omega))).1 (h2 i hi)
    have hpos : ∀ i : Nat, i ≤ plan.length → ∀ j : Nat, j < f.shop.pigs.length → 0 ≤ nth (upTo f.shop.pigs.length plan i) j := by
      intro i
      induction i with
      | zero => intro _ j _; simp only [upTo]; rw [nth_rep]; omega
      | succ i ih =>
        intro hi j hj
        have := ih (by omega) j hj
        have h5 := (hrow i (by omega)).2 j hj
        rw [upTo, nth_plus (by rw [upTo_len]; exact hj)]; omega
    simp only [Fnd.isPlan, Bool.and_eq_true, decide_eq_true_eq, allI_iff]
    refine ⟨⟨h1, fun i hi => ?_⟩, fun i hi => ?_⟩
    · simp only [rowOK, Bool.and_eq_true, decide_eq_true_eq, allI_iff, fitsMany, within]
      refine ⟨by have := hlen i hi; omega, fun j hj => ?_⟩
      have hj' : j < f.shop.pigs.length := by have := hlen i hi; omega
      have h5 := (hrow i hi).2 j hj'
      have h6 := hpos i (by omega) j hj'
      rw [upTo, nth_plus (by rw [upTo_len]; exact hj')] at h5
      omega
    · rw [fitsAt_iff]
      refine ⟨fun j hj => ⟨hpos (i + 1) (by omega) j hj, ((hrow i hi).2 j hj).2⟩, ?_⟩
      have h5 := h3 i (by have := hB.1; omega)
      rw [at_eq hB hi] at h5
      simp only [Fnd.fitsP, decide_eq_true_eq] at h5
      omega
  · intro h
    have hB := Fnd.planB hf h
    simp only [Fnd.isPlan, Bool.and_eq_true, decide_eq_true_eq, allI_iff] at h
    obtain ⟨⟨h1, h2⟩, h3⟩ := h
    have hlen := fun (k : Nat) (hk : k < plan.length) => (hB.2 k hk).1
    simp only [Fnd.wPlan, Bool.and_eq_true, decide_eq_true_eq, allI_iff]
    refine ⟨⟨h1, fun i hi => ?_⟩, fun i hi => ?_⟩
    · refine (rowW_iff hp4 (fun k hk => hlen k (by omega))).2 ⟨hlen i hi, fun j hj => ⟨?_, ((fitsAt_iff.1 (h3 i hi)).1 j hj).2⟩⟩
      exact ((hB.2 i hi).2 j (by rw [hlen i hi]; exact hj)).1
    · have hi' : i < plan.length := by have := hB.1; omega
      have h5 := (fitsAt_iff.1 (h3 i hi')).2
      rw [at_eq hB hi']
      simp only [Fnd.fitsP, decide_eq_true_eq]
      omega
theorem wOpen_eq : f.wOpen (f.wPlan plan) = f.openE plan := by
  unfold Fnd.wOpen Fnd.openE
  cases hf : f.chk with
  | false => rfl
  | true => rw [wPlan_eq hf]
theorem open_zero (h : f.openE plan = 0) : f.chk = true ∧ PlanB f plan := by
  have h1 := Fnd.openE_eq h
  exact ⟨h1.1, Fnd.planB h1.1 h1.2⟩
theorem wFailsV_eq : f.wFailsV plan = f.failsR plan := by
  unfold Fnd.wFailsV Fnd.failsR
  rw [wOpen_eq]
  split
  · rename_i h
    have := open_zero h
    exact wFails_eq this.1 this.2
  · rfl
theorem wPotE_eq {night : Int} : f.wPotE plan night = f.potE plan night := by
  unfold Fnd.wPotE Fnd.potE Fnd.isPotW Fnd.wOpen
  have h := wOpen_eq (f := f) (plan := plan)
  unfold Fnd.wOpen at h
  cases hf : f.chk with
  | false => rw [hf] at h; rw [← h]; simp
  | true =>
    rw [hf] at h
    rw [← h]
    cases f.wPlan plan <;> simp
theorem wPotV_eq {night : Int} : f.wPotV plan night = f.potV plan night := by
  unfold Fnd.wPotV Fnd.potV
  rw [wPotE_eq]
  split
  · rename_i h
    have h0 : f.openE plan = 0 := by
      unfold Fnd.potE at h
      split at h
      · exact h
      · rename_i h2; omega
    have h1 : within night 0 ((f.nights.length : Int) - 1) = true := by
      unfold Fnd.potE at h
      rw [if_neg (by omega)] at h
      split at h
      · assumption
      · omega
    simp only [within, Bool.and_eq_true, decide_eq_true_eq] at h1
    obtain ⟨hf, hp⟩ := open_zero h0
    have hn : night.toNat < plan.length := by have := hp.1; omega
    unfold Fnd.wPotL Fnd.potL
    rw [at_eq hp hn, show (night + 1).toNat = night.toNat + 1 by omega]
  · rfl
end

/-! ### Last -/
theorem minTo1_le (l : List Int) : ∀ (n j : Nat), j ≤ n → minTo1 l n ≤ nth l j
  | 0, j, hj => by rw [show j = 0 by omega]; exact Int.le_refl _
  | n + 1, j, hj => by
    by_cases h : j = n + 1
    · subst h; simp only [minTo1]; omega
    · have := minTo1_le l n j (by omega)
      simp only [minTo1]; omega
theorem minTo1_at (l : List Int) : ∀ n : Nat, ∃ j : Nat, j ≤ n ∧ minTo1 l n = nth l j
  | 0 => ⟨0, Nat.le_refl _, rfl⟩
  | n + 1 => by
    obtain ⟨j, h1, h2⟩ := minTo1_at l n
    by_cases h : minTo1 l n ≤ nth l ((n + 1 : Nat) : Int)
    · exact ⟨j, by omega, by simp only [minTo1]; omega⟩
    · exact ⟨n + 1, Nat.le_refl _, by simp only [minTo1]; omega⟩
theorem minL1_spec {l : List Int} (h : 0 < l.length) : minL1 l ∈ l ∧ ∀ x ∈ l, minL1 l ≤ x := by
  constructor
  · obtain ⟨j, h1, h2⟩ := minTo1_at l (l.length - 1)
    rw [minL1, h2, nthN (show j < l.length by omega)]
    exact List.getElem_mem _
  · intro x hx
    obtain ⟨j, hj, rfl⟩ := List.mem_iff_getElem.1 hx
    rw [← nthN hj]
    exact minTo1_le l _ j (by omega)
theorem mem_failsTo {f : Fnd} {plan : List (List Int)} {x : Int} : ∀ n : Nat, x ∈ failsTo f plan n ↔ ∃ i : Nat, i < n ∧ x = i ∧ f.safeAt plan i = false
  | 0 => by simp [failsTo]
  | n + 1 => by
    simp only [failsTo]
    split
    · rename_i h
      rw [mem_failsTo n]
      constructor
      · rintro ⟨i, h1, h2, h3⟩; exact ⟨i, by omega, h2, h3⟩
      · rintro ⟨i, h1, h2, h3⟩
        refine ⟨i, ?_, h2, h3⟩
        by_cases e : i = n
        · subst e; rw [h3] at h; cases h
        · omega
    · rename_i h
      rw [List.mem_append, mem_failsTo n, List.mem_singleton]
      constructor
      · rintro (⟨i, h1, h2, h3⟩ | h1)
        · exact ⟨i, by omega, h2, h3⟩
        · exact ⟨n, by omega, h1, by simpa using h⟩
      · rintro ⟨i, h1, h2, h3⟩
        by_cases e : i = n
        · subst e; exact .inr h2
        · exact .inl ⟨i, by omega, h2, h3⟩
theorem upTo_nothing {f : Fnd} : ∀ i : Nat, i ≤ f.nights.length → upTo f.shop.pigs.length f.nothing i = List.replicate f.shop.pigs.length 0
  | 0, _ => rfl
  | i + 1, hi => by
    rw [upTo, upTo_nothing i (by omega)]
    have e : nth f.nothing (i : Int) = List.replicate f.shop.pigs.length 0 := by
      rw [Fnd.nothing, nth_replicate (by omega) (by omega)]
    rw [e]
    apply List.ext_getElem
    · rw [plus_len]
    · intro j h1 h2
      have h1' : j < (List.replicate f.shop.pigs.length (0 : Int)).length := h2
      rw [← nthN h1, ← nthN h2, nth_plus h1', nth_rep]; rfl
theorem safe_calm {f : Fnd} {i : Nat} (hi : i < f.nights.length) : f.safeAt f.nothing i = f.calmAt i := by
  rw [Fnd.safeAt, upTo_nothing _ (by omega)]; rfl
theorem wLastV_eq {f : Fnd} : f.wLastV = f.lastN := by
  unfold Fnd.wLastV Fnd.lastN
  cases hf : f.chk with
  | false => rfl
  | true =>
    simp only [if_true]
    unfold Fnd.wLast
    rw [wFails_eq hf (nothingB f)]
    obtain ⟨h1, h2⟩ := minL1_spec (l := failsTo f f.nothing f.nights.length ++ [(f.nights.length : Int)]) (by simp)
    generalize minL1 (failsTo f f.nothing f.nights.length ++ [(f.nights.length : Int)]) = m at *
    have hm : ∃ i : Nat, m = i ∧ i ≤ f.nights.length ∧ (i = f.nights.length ∨ f.calmAt i = false) := by
      rcases List.mem_append.1 h1 with h | h
      · obtain ⟨i, g1, g2, g3⟩ := (mem_failsTo _).1 h
        exact ⟨i, g2, by omega, .inr (by rw [← safe_calm g1]; exact g3)⟩
      · exact ⟨f.nights.length, by simpa using h, Nat.le_refl _, .inl rfl⟩
    obtain ⟨i, rfl, hi, hc⟩ := hm
    rw [Fnd.lastTo_all hi (allI_iff.2 fun j hj => ?_) hc]
    cases hcj : f.calmAt j with
    | true => rfl
    | false =>
      have := h2 j (List.mem_append_left _ ((mem_failsTo _).2 ⟨j, by omega, rfl, by rw [safe_calm (by omega)]; exact hcj⟩))
      omega
end Go.Flong
