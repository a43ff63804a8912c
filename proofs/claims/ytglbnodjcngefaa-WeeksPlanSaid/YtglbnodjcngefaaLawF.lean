/- Laws of layer 13 in plain terms, part 11: the plan. -/
import Derived.Test.YtglbnodjcngefaaLawD
set_option linter.unusedSimpArgs false
set_option linter.unusedVariables false
namespace Go.Flong
open Go Go.Eng
/-! ### The order of plans -/
theorem earlier_irrefl : ∀ a : List Int, earlier a a = false
  | [] => rfl
  | x :: a => by simp only [earlier, if_true, earlier_irrefl a]
theorem earlier_asymm : ∀ {a b : List Int}, earlier a b = true → earlier b a = false
  | [], _, h => by simp [earlier] at h
  | _ :: _, [], h => by simp [earlier] at h
  | x :: a, y :: b, h => by
    simp only [earlier] at h ⊢
    by_cases e : x = y
    · rw [if_pos e] at h; rw [if_pos e.symm]; exact earlier_asymm h
    · rw [if_neg e, decide_eq_true_eq] at h
      rw [if_neg (fun g => e g.symm), decide_eq_false_iff_not]; omega
theorem boxS_sorted : ∀ l : List Int, (boxS l).Pairwise fun x y => earlier x y = true
  | [] => by simp [boxS]
  | b :: t => by
    rw [boxS, List.pairwise_flatMap]
    refine ⟨fun n _ => ?_, ?_⟩
    · rw [List.pairwise_map]
      refine (boxS_sorted t).imp fun {x y} h => ?_
      simp only [earlier, if_true, h]
    · refine List.pairwise_lt_range.imp fun {n m} h => ?_
      intro x hx y hy
      obtain ⟨x', _, rfl⟩ := List.mem_map.1 hx
      obtain ⟨y', _, rfl⟩ := List.mem_map.1 hy
      simp only [earlier]
      rw [if_neg (by omega), decide_eq_true_eq]; omega
theorem rowsS_sorted (f : Fnd) (s : Sp) (before : List Int) : (f.rowsS s before).Pairwise fun x y => earlier x y = true := by
  unfold Fnd.rowsS
  rw [addsL_box]
  exact ((boxS_sorted _).filter _).filter _
/-- One plan is less than another one. -/
def plt (p q : List (List Int)) : Prop := ∃ i : Nat, (∀ j : Nat, j < i → nth p j = nth q j) ∧ i < p.length ∧ earlier (nth p i) (nth q i) = true
theorem plt_cons {x : List Int} {p q : List (List Int)} (h : plt p q) : plt (x :: p) (x :: q) := by
  obtain ⟨i, h1, h2, h3⟩ := h
  refine ⟨i + 1, fun j hj => ?_, by simp; omega, by rw [nth_cons_succ, nth_cons_succ]; exact h3⟩
  cases j with
  | zero => rfl
  | succ j => rw [nth_cons_succ, nth_cons_succ]; exact h1 j (by omega)
theorem plansR_sorted (f : Fnd) : ∀ (n : Nat) (night : Int) (before : List Int), (f.plansR n night before).Pairwise plt
  | 0, _, _ => by simp [Fnd.plansR]
  | n + 1, night, before => by
    rw [plansR_succ, List.pairwise_flatMap]
    refine ⟨fun x _ => ?_, ?_⟩
    · rw [List.pairwise_map]
      exact (plansR_sorted f n _ _).imp plt_cons
    · refine (rowsS_sorted f _ _).imp fun {x y} h => ?_
      intro p hp q hq
      obtain ⟨p', _, rfl⟩ := List.mem_map.1 hp
      obtain ⟨q', _, rfl⟩ := List.mem_map.1 hq
      exact ⟨0, fun j hj => absurd hj (by omega), by simp, h⟩
theorem foldl_first {c : List (List Int) → Int} {R : List (List Int) → List (List Int) → Prop} : ∀ (t : List (List (List Int))) (b : List (List Int)), (b :: t).Pairwise R → ∃ x, (x = b ∨ (x ∈ t ∧ c x < c b)) ∧ t.foldl (stepM c) (c b, b, true) = (c x, x, true) ∧ ∀ y ∈ b :: t, c x ≤ c y ∧ (c y = c x → y = x ∨ R x y)
  | [], b, _ => ⟨b, .inl rfl, rfl, fun y hy => by simp at hy; subst hy; exact ⟨Int.le_refl _, fun _ => .inl rfl⟩⟩
  | y :: t, b, h => by
    rw [List.foldl_cons]
    obtain ⟨h1, h2⟩ := List.pairwise_cons.1 h
    by_cases hc : c y < c b
    · have e : stepM c (c b, b, true) y = (c y, y, true) := by simp [stepM, hc]
      rw [e]
      obtain ⟨x, g1, g2, g3⟩ := foldl_first t y h2
      have g4 := (g3 y List.mem_cons_self).1
      refine ⟨x, .inr ⟨?_, by omega⟩, g2, fun z hz => ?_⟩
      · rcases g1 with rfl | ⟨g1, _⟩
        · exact List.mem_cons_self
        · exact List.mem_cons_of_mem _ g1
      · rcases List.mem_cons.1 hz with rfl | hz
        · exact ⟨by omega, fun g => by omega⟩
        · exact g3 z hz
    · have e : stepM c (c b, b, true) y = (c b, b, true) := by simp [stepM, hc]
      rw [e]
      obtain ⟨h3, h4⟩ := List.pairwise_cons.1 h2
      obtain ⟨x, g1, g2, g3⟩ := foldl_first t b (List.pairwise_cons.2 ⟨fun z hz => h1 z (List.mem_cons_of_mem _ hz), h4⟩)
      have g4 := (g3 b List.mem_cons_self).1
      refine ⟨x, ?_, g2, fun z hz => ?_⟩
      · rcases g1 with g1 | ⟨g1, g5⟩
        · exact .inl g1
        · exact .inr ⟨List.mem_cons_of_mem _ g1, g5⟩
      · rcases List.mem_cons.1 hz with rfl | hz
        · exact g3 z List.mem_cons_self
        · rcases List.mem_cons.1 hz with rfl | hz
          · refine ⟨by omega, fun g => ?_⟩
            rcases g1 with rfl | ⟨_, g5⟩
            · exact .inr (h1 z List.mem_cons_self)
            · omega
          · exact g3 z (List.mem_cons_of_mem _ hz)
theorem fmin_first {c : List (List Int) → Int} {R : List (List Int) → List (List Int) → Prop} {L : List (List (List Int))} (h : L.Pairwise R) (h0 : 0 < L.length) : ∃ x ∈ L, fmin c L = (c x, x, true) ∧ ∀ y ∈ L, c x ≤ c y ∧ (c y = c x → y = x ∨ R x y) := by
  match L, h0 with
  | b :: t, _ =>
    rw [fmin_cons]
    obtain ⟨x, g1, g2, g3⟩ := foldl_first (c := c) t b h
    refine ⟨x, ?_, g2, g3⟩
    rcases g1 with rfl | ⟨g1, _⟩
    · exact List.mem_cons_self
    · exact List.mem_cons_of_mem _ g1
theorem sameInts_eq {a b : List Int} (h : sameInts a b = true) : a = b := by
  simp only [sameInts, Bool.and_eq_true, decide_eq_true_eq, allI_iff, sameAt] at h
  exact nth_ext (by omega) h.2
section
variable {f : Fnd} {plan : List (List Int)}
/-! ### Nothing is added -/
theorem nothing_isPlan (hf : f.chk = true) : f.isPlan f.nothing = true := by
  have hb := tl_bnd (Fnd.shopOK hf)
  have hpg := Shop.pigsOK (Fnd.shopOK hf)
  have hnt : ∀ i : Nat, i < f.nights.length → nth f.nothing i = List.replicate f.shop.pigs.length 0 := fun i hi => by rw [Fnd.nothing, nth_replicate (by omega) (by omega)]
  have hl : f.nothing.length = f.nights.length := by simp [Fnd.nothing]
  simp only [Fnd.isPlan, Bool.and_eq_true, decide_eq_true_eq, allI_iff]
  refine ⟨⟨by omega, fun i hi => ?_⟩, fun i hi => ?_⟩
  · simp only [rowOK, Bool.and_eq_true, decide_eq_true_eq, allI_iff, fitsMany, within]
    rw [hnt i (by omega)]
    refine ⟨by simp, fun j hj => ?_⟩
    rw [nth_rep]
    have := Pig.bnds (hpg.at (show j < f.shop.pigs.length by simpa using hj))
    omega
  · rw [fitsAt_iff, upTo_nothing _ (by omega)]
    refine ⟨fun j hj => ?_, ?_⟩
    · rw [nth_rep]
      have := Pig.bnds (hpg.at hj)
      omega
    · rw [sumOf_zero]
      have := lohi_bnd (Fnd.nightsOK hf) i (by omega)
      omega
theorem last_all (hf : f.chk = true) : (f.wLastV = f.nights.length ↔ f.nothing ∈ f.allPlans) ∧ 0 ≤ f.wLastV ∧ f.wLastV ≤ f.nights.length := by
  rw [wLast_eq hf, mem_allPlans hf]
  obtain ⟨i, h1, h2, h3, h4⟩ := lastTo_spec (f := f) f.nights.length
  rw [h2]
  refine ⟨⟨fun h => ⟨nothing_isPlan hf, fun j hj => ?_⟩, fun h => ?_⟩, by omega, by omega⟩
  · rw [safe_calm hj]; exact allI_iff.1 h3 j (by omega)
  · rcases h4 with h4 | h4
    · omega
    · by_cases e : i < f.nights.length
      · rw [← safe_calm e, h.2 i e] at h4; cases h4
      · omega
theorem cost_nothing : f.shop.cost f.nothing = 0 := by
  have : ∀ n : Nat, n ≤ f.nights.length → f.shop.costTo f.nothing n = 0 := by
    intro n
    induction n with
    | zero => intro _; rfl
    | succ n ih =>
      intro hn
      rw [Shop.costTo, ih (by omega), Fnd.nothing, nth_replicate (by omega) (by omega), sumOf_zero]; rfl
  have hl : f.nothing.length = f.nights.length := by simp [Fnd.nothing]
  unfold Shop.cost
  rw [hl]; exact this _ (Nat.le_refl _)
theorem adds_nothing : addsTo f.nothing f.nothing.length = 0 := by
  have : ∀ n : Nat, n ≤ f.nights.length → addsTo f.nothing n = 0 := by
    intro n
    induction n with
    | zero => intro _; rfl
    | succ n ih =>
      intro hn
      rw [addsTo, ih (by omega), Fnd.nothing, nth_replicate (by omega) (by omega)]
      rw [if_neg]
      have : ∀ k m : Nat, sumI (List.replicate m 0) k = 0 := by
        intro k m
        induction k with
        | zero => rfl
        | succ k ih => rw [sumI, ih, nth_rep]; rfl
      rw [this]; omega
  have hl : f.nothing.length = f.nights.length := by simp [Fnd.nothing]
  rw [hl]; exact this _ (Nat.le_refl _)
theorem earlier_zero : ∀ {n : Nat} {x : List Int}, nonneg x → earlier x (List.replicate n 0) = false
  | 0, x, _ => by cases x <;> rfl
  | n + 1, [], _ => rfl
  | n + 1, y :: x, h => by
    have h0 : 0 ≤ y := h 0 (by simp)
    rw [List.replicate_succ]
    simp only [earlier]
    by_cases e : y = 0
    · rw [if_pos e]
      exact earlier_zero fun j hj => by have := h (j + 1) (by simpa using hj); rwa [nth_cons_succ] at this
    · rw [if_neg e, decide_eq_false_iff_not]; omega
theorem adds_zero {p : List (List Int)} : ∀ n : Nat, addsTo p n = 0 → ∀ i : Nat, i < n → ¬ 0 < sumI (nth p i) (nth p i).length
  | 0, _, i, hi => absurd hi (by omega)
  | n + 1, h, i, hi => by
    have hb := addsTo_bnd p n
    simp only [addsTo] at h
    by_cases e : 0 < sumI (nth p (n : Int)) (nth p (n : Int)).length
    · rw [if_pos e] at h; omega
    · rw [if_neg e] at h
      by_cases g : i = n
      · subst g; exact e
      · exact adds_zero n h i (by omega)
theorem planLaw (hf : f.chk = true) : PlanLaw f plan := by
  have hcb := Fnd.chkB hf
  obtain ⟨hla, hlb⟩ := last_all hf
  have hC := leastC_eq hf costG_b
  have hO := leastC_eq hf onceG_b
  have honce : ∀ p ∈ f.allPlans, gcost onceG f.shop.pigs p = addsTo p p.length := fun p hp => gcost_once p (plan_nonneg hf hp)
  have hcost : ∀ p : List (List Int), gcost costG f.shop.pigs p = f.shop.cost p := fun p => gcost_cost p
  -- the plan, if there is one
  have hP : f.leastE costG = 0 → f.wPlanV ∈ f.allPlans ∧ ∀ y ∈ f.allPlans, f.shop.cost f.wPlanV ≤ f.shop.cost y ∧ (f.shop.cost y = f.shop.cost f.wPlanV → y = f.wPlanV ∨ plt f.wPlanV y) := fun h => by
    have hne : 0 < f.allPlans.length := by
      rcases hC with ⟨_, g, _⟩ | ⟨g, _⟩
      · rw [g] at h; omega
      · exact g
    obtain ⟨x, h1, h2, h3⟩ := fmin_first (c := gcost costG f.shop.pigs) (plansR_sorted f f.nights.length 0 f.zeros) (show 0 < (f.plansR f.nights.length 0 f.zeros).length from hne)
    have e : f.wPlanV = x := by
      unfold Fnd.wPlanV
      rw [if_pos h, bestF_eq hf]
      show (fmin (gcost costG f.shop.pigs) (f.plansR f.nights.length 0 f.zeros)).2.1 = x
      rw [h2]
    rw [e]
    refine ⟨h1, fun y hy => ?_⟩
    have := h3 y hy
    rwa [hcost, hcost] at this
  have hPc : f.leastE costG = 0 → f.shop.cost f.wPlanV = f.cheapC := fun h => by
    obtain ⟨h1, h2⟩ := hP h
    unfold Fnd.cheapC
    rcases hC with ⟨_, g, _⟩ | ⟨_, _, g, _, _, q, hq, _, g2, g3⟩
    · rw [g] at h; omega
    · have k1 := g3 _ h1
      have k2 := (h2 q hq).1
      rw [hcost] at k1 g2
      rw [g]; omega
  have hmem : f.isPlan plan = true → f.wSafeV plan = 1 → plan ∈ f.allPlans := fun h1 h2 => by
    refine (mem_allPlans hf).2 ⟨h1, fun i hi => ?_⟩
    rcases safeV_cases (openE_ok hf h1) with ⟨_, g⟩ | ⟨g, _⟩ | ⟨g, _⟩
    · exact fails_none g hi
    · rw [g] at h2; omega
    · rw [g] at h2; omega
  have hE : f.allPlans ≠ [] → f.leastE costG = 0 := fun h => by
    rcases hC with ⟨g, _⟩ | ⟨_, g, _⟩
    · exact absurd g h
    · exact g
  have hz : f.wLastV = f.nights.length → f.cheapC = 0 ∧ f.leastE costG = 0 ∧ f.wPlanV = f.nothing := fun h => by
    have h1 := hla.1 h
    have h0 := hE (fun g => by rw [g] at h1; simp at h1)
    obtain ⟨h2, h3⟩ := hP h0
    have h4 := h3 _ h1
    rw [cost_nothing] at h4
    have h5 : 0 ≤ f.cheapC := by
      unfold Fnd.cheapC
      rcases hC with ⟨_, g, g2⟩ | ⟨_, _, g, g2, _⟩ <;> omega
    have h6 := hPc h0
    refine ⟨by omega, h0, ?_⟩
    rcases h4.2 (by omega) with h7 | ⟨i, g1, g2, g3⟩
    · exact h7.symm
    · exfalso
      have hi : i < f.nights.length := by
        have := (allPlans_mem hf h2).1; omega
      rw [show nth f.nothing (i : Int) = List.replicate f.shop.pigs.length 0 from by rw [Fnd.nothing, nth_replicate (by omega) (by omega)]] at g3
      rw [earlier_zero (plan_nonneg hf h2 i g2)] at g3
      cases g3
  refine ⟨costsLaw hf, ?_, ?_, hlb, fun h => (hz h).1, fun h => ?_, hPc, fun h => ?_, fun h => ?_, fun h => ?_, fun h => ?_, fun h1 h2 => ?_, fun h1 h2 => ?_, fun h1 h2 => ?_, fun h1 h2 h3 i hi hs hd => ?_⟩
  · rcases hC with ⟨_, g, _⟩ | ⟨_, g, _⟩
    · exact .inr g
    · exact .inl g
  · unfold Fnd.cheapC
    rcases hC with ⟨_, g, g2⟩ | ⟨_, g, g2, _, g3, _⟩
    · rw [g2, g]; simp
    · rw [g2, g]; simp; omega
  · obtain ⟨h1, h2⟩ := hP h
    unfold Fnd.isPlanL
    rw [((mem_allPlans hf).1 h1).1, Bool.and_true, Bool.not_eq_true']
    have hw := wPlanV_len (f := f)
    unfold longP
    rw [Bool.or_eq_false_iff, decide_eq_false_iff_not, Bool.not_eq_false']
    refine ⟨by omega, allI_iff.2 fun i hi => ?_⟩
    have := hw.2 i hi
    simp only [Bool.not_eq_true', decide_eq_false_iff_not]; omega
  · obtain ⟨h1, h2⟩ := hP h
    unfold Fnd.onceC
    rcases hO with ⟨g, _⟩ | ⟨_, _, g, _, _, q, hq, _, g2, g3⟩
    · rw [g] at h1; simp at h1
    · have := g3 _ h1
      rw [honce _ h1] at this
      rw [g]; exact this
  · obtain ⟨h1, h2⟩ := hP h
    constructor
    · intro h3
      refine hla.2 ?_
      have h4 := allPlans_mem hf h1
      have e : f.wPlanV = f.nothing := by
        refine List.ext_getElem (by rw [h4.1]; simp [Fnd.nothing]) fun i g1 g2 => ?_
        rw [← nthN g1, ← nthN g2]
        have hi : i < f.nights.length := by omega
        rw [show nth f.nothing (i : Int) = List.replicate f.shop.pigs.length 0 from by rw [Fnd.nothing, nth_replicate (by omega) (by omega)]]
        have h5 := adds_zero _ h3 i g1
        have h6 := plan_nonneg hf h1 i g1
        have h7 := h4.2.2 i g1
        refine nth_ext (by rw [h7.1]; simp) fun j hj => ?_
        rw [nth_rep]
        by_cases h8 : 0 < nth (nth f.wPlanV (i : Int)) j
        · exact absurd ((sumI_pos h6 _ (Nat.le_refl _)).2.2 ⟨j, hj, h8⟩) h5
        · have := h6 j hj; omega
      rw [← e]; exact h1
    · intro h3
      rw [(hz h3).2.2]; exact adds_nothing
  · obtain ⟨h1, h2⟩ := hP h
    have h3 := (mem_allPlans hf).1 h1
    have h4 := openE_ok hf h3.1
    refine ⟨by rw [wOpen_eq]; exact h4, ?_⟩
    rcases safeV_cases h4 with ⟨g, _⟩ | ⟨_, g, _⟩ | ⟨_, g, _⟩
    · exact g
    · exfalso; apply g
      cases hl : failsTo f f.wPlanV f.nights.length with
      | nil => rfl
      | cons x t =>
        obtain ⟨i, hi, _, hs⟩ := (mem_failsTo (f := f) (plan := f.wPlanV) (x := x) f.nights.length).1 (by rw [hl]; exact List.mem_cons_self)
        rw [h3.2 i hi] at hs; cases hs
    · exfalso; apply g
      cases hl : failsTo f f.wPlanV f.nights.length with
      | nil => rfl
      | cons x t =>
        obtain ⟨i, hi, _, hs⟩ := (mem_failsTo (f := f) (plan := f.wPlanV) (x := x) f.nights.length).1 (by rw [hl]; exact List.mem_cons_self)
        rw [h3.2 i hi] at hs; cases hs
  · rw [wOpen_eq]; exact openE_ok hf h
  · have := hmem h1 h2
    exact hE fun g => by rw [g] at this; simp at this
  · have h3 := hmem h1 h2
    have h4 := hE fun g => by rw [g] at h3; simp at h3
    have := ((hP h4).2 _ h3).1
    rw [hPc h4] at this; exact this
  · have h3 := hmem h1 h2
    unfold Fnd.onceC
    rcases hO with ⟨g, _⟩ | ⟨_, _, g, _, _, q, hq, _, g2, g3⟩
    · rw [g] at h3; simp at h3
    · have := g3 _ h3
      rw [honce _ h3] at this
      rw [g]; exact this
  · have h4 := hmem h1 h2
    have h5 := hE fun g => by rw [g] at h4; simp at h4
    obtain ⟨h6, h7⟩ := hP h5
    rcases (h7 _ h4).2 (by rw [hPc h5]; exact h3) with h8 | ⟨k, g1, g2, g3⟩
    · rw [h8, sameInts_refl] at hd; cases hd
    · have hk : k = i := by
        by_cases c1 : k < i
        · have := sameInts_eq (allI_iff.1 hs k c1)
          rw [this, earlier_irrefl] at g3; cases g3
        · by_cases c2 : i < k
          · rw [g1 i c2, sameInts_refl] at hd; cases hd
          · omega
      rw [hk] at g3
      exact earlier_asymm g3
end
end Go.Flong
