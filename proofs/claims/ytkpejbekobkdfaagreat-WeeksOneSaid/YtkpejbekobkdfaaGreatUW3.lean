/- Part 3 of the texts behind the claim: LawA Base10 LawB LawC Base11 LawD EngZa Cmp MB1 LawM1 Base12 LawG LawE MB2 MB3 EngZb EngZc EngZd MB4 MB7 MB8 MB10 MB12 WO1 KTW1 KTW4. -/
import Derived.Test.YtkpejbekobkdfaaGreatUW2
set_option linter.unusedSimpArgs false
set_option linter.unusedVariables false
namespace Go.Flong
open Go Go.Eng
theorem sumTo_plus {f : Pig → Int} {pigs : List Pig} {a b : List Int} : ∀ i : Nat, i ≤ a.length → sumTo f pigs (plus a b) i = sumTo f pigs a i + sumTo f pigs b i
  | 0, _ => by simp [sumTo]
  | i + 1, h => by
    simp only [sumTo]
    rw [sumTo_plus i (by omega), nth_plus (by omega), Int.add_mul]; omega
theorem sumOf_plus {f : Pig → Int} {pigs : List Pig} {a b : List Int} (h : b.length = a.length) : sumOf f pigs (plus a b) = sumOf f pigs a + sumOf f pigs b := by
  simp only [sumOf]
  rw [plus_len, sumTo_plus _ (Nat.le_refl _), h]
theorem sumTo_zero {f : Pig → Int} {pigs : List Pig} {n : Nat} : ∀ i : Nat, sumTo f pigs (List.replicate n 0) i = 0
  | 0 => rfl
  | i + 1 => by simp only [sumTo]; rw [sumTo_zero i, nth_rep]; simp
theorem sumOf_zero {f : Pig → Int} {pigs : List Pig} {n : Nat} : sumOf f pigs (List.replicate n 0) = 0 := sumTo_zero _
section
variable {f : Fnd} {plan : List (List Int)}
theorem upTo_plus (hp : PlanB f plan) {g : Pig → Int} {i : Nat} (hi : i < plan.length) : sumOf g f.shop.pigs (upTo f.shop.pigs.length plan (i + 1)) = sumOf g f.shop.pigs (upTo f.shop.pigs.length plan i) + sumOf g f.shop.pigs (nth plan i) := by
  rw [upTo, sumOf_plus (by rw [upTo_len, (hp.2 i hi).1])]
theorem addL_eq (p : Pt) (pigs : List Pig) (l : List Int) : p.addL pigs l = ⟨p.pounds + sumOf Pig.pounds pigs l, p.tl + sumOf Pig.tin pigs l, p.th + sumOf Pig.tin pigs l, p.al + sumOf Pig.ant pigs l, p.ah + sumOf Pig.ant pigs l, p.dl, p.dh⟩ := rfl
theorem pre_eq (hp : PlanB f plan) : ∀ i : Nat, i ≤ plan.length → f.pre plan i = ⟨f.shop.pounds + sumOf Pig.pounds f.shop.pigs (upTo f.shop.pigs.length plan i), f.shop.tl + sumOf Pig.tin f.shop.pigs (upTo f.shop.pigs.length plan i), f.shop.th + sumOf Pig.tin f.shop.pigs (upTo f.shop.pigs.length plan i), f.shop.al + sumOf Pig.ant f.shop.pigs (upTo f.shop.pigs.length plan i), f.shop.ah + sumOf Pig.ant f.shop.pigs (upTo f.shop.pigs.length plan i), loTo f.nights i, hiTo f.nights i⟩
  | 0, _ => by simp [Fnd.pre, Fnd.pt0, upTo, sumOf_zero, loTo, hiTo]
  | i + 1, hi => by
    have h1 := fun g => upTo_plus (g := g) hp (show i < plan.length by omega)
    simp only [Fnd.pre, pre_eq hp i (by omega), addL_eq, Pt.lose, h1, loTo, hiTo, Pt.mk.injEq]
    refine ⟨?_, ?_, ?_, ?_, ?_, trivial, trivial⟩ <;> omega
theorem at_eq (hp : PlanB f plan) {i : Nat} (hi : i < plan.length) : f.at plan i = ⟨f.shop.pounds + sumOf Pig.pounds f.shop.pigs (upTo f.shop.pigs.length plan (i + 1)), f.shop.tl + sumOf Pig.tin f.shop.pigs (upTo f.shop.pigs.length plan (i + 1)), f.shop.th + sumOf Pig.tin f.shop.pigs (upTo f.shop.pigs.length plan (i + 1)), f.shop.al + sumOf Pig.ant f.shop.pigs (upTo f.shop.pigs.length plan (i + 1)), f.shop.ah + sumOf Pig.ant f.shop.pigs (upTo f.shop.pigs.length plan (i + 1)), loTo f.nights i, hiTo f.nights i⟩ := by
  have h1 := fun g => upTo_plus (g := g) hp hi
  simp only [Fnd.at, pre_eq hp i (by omega), addL_eq, h1, Pt.mk.injEq]
  refine ⟨?_, ?_, ?_, ?_, ?_, trivial, trivial⟩ <;> omega
end
theorem keeps4_iff {s : Shop} {p t a : Int} : keeps4 s p t a = true ↔ p * s.tpl ≤ 1000 * t ∧ 1000 * t ≤ p * s.tph ∧ p * s.apl ≤ 1000 * a ∧ 1000 * a ≤ p * s.aph := by
  simp only [keeps4, allI, keeps1, Bool.true_and, Bool.and_eq_true]
  simp
  constructor
  · rintro ⟨⟨⟨h1, h2⟩, h3⟩, h4⟩; exact ⟨h1, h2, h3, h4⟩
  · rintro ⟨h1, h2, h3, h4⟩; exact ⟨⟨⟨h1, h2⟩, h3⟩, h4⟩
theorem safe_iff {s : Shop} (h1 : 0 ≤ s.tpl ∧ s.tpl ≤ 1000) (h2 : 0 ≤ s.tph ∧ s.tph ≤ 1000) (h3 : 0 ≤ s.apl) (h4 : 0 ≤ s.aph) {P tl th al ah dl dh : Int} (ht : tl ≤ th) (ha : al ≤ ah) (hd : dl ≤ dh) :
    ((∀ j : Nat, j < (dh - dl + 1).toNat → keeps4 s (P - (dl + j)) (tl - (dl + j)) al = true ∧ keeps4 s (P - (dl + j)) (th - (dl + j)) ah = true) ↔
      ((P - dh) * s.tpl ≤ 1000 * (tl - dh) ∧ 1000 * (th - dl) ≤ (P - dl) * s.tph ∧ (P - dl) * s.apl ≤ 1000 * al ∧ 1000 * ah ≤ (P - dh) * s.aph)) := by
  constructor
  · intro h
    have a0 := h 0 (by omega)
    have a1 := h (dh - dl).toNat (by omega)
    rw [show dl + ((dh - dl).toNat : Int) = dh by omega, keeps4_iff, keeps4_iff] at a1
    rw [show dl + ((0 : Nat) : Int) = dl by omega, keeps4_iff, keeps4_iff] at a0
    exact ⟨a1.1.1, a0.2.2.1, a0.1.2.2.1, a1.2.2.2.2⟩
  · rintro ⟨b1, b2, b3, b4⟩ j hj
    rw [keeps4_iff, keeps4_iff]
    have e1 := Int.mul_nonneg (show 0 ≤ dh - (dl + j) by omega) (show 0 ≤ 1000 - s.tpl by omega)
    have e2 := Int.mul_nonneg (show 0 ≤ (dl + j) - dl by omega) (show 0 ≤ 1000 - s.tph by omega)
    have e3 := Int.mul_nonneg (show 0 ≤ (dl + j) - dl by omega) h3
    have e4 := Int.mul_nonneg (show 0 ≤ dh - (dl + j) by omega) h4
    generalize dl + (j : Int) = d at *
    simp only [Int.sub_mul, Int.mul_sub] at *
    omega
theorem shop_parts {s : Shop} (h : s.chk = true) : (0 ≤ s.tpl ∧ s.tpl ≤ 1000) ∧ (0 ≤ s.tph ∧ s.tph ≤ 1000) ∧ 0 ≤ s.apl ∧ 0 ≤ s.aph ∧ s.tl ≤ s.th ∧ s.al ≤ s.ah := by
  simp only [Shop.chk, Shop.head, isPot, isSpan, within, Bool.and_eq_true, decide_eq_true_eq] at h
  omega
theorem safeOn_iff {f : Fnd} {tl th al ah dl dh : Int} {add : List Int} : f.safeOn tl th al ah dl dh add = true ↔ ∀ j : Nat, j < (dh - dl + 1).toNat → keeps4 f.shop (f.shop.pounds + sumOf Pig.pounds f.shop.pigs add - (dl + j)) (tl + sumOf Pig.tin f.shop.pigs add - (dl + j)) (al + sumOf Pig.ant f.shop.pigs add) = true ∧ keeps4 f.shop (f.shop.pounds + sumOf Pig.pounds f.shop.pigs add - (dl + j)) (th + sumOf Pig.tin f.shop.pigs add - (dl + j)) (ah + sumOf Pig.ant f.shop.pigs add) = true := by
  simp only [Fnd.safeOn, allI_iff, Bool.and_eq_true, Fnd.keeps]
theorem sure_safe {f : Fnd} (hf : f.chk = true) {tl th al ah dl dh : Int} (ht : tl ≤ th) (ha : al ≤ ah) (hd : dl ≤ dh) {add : List Int} :
    f.sureP ⟨f.shop.pounds + sumOf Pig.pounds f.shop.pigs add, tl + sumOf Pig.tin f.shop.pigs add, th + sumOf Pig.tin f.shop.pigs add, al + sumOf Pig.ant f.shop.pigs add, ah + sumOf Pig.ant f.shop.pigs add, dl, dh⟩ = f.safeOn tl th al ah dl dh add := by
  obtain ⟨h1, h2, h3, h4, _, _⟩ := shop_parts (Fnd.shopOK hf)
  rw [Bool.eq_iff_iff, safeOn_iff, safe_iff h1 h2 h3 h4 (by omega) (by omega) hd]
  simp only [Fnd.sureP, Bool.and_eq_true, decide_eq_true_eq]
  constructor
  · rintro ⟨⟨⟨a, b⟩, c⟩, d⟩; exact ⟨a, b, c, d⟩
  · rintro ⟨a, b, c, d⟩; exact ⟨⟨⟨a, b⟩, c⟩, d⟩
section
variable {f : Fnd} {plan : List (List Int)}
theorem sureAt_eq (hf : f.chk = true) (hp : PlanB f plan) {i : Nat} (hi : i < plan.length) : f.sureP (f.at plan i) = f.safeAt plan i := by
  have h := shop_parts (Fnd.shopOK hf)
  have hl := lohi_bnd (Fnd.nightsOK hf) i (by have := hp.1; omega)
  rw [at_eq hp hi, sure_safe hf (by omega) (by omega) hl.2.1]; rfl
theorem wFailsTo_eq (hf : f.chk = true) (hp : PlanB f plan) : ∀ i : Nat, i ≤ plan.length → f.wFailsTo plan i = failsTo f plan i
  | 0, _ => rfl
  | i + 1, hi => by
    simp only [Fnd.wFailsTo, failsTo, sureAt_eq hf hp (show i < plan.length by omega), wFailsTo_eq hf hp i (by omega)]
theorem wFails_eq (hf : f.chk = true) (hp : PlanB f plan) : f.wFails plan = failsTo f plan f.nights.length := by
  rw [Fnd.wFails, ← hp.1]; exact wFailsTo_eq hf hp _ (Nat.le_refl _)
end
end Go.Flong
namespace Go.Flong
open Go Go.Eng
theorem leftTo_nth {pigs : List Pig} (hp : pigs.length ≤ 4) : ∀ (i j : Nat), i ≤ pigs.length → nth (leftTo pigs i) j = if j < i then (nth pigs j).many else 0
  | 0, j, _ => by
    rw [if_neg (by omega)]
    simp only [leftTo, nth]
    have : j = 0 ∨ j = 1 ∨ j = 2 ∨ j = 3 ∨ 4 ≤ j := by omega
    rcases this with rfl | rfl | rfl | rfl | h
    · rfl
    · rfl
    · rfl
    · rfl
    · rw [List.getD_eq_getElem?_getD, List.getElem?_eq_none (by simp; omega)]; rfl
  | i + 1, j, hi => by
    rw [leftTo, nth_lset (by rw [leftTo_len]; omega)]
    by_cases h : j = i
    · subst h; rw [if_pos rfl, if_pos (by omega)]
    · rw [if_neg h, leftTo_nth hp i j (by omega)]
      by_cases h2 : j < i
      · rw [if_pos h2, if_pos (by omega)]
      · rw [if_neg h2, if_neg (by omega)]
theorem left0_nth {pigs : List Pig} (hp : pigs.length ≤ 4) {j : Nat} (hj : j < pigs.length) : nth (left0 pigs) j = (nth pigs j).many := by
  rw [left0, leftTo_nth hp _ j (Nat.le_refl _), if_pos hj]
theorem takeTo_nth {left row : List Int} (hl : left.length = 4) : ∀ (m j : Nat), m ≤ 4 → nth (takeTo left row m) j = if j < m then nth left j - nth row j else nth left j
  | 0, j, _ => by rw [if_neg (by omega)]; rfl
  | m + 1, j, hm => by
    rw [takeTo, nth_lset (by rw [takeTo_len, hl]; omega), takeTo_nth hl m m (by omega), if_neg (Nat.lt_irrefl _)]
    by_cases h : j = m
    · subst h; rw [if_pos rfl, if_pos (by omega)]
    · rw [if_neg h, takeTo_nth hl m j (by omega)]
      by_cases h2 : j < m
      · rw [if_pos h2, if_pos (by omega)]
      · rw [if_neg h2, if_neg (by omega)]
theorem takeL_nth {left row : List Int} (hl : left.length = 4) (hr : row.length ≤ 4) {j : Nat} (hj : j < row.length) : nth (takeL left row) j = nth left j - nth row j := by
  rw [takeL, takeTo_nth hl _ _ hr, if_pos hj]
section
variable {f : Fnd} {plan : List (List Int)}
theorem leftAt_nth (hp4 : f.shop.pigs.length ≤ 4) : ∀ i : Nat, (∀ k : Nat, k < i → (nth plan k).length = f.shop.pigs.length) → ∀ j : Nat, j < f.shop.pigs.length → nth (leftAt f.shop.pigs plan i) j = (nth f.shop.pigs j).many - nth (upTo f.shop.pigs.length plan i) j
  | 0, _, j, hj => by simp only [leftAt, upTo]; rw [left0_nth hp4 hj, nth_rep]; omega
  | i + 1, h, j, hj => by
    have hr := h i (by omega)
    simp only [leftAt, upTo]
    rw [takeL_nth (leftAt_len _ _ _) (by omega) (by omega), leftAt_nth hp4 i (fun k hk => h k (by omega)) j hj, nth_plus (by rw [upTo_len]; exact hj)]
    omega
theorem rowW_iff (hp4 : f.shop.pigs.length ≤ 4) {i : Nat} (h : ∀ k : Nat, k < i → (nth plan k).length = f.shop.pigs.length) : f.rowW plan i = true ↔ (nth plan i).length = f.shop.pigs.length ∧ ∀ j : Nat, j < f.shop.pigs.length → 0 ≤ nth (nth plan i) j ∧ nth (upTo f.shop.pigs.length plan (i + 1)) j ≤ (nth f.shop.pigs j).many := by
  simp only [Fnd.rowW, Bool.and_eq_true, decide_eq_true_eq, allI_iff, rowFits, within]
  constructor
  · rintro ⟨h1, h2⟩
    refine ⟨by omega, fun j hj => ?_⟩
    have h3 := h2 j (by omega)
    rw [takeTo_other _ _ (leftAt_len _ _ _) j j (Nat.le_refl _) (by omega), leftAt_nth hp4 i h j hj] at h3
    rw [upTo, nth_plus (by rw [upTo_len]; exact hj)]
    omega
  · rintro ⟨h1, h2⟩
    refine ⟨by omega, fun j hj => ?_⟩
    have h3 := h2 j (by omega)
    rw [takeTo_other _ _ (leftAt_len _ _ _) j j (Nat.le_refl _) (by omega), leftAt_nth hp4 i h j (by omega)]
    rw [upTo, nth_plus (by rw [upTo_len]; omega)] at h3
    omega
theorem fitsAt_iff {i : Nat} : f.fitsAt plan i = true ↔ (∀ j : Nat, j < f.shop.pigs.length → 0 ≤ nth (upTo f.shop.pigs.length plan (i + 1)) j ∧ nth (upTo f.shop.pigs.length plan (i + 1)) j ≤ (nth f.shop.pigs j).many) ∧ f.shop.pounds - loTo f.nights i + sumOf Pig.pounds f.shop.pigs (upTo f.shop.pigs.length plan (i + 1)) ≤ f.shop.room := by
  simp only [Fnd.fitsAt, isAdd, Bool.and_eq_true, decide_eq_true_eq, allI_iff, fitsMany, within, upTo_len]
  constructor
  · rintro ⟨⟨_, h1⟩, h2⟩; exact ⟨h1, h2⟩
  · rintro ⟨h1, h2⟩; exact ⟨⟨rfl, h1⟩, h2⟩
theorem wPlan_eq (hf : f.chk = true) : f.wPlan plan = f.isPlan plan := by
  have hpg := Shop.pigsOK (Fnd.shopOK hf)
  have hp4 := hpg.2
  rw [Bool.eq_iff_iff]
  constructor
  · intro h
    have hB := wPlanB hf h
    simp only [Fnd.wPlan, Bool.and_eq_true, decide_eq_true_eq, allI_iff] at h
    obtain ⟨⟨h1, h2⟩, h3⟩ := h
    have hlen := fun (k : Nat) (hk : k < plan.length) => (hB.2 k hk).1
    have hrow := fun (i : Nat) (hi : i < plan.length) => (rowW_iff (f := f) (plan := plan) hp4 (i := i) (fun k hk => hlen k (by omega))).1 (h2 i hi)
    have hpos : ∀ i : Nat, i ≤ plan.length → ∀ j : Nat, j < f.shop.pigs.length → 0 ≤ nth (upTo f.shop.pigs.length plan i) j := by
      intro i
      induction i with
      | zero => intro _ j _; simp only [upTo]; rw [nth_rep]; omega
      | succ i ih =>
        intro hi j hj
        have := ih (by omega) j hj
        have h5 := (hrow i (by omega)).2 j hj
        rw [upTo, nth_plus (by rw [upTo_len]; exact hj)]; omega
    simp only [Fnd.isPlan, Bool.and_eq_true, decide_eq_true_eq, allI_iff]
    refine ⟨⟨h1, fun i hi => ?_⟩, fun i hi => ?_⟩
    · simp only [rowOK, Bool.and_eq_true, decide_eq_true_eq, allI_iff, fitsMany, within]
      refine ⟨by have := hlen i hi; omega, fun j hj => ?_⟩
      have hj' : j < f.shop.pigs.length := by have := hlen i hi; omega
      have h5 := (hrow i hi).2 j hj'
      have h6 := hpos i (by omega) j hj'
      rw [upTo, nth_plus (by rw [upTo_len]; exact hj')] at h5
      omega
    · rw [fitsAt_iff]
      refine ⟨fun j hj => ⟨hpos (i + 1) (by omega) j hj, ((hrow i hi).2 j hj).2⟩, ?_⟩
      have h5 := h3 i (by have := hB.1; omega)
      rw [at_eq hB hi] at h5
      simp only [Fnd.fitsP, decide_eq_true_eq] at h5
      omega
  · intro h
    have hB := Fnd.planB hf h
    simp only [Fnd.isPlan, Bool.and_eq_true, decide_eq_true_eq, allI_iff] at h
    obtain ⟨⟨h1, h2⟩, h3⟩ := h
    have hlen := fun (k : Nat) (hk : k < plan.length) => (hB.2 k hk).1
    simp only [Fnd.wPlan, Bool.and_eq_true, decide_eq_true_eq, allI_iff]
    refine ⟨⟨h1, fun i hi => ?_⟩, fun i hi => ?_⟩
    · refine (rowW_iff hp4 (fun k hk => hlen k (by omega))).2 ⟨hlen i hi, fun j hj => ⟨?_, ((fitsAt_iff.1 (h3 i hi)).1 j hj).2⟩⟩
      exact ((hB.2 i hi).2 j (by rw [hlen i hi]; exact hj)).1
    · have hi' : i < plan.length := by have := hB.1; omega
      have h5 := (fitsAt_iff.1 (h3 i hi')).2
      rw [at_eq hB hi']
      simp only [Fnd.fitsP, decide_eq_true_eq]
      omega
theorem wOpen_eq : f.wOpen (f.wPlan plan) = f.openE plan := by
  unfold Fnd.wOpen Fnd.openE
  cases hf : f.chk with
  | false => rfl
  | true => rw [wPlan_eq hf]
theorem open_zero (h : f.openE plan = 0) : f.chk = true ∧ PlanB f plan := by
  have h1 := Fnd.openE_eq h
  exact ⟨h1.1, Fnd.planB h1.1 h1.2⟩
end
theorem mem_failsTo {f : Fnd} {plan : List (List Int)} {x : Int} : ∀ n : Nat, x ∈ failsTo f plan n ↔ ∃ i : Nat, i < n ∧ x = i ∧ f.safeAt plan i = false
  | 0 => by simp [failsTo]
  | n + 1 => by
    simp only [failsTo]
    split
    · rename_i h
      rw [mem_failsTo n]
      constructor
      · rintro ⟨i, h1, h2, h3⟩; exact ⟨i, by omega, h2, h3⟩
      · rintro ⟨i, h1, h2, h3⟩
        refine ⟨i, ?_, h2, h3⟩
        by_cases e : i = n
        · subst e; rw [h3] at h; cases h
        · omega
    · rename_i h
      rw [List.mem_append, mem_failsTo n, List.mem_singleton]
      constructor
      · rintro (⟨i, h1, h2, h3⟩ | h1)
        · exact ⟨i, by omega, h2, h3⟩
        · exact ⟨n, by omega, h1, by simpa using h⟩
      · rintro ⟨i, h1, h2, h3⟩
        by_cases e : i = n
        · subst e; exact .inr h2
        · exact .inl ⟨i, by omega, h2, h3⟩
end Go.Flong
namespace Go.Flong
open Go Go.Eng
theorem cutLK_spec {hi n low : Int} : ∀ (k : Nat) (x : Int), hi - x + 1 ≤ k → ∀ t, (cutLK hi n low k x ≤ t ∧ t ≤ hi) ↔ (x ≤ t ∧ t ≤ hi ∧ low ≤ 1000 * (t + n))
  | 0, x, hk, t => by simp only [cutLK]; omega
  | k + 1, x, hk, t => by
    simp only [cutLK]
    split
    · have := cutLK_spec (hi := hi) (n := n) (low := low) k (x + 1) (by omega) t
      rw [this]; omega
    · omega
theorem cutL_spec {lo hi n low : Int} (t : Int) : (cutL lo hi n low ≤ t ∧ t ≤ hi) ↔ (lo ≤ t ∧ t ≤ hi ∧ low ≤ 1000 * (t + n)) := cutLK_spec _ _ (by omega) t
theorem cutHK_spec {lo n high : Int} : ∀ (k : Nat) (x : Int), x - lo + 1 ≤ k → ∀ t, (lo ≤ t ∧ t ≤ cutHK lo n high k x) ↔ (lo ≤ t ∧ t ≤ x ∧ 1000 * (t + n) ≤ high)
  | 0, x, hk, t => by simp only [cutHK]; omega
  | k + 1, x, hk, t => by
    simp only [cutHK]
    split
    · have := cutHK_spec (lo := lo) (n := n) (high := high) k (x - 1) (by omega) t
      rw [this]; omega
    · omega
theorem cut_spec {lo hi n low high : Int} (t : Int) : (cutL lo hi n low ≤ t ∧ t ≤ cutH (cutL lo hi n low) hi n high) ↔ (lo ≤ t ∧ t ≤ hi ∧ low ≤ 1000 * (t + n) ∧ 1000 * (t + n) ≤ high) := by
  have h1 := cutHK_spec (lo := cutL lo hi n low) (n := n) (high := high) (hi - cutL lo hi n low + 1).toNat hi (by omega) t
  have h2 := cutL_spec (lo := lo) (hi := hi) (n := n) (low := low) t
  have h3 : cutH (cutL lo hi n low) hi n high = cutHK (cutL lo hi n low) n high (hi - cutL lo hi n low + 1).toNat hi := rfl
  rw [h3, h1]
  constructor
  · rintro ⟨a, b, c⟩
    have := h2.1 ⟨a, b⟩
    exact ⟨this.1, this.2.1, this.2.2, c⟩
  · rintro ⟨a, b, c, d⟩
    have := h2.2 ⟨a, b, c⟩
    exact ⟨this.1, b, d⟩
theorem not_allI_iff {p : Nat → Bool} {n : Nat} : (!allI p n) = true ↔ ∃ i : Nat, i < n ∧ p i = false := by
  rw [Bool.not_eq_true']
  constructor
  · intro h
    cases hx : decide (∃ i : Nat, i < n ∧ p i = false) with
    | true => exact of_decide_eq_true hx
    | false =>
      have hx := of_decide_eq_false hx
      have : allI p n = true := allI_iff.2 fun j hj => by
        cases hp : p j with
        | true => rfl
        | false => exact absurd ⟨j, hj, hp⟩ hx
      rw [this] at h; cases h
  · rintro ⟨i, hi, hp⟩; exact not_allI hi hp
def goneAt (f : Fnd) (plan : List (List Int)) (night : Nat) (d : Int) : Pt :=
  ⟨f.shop.pounds + sumOf Pig.pounds f.shop.pigs (upTo f.shop.pigs.length plan night) - d, sumOf Pig.tin f.shop.pigs (upTo f.shop.pigs.length plan night) - d, sumOf Pig.tin f.shop.pigs (upTo f.shop.pigs.length plan night) - d, sumOf Pig.ant f.shop.pigs (upTo f.shop.pigs.length plan night), sumOf Pig.ant f.shop.pigs (upTo f.shop.pigs.length plan night), 0, 0⟩
theorem goneAt_add {f : Fnd} {plan : List (List Int)} (hp : PlanB f plan) {night : Nat} (hn : night < plan.length) (d : Int) : (goneAt f plan night d).addL f.shop.pigs (nth plan (night : Int)) = goneAt f plan (night + 1) d := by
  have h1 := fun g => upTo_plus (g := g) hp hn
  simp only [goneAt, addL_eq, h1]
  congr 1 <;> omega
theorem goneAt_drop {f : Fnd} {plan : List (List Int)} {night : Nat} {d x : Int} : (goneAt f plan night d).drop x = goneAt f plan night (d + x) := by
  simp only [goneAt, Pt.drop]
  congr 1 <;> omega
theorem canP_iff {f : Fnd} {plan : List (List Int)} (hp : PlanB f plan) : ∀ (n night : Nat) (tl th al ah d : Int), night + n = f.nights.length →
    (f.canP plan n night tl th al ah (goneAt f plan night d) = true ↔ ∃ t a : Int, tl ≤ t ∧ t ≤ th ∧ al ≤ a ∧ a ≤ ah ∧ f.holds plan t a n d = true)
  | 0, night, tl, th, al, ah, d, hn => by
    simp only [Fnd.canP, Fnd.holds, and_true]
    constructor
    · intro h
      simp at h
      exact ⟨tl, al, by omega, by omega, by omega, by omega⟩
    · rintro ⟨t, a, h1, h2, h3, h4⟩
      simp; omega
  | n + 1, night, tl, th, al, ah, d, hn => by
    have hl := hp.1
    have hg : f.gone1 plan (night : Int) (goneAt f plan night d) = goneAt f plan (night + 1) d := goneAt_add hp (by omega) d
    have e1 : f.nights.length - n = night + 1 := by omega
    have e2 : f.nights.length - (n + 1) = night := by omega
    have key : ∀ t a : Int, (f.keeps t a d (upTo f.shop.pigs.length plan (night + 1)) = true) ↔ ((goneAt f plan (night + 1) d).pounds * f.shop.tpl ≤ 1000 * (t + (goneAt f plan (night + 1) d).tl) ∧ 1000 * (t + (goneAt f plan (night + 1) d).tl) ≤ (goneAt f plan (night + 1) d).pounds * f.shop.tph ∧ (goneAt f plan (night + 1) d).pounds * f.shop.apl ≤ 1000 * (a + (goneAt f plan (night + 1) d).al) ∧ 1000 * (a + (goneAt f plan (night + 1) d).al) ≤ (goneAt f plan (night + 1) d).pounds * f.shop.aph) := by
      intro t a
      rw [Fnd.keeps, keeps4_iff]
      have e : t + (sumOf Pig.tin f.shop.pigs (upTo f.shop.pigs.length plan (night + 1)) - d) = t + sumOf Pig.tin f.shop.pigs (upTo f.shop.pigs.length plan (night + 1)) - d := by omega
      simp only [goneAt, e]
    simp only [Fnd.canP, Fnd.holds, hg, e1, e2, Bool.and_eq_true, not_allI_iff, Bool.not_eq_false']
    have ih := fun (t1 t2 a1 a2 x : Int) => canP_iff hp n (night + 1) t1 t2 a1 a2 (d + x) (by omega)
    have e3 : ((night : Int) + 1) = ((night + 1 : Nat) : Int) := by omega
    simp only [goneAt_drop, e3, ih]
    constructor
    · rintro ⟨_, i, hi, t, a, h1, h2, h3, h4, h5⟩
      have c1 := (cut_spec t).1 ⟨h1, h2⟩
      have c2 := (cut_spec a).1 ⟨h3, h4⟩
      refine ⟨t, a, c1.1, c1.2.1, c2.1, c2.2.1, (key t a).2 ⟨c1.2.2.1, c1.2.2.2, c2.2.2.1, c2.2.2.2⟩, i, hi, ?_⟩
      rw [Int.add_assoc]; exact h5
    · rintro ⟨t, a, h1, h2, h3, h4, h5, i, hi, h6⟩
      obtain ⟨k1, k2, k3, k4⟩ := (key t a).1 h5
      refine ⟨by simp; omega, i, hi, t, a, ((cut_spec t).2 ⟨h1, h2, k1, k2⟩).1, ((cut_spec t).2 ⟨h1, h2, k1, k2⟩).2, ((cut_spec a).2 ⟨h3, h4, k3, k4⟩).1, ((cut_spec a).2 ⟨h3, h4, k3, k4⟩).2, ?_⟩
      rw [Int.add_assoc] at h6; exact h6
theorem wCan_iff {f : Fnd} {plan : List (List Int)} (hp : PlanB f plan) : f.wCan plan = true ↔ ∃ t a : Int, f.shop.tl ≤ t ∧ t ≤ f.shop.th ∧ f.shop.al ≤ a ∧ a ≤ f.shop.ah ∧ f.holds plan t a f.nights.length 0 = true := by
  have h := canP_iff hp f.nights.length 0 f.shop.tl f.shop.th f.shop.al f.shop.ah 0 (by omega)
  have e : goneAt f plan 0 0 = ⟨f.shop.pounds, 0, 0, 0, 0, 0, 0⟩ := by simp [goneAt, upTo, sumOf_zero]
  rw [e] at h
  exact h
end Go.Flong
namespace Go.Flong
open Go Go.Eng
structure Tru where
  tin : Int
  ant : Int
  dross : List Int
def Fnd.rdy (f : Fnd) : Bool := !f.far && f.chk
theorem rdy_parts {f : Fnd} (h : f.rdy = true) : f.far = false ∧ f.chk = true := by simpa [Fnd.rdy] using h
def addTo (a b : List Int) : Nat → List Int
  | 0 => a
  | i + 1 => lset (addTo a b i) i (nth (addTo a b i) i + nth b i)
def costN (n e : Int) : Int := if e = 3 then 1000000 else n
def costB (n e : Int) : Bool := if e = 3 then true else decide (e = 0) && decide (0 ≤ n) && decide (n < 1000000)
def Fnd.cheapC (f : Fnd) : Int := costN (f.leastV costG) (f.leastE costG)
def Fnd.onceC (f : Fnd) : Int := costN (f.leastV onceG) (f.leastE onceG)
def Fnd.knownC (f : Fnd) : Int := costN f.wKnownV f.wKnownE
structure CostsLaw (f : Fnd) : Prop where
  a : costB (f.leastV costG) (f.leastE costG) = true
  b : costB (f.leastV onceG) (f.leastE onceG) = true
  c : costB f.wKnownV f.wKnownE = true
  d : decide (f.cheapC = 1000000) = decide (f.onceC = 1000000)
structure LessLaw (f o : Fnd) : Prop where
  cf : CostsLaw f
  co : CostsLaw o
  a : f.cheapC ≤ o.cheapC
  b : f.onceC ≤ o.onceC
  c : f.knownC ≤ o.knownC
end Go.Flong
namespace Go.Flong
open Go Go.Eng
theorem flatTo_range {α : Type} (g : Nat → List α) : ∀ n : Nat, flatTo g n = (List.range n).flatMap g
  | 0 => rfl
  | n + 1 => by rw [flatTo, flatTo_range g n, List.range_succ, List.flatMap_append]; simp
theorem flatTo_list {α β : Type} [Inhabited α] (l : List α) (G : α → List β) : flatTo (fun i : Nat => G (nth l i)) l.length = l.flatMap G := by
  have key : ∀ k : Nat, k ≤ l.length → flatTo (fun i : Nat => G (nth l i)) k = (l.take k).flatMap G := by
    intro k
    induction k with
    | zero => intro _; simp [flatTo]
    | succ k ih => intro hk; rw [flatTo, ih (by omega), take_nth_succ (by omega), List.flatMap_append]; simp
  rw [key _ (Nat.le_refl _), List.take_length]
theorem toFold {α σ : Type} [Inhabited α] {F : Nat → σ} {step : σ → α → σ} {l : List α} (hs : ∀ i : Nat, i < l.length → F (i + 1) = step (F i) (nth l i)) : F l.length = l.foldl step (F 0) := by
  have key : ∀ k : Nat, k ≤ l.length → F k = (l.take k).foldl step (F 0) := by
    intro k
    induction k with
    | zero => intro _; simp
    | succ k ih => intro hk; rw [hs k (by omega), ih (by omega), take_nth_succ (by omega), List.foldl_append]; simp
  rw [key _ (Nat.le_refl _), List.take_length]
theorem foldl_congr' {α σ : Type} {f g : σ → α → σ} : ∀ {l : List α} {s : σ}, (∀ x ∈ l, ∀ b, f b x = g b x) → l.foldl f s = l.foldl g s
  | [], _, _ => rfl
  | x :: t, s, h => by
    rw [List.foldl_cons, List.foldl_cons, h x List.mem_cons_self]
    exact foldl_congr' fun y hy => h y (List.mem_cons_of_mem _ hy)
theorem nth_cons_succ {α : Type} [Inhabited α] {b : α} {t : List α} {j : Nat} : nth (b :: t) ((j + 1 : Nat) : Int) = nth t (j : Int) := by
  have e : ((j + 1 : Nat) : Int).toNat = j + 1 := by omega
  have e2 : ((j : Nat) : Int).toNat = j := by omega
  simp only [nth, e, e2, List.getD_cons_succ]
theorem nth_cons_zero {α : Type} [Inhabited α] {b : α} {t : List α} : nth (b :: t) ((0 : Nat) : Int) = b := rfl
theorem nth_ext {a b : List Int} (hl : a.length = b.length) (h : ∀ j : Nat, j < a.length → nth a j = nth b j) : a = b :=
  List.ext_getElem hl fun j h1 h2 => by
    have := h j h1
    rwa [nthN h1, nthN h2] at this
def remL (f : Fnd) (before : List Int) : List Int := (List.range f.shop.pigs.length).map fun j : Nat => (nth f.shop.pigs j).many - nth before j
theorem addsR_box {f : Fnd} {before : List Int} {d : Int} : ∀ (n : Nat) (first r : List Int), r.length = n → (∀ j : Nat, j < n → nth r j = (nth f.shop.pigs ((first.length + j : Nat) : Int)).many - nth before ((first.length + j : Nat) : Int)) →
    f.addsR before d n first = ((boxS r).map (first ++ ·)).filter fun x => isAdd (f.less d) (plus before x)
  | 0, first, r, hr, _ => by
    rw [List.eq_nil_of_length_eq_zero hr]
    simp only [Fnd.addsR, boxS, List.map_cons, List.map_nil, List.append_nil, List.filter_cons, List.filter_nil]
  | n + 1, first, b :: t, hr, h => by
    have h0 := h 0 (by omega)
    rw [nth_cons_zero] at h0
    simp only [Nat.add_zero] at h0
    simp only [Fnd.addsR, boxS]
    rw [flatTo_range, ← h0, List.map_flatMap, List.filter_flatMap]
    congr 1
    funext j
    rw [addsR_box n (first ++ [(j : Int)]) t (by simpa using hr) (fun k hk => ?_)]
    · rw [List.map_map]
      congr 2
      funext x
      simp
    · have := h (k + 1) (by omega)
      rw [nth_cons_succ] at this
      rw [this]
      simp only [List.length_append, List.length_cons, List.length_nil]
      congr 3 <;> omega
  | n + 1, first, [], hr, _ => by simp at hr
theorem remL_len (f : Fnd) (before : List Int) : (remL f before).length = f.shop.pigs.length := by simp [remL]
theorem remL_nth {f : Fnd} {before : List Int} {j : Nat} (hj : j < f.shop.pigs.length) : nth (remL f before) j = (nth f.shop.pigs j).many - nth before j := by
  rw [nthN (by rw [remL_len]; exact hj)]; simp [remL]
theorem addsL_box {f : Fnd} {before : List Int} {d : Int} : f.addsL before d = (boxS (remL f before)).filter fun x => isAdd (f.less d) (plus before x) := by
  rw [Fnd.addsL, addsR_box _ [] (remL f before) (remL_len f before) (fun j hj => by rw [remL_nth hj]; simp)]
  simp
theorem mem_boxS : ∀ {r x : List Int}, x ∈ boxS r ↔ x.length = r.length ∧ ∀ j : Nat, j < r.length → 0 ≤ nth x j ∧ nth x j ≤ nth r j
  | [], x => by
    simp only [boxS, List.mem_singleton, List.length_nil]
    constructor
    · rintro rfl; exact ⟨rfl, fun j hj => absurd hj (by omega)⟩
    · intro h; exact List.eq_nil_of_length_eq_zero h.1
  | b :: t, x => by
    constructor
    · intro h; exact ⟨boxS_len _ h, boxS_bnd h⟩
    · rintro ⟨h1, h2⟩
      match x, h1 with
      | y :: ys, h1 =>
        have h0 := h2 0 (by simp)
        rw [nth_cons_zero, nth_cons_zero] at h0
        simp only [boxS, List.mem_flatMap, List.mem_map, List.mem_range]
        refine ⟨y.toNat, by omega, ys, mem_boxS.2 ⟨by simpa using h1, fun j hj => ?_⟩, by rw [Int.toNat_of_nonneg h0.1]⟩
        have := h2 (j + 1) (by simpa using hj)
        rwa [nth_cons_succ, nth_cons_succ] at this
def nonneg (l : List Int) : Prop := ∀ j : Nat, j < l.length → 0 ≤ nth l j
structure BefOK (f : Fnd) (before left : List Int) : Prop where
  len : before.length = f.shop.pigs.length
  pos : nonneg before
  le : ∀ j : Nat, j < f.shop.pigs.length → nth left j = (nth f.shop.pigs j).many - nth before j
def Rep (f : Fnd) (p : Pt) (s : Sp) (before : List Int) (c : Int) : Prop :=
  p = ⟨f.shop.pounds + sumOf Pig.pounds f.shop.pigs before - c, s.tl + sumOf Pig.tin f.shop.pigs before - c, s.th + sumOf Pig.tin f.shop.pigs before - c, s.al + sumOf Pig.ant f.shop.pigs before, s.ah + sumOf Pig.ant f.shop.pigs before, s.dl - c, s.dh - c⟩
def SpLe (s : Sp) : Prop := s.tl ≤ s.th ∧ s.al ≤ s.ah ∧ s.dl ≤ s.dh
def Fnd.rowsS (f : Fnd) (s : Sp) (before : List Int) : List (List Int) := (f.addsL before s.dl).filter fun x => f.safeOn s.tl s.th s.al s.ah s.dl s.dh (plus before x)
theorem isAdd_box {f : Fnd} {before x : List Int} {d : Int} (hb : before.length = f.shop.pigs.length) (hp : nonneg before) (hx : x ∈ boxS (remL f before)) : isAdd (f.less d) (plus before x) = decide (f.shop.pounds - d + (sumOf Pig.pounds f.shop.pigs before + sumOf Pig.pounds f.shop.pigs x) ≤ f.shop.room) := by
  obtain ⟨h1, h2⟩ := mem_boxS.1 hx
  rw [remL_len] at h1 h2
  have e1 : decide (((plus before x).length : Int) = (f.less d).pigs.length) = true := by
    rw [plus_len, decide_eq_true_eq, hb]; rfl
  have e2 : allI (fitsMany (f.less d).pigs (plus before x)) (plus before x).length = true := allI_iff.2 fun j hj => by
    rw [plus_len] at hj
    have h3 := h2 j (by omega)
    rw [remL_nth (by omega)] at h3
    have h4 := hp j hj
    simp only [fitsMany, within, Bool.and_eq_true, decide_eq_true_eq]
    rw [nth_plus hj]
    show _ ∧ _ ≤ (nth f.shop.pigs j).many
    omega
  unfold isAdd
  rw [e1, e2, Bool.true_and, Bool.true_and]
  show decide (f.shop.pounds - d + sumOf Pig.pounds f.shop.pigs (plus before x) ≤ f.shop.room) = _
  rw [sumOf_plus (by omega)]
theorem chBox_eq {f : Fnd} {before left : List Int} (hl : left.length = 4) (hp : f.shop.pigs.length ≤ 4) (h : BefOK f before left) : f.chBox left = boxS (remL f before) := by
  unfold Fnd.chBox
  congr 1
  refine nth_ext (by rw [List.length_take, remL_len, hl]; omega) fun j hj => ?_
  rw [List.length_take, hl] at hj
  rw [take_nth (by omega) (by omega), h.le j (by omega), remL_nth (by omega)]
theorem chL_eq {f : Fnd} (hf : f.chk = true) {p : Pt} {s : Sp} {before left : List Int} {c : Int} (hl : left.length = 4) (h : BefOK f before left) (hr : Rep f p s before c) (hs : SpLe s) : f.chL p left = f.rowsS s before := by
  have hp4 := (Shop.pigsOK (Fnd.shopOK hf)).2
  rw [Fnd.chL, Fnd.rowsS, chBox_eq hl hp4 h, addsL_box, List.filter_filter]
  refine List.filter_congr fun x hx => ?_
  rw [isAdd_box h.len h.pos hx]
  have hxl := (mem_boxS.1 hx).1
  rw [remL_len] at hxl
  have hsum := fun g : Pig → Int => sumOf_plus (f := g) (pigs := f.shop.pigs) (a := before) (b := x) (by rw [hxl, h.len])
  have h2 := sure_safe hf hs.1 hs.2.1 hs.2.2 (add := plus before x)
  unfold Rep at hr
  subst hr
  rw [← h2]
  unfold Fnd.chOK
  rw [Bool.and_comm]
  congr 1
  · rw [addL_eq]
    simp only [Fnd.sureP, hsum]
    congr 1
    · congr 1
      · congr 1
        · rw [decide_eq_decide, show f.shop.pounds + sumOf Pig.pounds f.shop.pigs before - c + sumOf Pig.pounds f.shop.pigs x - (s.dh - c) = f.shop.pounds + (sumOf Pig.pounds f.shop.pigs before + sumOf Pig.pounds f.shop.pigs x) - s.dh by omega, show s.tl + sumOf Pig.tin f.shop.pigs before - c + sumOf Pig.tin f.shop.pigs x - (s.dh - c) = s.tl + (sumOf Pig.tin f.shop.pigs before + sumOf Pig.tin f.shop.pigs x) - s.dh by omega]
        · rw [decide_eq_decide, show f.shop.pounds + sumOf Pig.pounds f.shop.pigs before - c + sumOf Pig.pounds f.shop.pigs x - (s.dl - c) = f.shop.pounds + (sumOf Pig.pounds f.shop.pigs before + sumOf Pig.pounds f.shop.pigs x) - s.dl by omega, show s.th + sumOf Pig.tin f.shop.pigs before - c + sumOf Pig.tin f.shop.pigs x - (s.dl - c) = s.th + (sumOf Pig.tin f.shop.pigs before + sumOf Pig.tin f.shop.pigs x) - s.dl by omega]
      · rw [decide_eq_decide, show f.shop.pounds + sumOf Pig.pounds f.shop.pigs before - c + sumOf Pig.pounds f.shop.pigs x - (s.dl - c) = f.shop.pounds + (sumOf Pig.pounds f.shop.pigs before + sumOf Pig.pounds f.shop.pigs x) - s.dl by omega, show s.al + sumOf Pig.ant f.shop.pigs before + sumOf Pig.ant f.shop.pigs x = s.al + (sumOf Pig.ant f.shop.pigs before + sumOf Pig.ant f.shop.pigs x) by omega]
    · rw [decide_eq_decide, show f.shop.pounds + sumOf Pig.pounds f.shop.pigs before - c + sumOf Pig.pounds f.shop.pigs x - (s.dh - c) = f.shop.pounds + (sumOf Pig.pounds f.shop.pigs before + sumOf Pig.pounds f.shop.pigs x) - s.dh by omega, show s.ah + sumOf Pig.ant f.shop.pigs before + sumOf Pig.ant f.shop.pigs x = s.ah + (sumOf Pig.ant f.shop.pigs before + sumOf Pig.ant f.shop.pigs x) by omega]
  · rw [addL_eq]
    simp only [Fnd.fitsP]
    rw [decide_eq_decide]
    omega
theorem rowsS_box {f : Fnd} {s : Sp} {before x : List Int} (h : x ∈ f.rowsS s before) : x ∈ boxS (remL f before) := by
  unfold Fnd.rowsS at h
  rw [addsL_box] at h
  exact (List.mem_filter.1 (List.mem_filter.1 h).1).1
theorem BefOK.next {f : Fnd} {before left x : List Int} (hl : left.length = 4) (hp : f.shop.pigs.length ≤ 4) (h : BefOK f before left) (hx : x ∈ boxS (remL f before)) : BefOK f (plus before x) (takeL left x) := by
  obtain ⟨h1, h2⟩ := mem_boxS.1 hx
  rw [remL_len] at h1 h2
  refine ⟨by rw [plus_len, h.len], fun j hj => ?_, fun j hj => ?_⟩
  · rw [plus_len] at hj
    have h3 := h2 j (by have := h.len; omega)
    have h4 := h.pos j hj
    rw [nth_plus hj]; omega
  · rw [takeL_nth hl (by omega) (by omega), h.le j hj, nth_plus (by have := h.len; omega)]; omega
theorem Rep.next {f : Fnd} {p : Pt} {s : Sp} {before x : List Int} {c : Int} {n : Night} (hx : x.length = before.length) (h : Rep f p s before c) : Rep f ((p.addL f.shop.pigs x).lose n) { s with dl := s.dl + n.lo, dh := s.dh + n.hi } (plus before x) c := by
  have hsum := fun g : Pig → Int => sumOf_plus (f := g) (pigs := f.shop.pigs) (a := before) (b := x) hx
  unfold Rep at *
  subst h
  rw [addL_eq]
  simp only [Pt.lose, hsum, Pt.mk.injEq]
  refine ⟨?_, ?_, ?_, ?_, ?_, ?_, ?_⟩ <;> omega
def spOf (f : Fnd) (night : Int) : Sp := ⟨f.shop.tl, f.shop.th, f.shop.al, f.shop.ah, loTo f.nights night.toNat, hiTo f.nights night.toNat⟩
theorem flatMap_if {α β : Type} {q : α → Bool} {G : α → List β} : ∀ l : List α, l.flatMap (fun x => if q x then G x else []) = (l.filter q).flatMap G
  | [] => rfl
  | x :: t => by
    rw [List.flatMap_cons, flatMap_if t, List.filter_cons]
    cases q x <;> simp
theorem plansR_succ {f : Fnd} {n : Nat} {night : Int} {before : List Int} : f.plansR (n + 1) night before = (f.rowsS (spOf f night) before).flatMap fun x => (f.plansR n (night + 1) (plus before x)).map (x :: ·) := by
  have h1 : ∀ x : List Int, flatTo (fun k : Nat => [x :: nth (f.plansR n (night + 1) (plus before x)) k]) (f.plansR n (night + 1) (plus before x)).length = (f.plansR n (night + 1) (plus before x)).map (x :: ·) := fun x => by
    rw [flatTo_list (f.plansR n (night + 1) (plus before x)) (fun y => [x :: y])]
    induction f.plansR n (night + 1) (plus before x) with
    | nil => rfl
    | cons a t ih => rw [List.flatMap_cons, ih]; rfl
  have h2 := flatTo_list (f.addsL before (loTo f.nights night.toNat)) (fun x => if f.safeOn f.shop.tl f.shop.th f.shop.al f.shop.ah (loTo f.nights night.toNat) (hiTo f.nights night.toNat) (plus before x) then (f.plansR n (night + 1) (plus before x)).map (x :: ·) else [])
  rw [flatMap_if] at h2
  unfold Fnd.rowsS spOf
  rw [← h2]
  simp only [Fnd.plansR, h1]
def stepM (c : List (List Int) → Int) (b : BestR) (x : List (List Int)) : BestR := if !b.2.2 || decide (c x < b.1) then (c x, x, true) else b
def fmin (c : List (List Int) → Int) (L : List (List (List Int))) : BestR := L.foldl (stepM c) (0, [], false)
def gcost (g : Int → List Int → Int) (pigs : List Pig) : List (List Int) → Int
  | [] => 0
  | r :: x => gcost g pigs x + g (sumOf Pig.pence pigs r) r
def comb (gr : Int) (r : List Int) (b m : BestR) : BestR := if m.2.2 && (!b.2.2 || decide (m.1 + gr < b.1)) then (m.1 + gr, r :: m.2.1, true) else b
theorem stepM_comb {c c' : List (List Int) → Int} {gr : Int} {r : List Int} (hc : ∀ x, c' (r :: x) = c x + gr) (b m : BestR) (x : List (List Int)) : stepM c' (comb gr r b m) (r :: x) = comb gr r b (stepM c m x) := by
  obtain ⟨v, y, s⟩ := m
  obtain ⟨u, z, t⟩ := b
  unfold stepM comb
  simp only [hc]
  cases s <;> cases t <;> simp
  · by_cases h1 : c x < v
    · simp [h1]
    · simp [h1]
  · by_cases h1 : c x < v
    · by_cases h2 : v + gr < u
      · simp [h1, h2, show c x + gr < u by omega]
      · by_cases h3 : c x + gr < u <;> simp [h1, h2, h3]
    · by_cases h2 : v + gr < u
      · simp [h1, h2]
      · simp [h1, h2, show ¬ c x + gr < u by omega]
theorem foldl_comb {c c' : List (List Int) → Int} {gr : Int} {r : List Int} (hc : ∀ x, c' (r :: x) = c x + gr) (b : BestR) : ∀ (K : List (List (List Int))) (m : BestR), (K.map (r :: ·)).foldl (stepM c') (comb gr r b m) = comb gr r b (K.foldl (stepM c) m)
  | [], _ => rfl
  | x :: K, m => by
    rw [List.map_cons, List.foldl_cons, List.foldl_cons, stepM_comb hc]
    exact foldl_comb hc b K _
theorem fmin_flat {c : List Int → List (List Int) → Int} {c' : List (List Int) → Int} {gr : List Int → Int} (hc : ∀ r x, c' (r :: x) = c r x + gr r) (K : List Int → List (List (List Int))) : ∀ (rows : List (List Int)) (b : BestR), (rows.flatMap fun r => (K r).map (r :: ·)).foldl (stepM c') b = rows.foldl (fun b r => comb (gr r) r b (fmin (c r) (K r))) b
  | [], _ => rfl
  | r :: rows, b => by
    have h : comb (gr r) r b (0, [], false) = b := by simp [comb]
    rw [List.flatMap_cons, List.foldl_append, List.foldl_cons]
    have := foldl_comb (c := c r) (c' := c') (hc r) b (K r) (0, [], false)
    rw [h] at this
    rw [this]
    exact fmin_flat hc K rows _
theorem takeL_len {left x : List Int} : (takeL left x).length = left.length := takeTo_len _ _ _
theorem bestW_eq {f : Fnd} (hf : f.chk = true) (g : Int → List Int → Int) : ∀ (n : Nat) (night : Nat) (p : Pt) (before left : List Int), night + n = f.nights.length → left.length = 4 → BefOK f before left → Rep f p (spOf f night) before 0 →
    f.bestW g n night p left = fmin (gcost g f.shop.pigs) (f.plansR n night before)
  | 0, _, _, _, _, _, _, _, _ => by
    simp [Fnd.bestW, Fnd.plansR, fmin, stepM, gcost]
  | n + 1, night, p, before, left, hn, hl, hb, hr => by
    have hp4 := (Shop.pigsOK (Fnd.shopOK hf)).2
    have hlh := lohi_bnd (Fnd.nightsOK hf) night (by omega)
    have hsp := tl_bnd (Fnd.shopOK hf)
    have hs : SpLe (spOf f night) := by unfold SpLe spOf; simp only [Int.toNat_natCast]; omega
    have e3 : ((night : Int) + 1) = ((night + 1 : Nat) : Int) := by omega
    rw [plansR_succ, fmin]
    rw [fmin_flat (c := fun _ => gcost g f.shop.pigs) (gr := fun r => g (sumOf Pig.pence f.shop.pigs r) r) (fun r x => rfl)]
    simp only [Fnd.bestW]
    rw [chL_eq hf hl hb hr hs]
    rw [toFold (F := bestRows g f.shop.pigs (fun r => f.bestW g n ((night : Int) + 1) ((p.addL f.shop.pigs r).lose (nth f.nights (night : Int))) (takeL left r)) (f.rowsS (spOf f night) before)) (step := bestRow g f.shop.pigs (fun r => f.bestW g n ((night : Int) + 1) ((p.addL f.shop.pigs r).lose (nth f.nights (night : Int))) (takeL left r))) (fun i _ => rfl)]
    show List.foldl _ (0, [], false) _ = _
    refine foldl_congr' fun x hx b => ?_
    have hbx := rowsS_box hx
    have hxl := (mem_boxS.1 hbx).1
    rw [remL_len] at hxl
    have hrn := Rep.next (n := nth f.nights (night : Int)) (x := x) (by rw [hxl, hb.len]) hr
    have hspn : ({ spOf f night with dl := (spOf f night).dl + (nth f.nights (night : Int)).lo, dh := (spOf f night).dh + (nth f.nights (night : Int)).hi } : Sp) = spOf f ((night + 1 : Nat) : Int) := by
      simp only [spOf, Int.toNat_natCast, loTo, hiTo]
    rw [hspn] at hrn
    have ih := bestW_eq hf g n (night + 1) ((p.addL f.shop.pigs x).lose (nth f.nights (night : Int))) (plus before x) (takeL left x) (by omega) (by rw [takeL_len, hl]) (hb.next hl hp4 hbx) hrn
    simp only [bestRow, comb, e3, ih]
theorem bef0 {f : Fnd} (hp : f.shop.pigs.length ≤ 4) : BefOK f f.zeros (left0 f.shop.pigs) := by
  refine ⟨zeros_len f, fun j _ => ?_, fun j hj => ?_⟩
  · unfold Fnd.zeros; rw [nth_rep]; omega
  · unfold Fnd.zeros; rw [left0_nth hp hj, nth_rep]; omega
theorem rep0 {f : Fnd} : Rep f f.pt0 (spOf f ((0 : Nat) : Int)) f.zeros 0 := by
  unfold Rep Fnd.zeros spOf Fnd.pt0
  simp only [sumOf_zero, Int.toNat_natCast, loTo, hiTo, Pt.mk.injEq]
  refine ⟨?_, ?_, ?_, ?_, ?_, ?_, ?_⟩ <;> omega
theorem bestF_eq {f : Fnd} (hf : f.chk = true) (g : Int → List Int → Int) : f.bestF g = fmin (gcost g f.shop.pigs) f.allPlans := by
  have hpg := Shop.pigsOK (Fnd.shopOK hf)
  exact bestW_eq hf g f.nights.length 0 f.pt0 f.zeros (left0 f.shop.pigs) (by omega) (left0_b hpg).1 (bef0 hpg.2) rep0
theorem fmin_is (c : List (List Int) → Int) (L : List (List (List Int))) : (fmin c L).2.2 = decide (0 < L.length) := by
  have key : ∀ (L : List (List (List Int))) (b : BestR), (L.foldl (stepM c) b).2.2 = (b.2.2 || decide (0 < L.length)) := by
    intro L
    induction L with
    | nil => intro b; simp
    | cons x t ih =>
      intro b
      rw [List.foldl_cons, ih]
      unfold stepM
      by_cases h : (!b.2.2 || decide (c x < b.1)) = true
      · rw [if_pos h]; simp
      · rw [if_neg h]; cases hb : b.2.2 <;> simp_all
  unfold fmin
  rw [key]; simp
theorem fmin_cons {c : List (List Int) → Int} {x : List (List Int)} {t : List (List (List Int))} : fmin c (x :: t) = t.foldl (stepM c) (c x, x, true) := by
  simp [fmin, stepM]
theorem leastE_eq {f : Fnd} {g : Int → List Int → Int} : f.leastE g = f.plansE := by
  unfold Fnd.leastE Fnd.plansE
  cases hf : f.chk with
  | false => rfl
  | true =>
    rw [bestF_eq hf, fmin_is]
    simp only [if_true, decide_eq_true_eq]
    by_cases h : f.allPlans.length = 0
    · rw [if_pos h, if_neg (by omega)]
    · rw [if_neg h, if_pos (by omega)]
end Go.Flong
namespace Go.Flong
open Go Go.Eng
theorem iter_congr {σ : Type} {f g : Nat → σ → σ} {s : σ} : ∀ {n : Nat}, (∀ i x, i < n → f i x = g i x) → iter f s n = iter g s n
  | 0, _ => rfl
  | n + 1, h => by
    rw [show iter f s (n + 1) = f n (iter f s n) from rfl, show iter g s (n + 1) = g n (iter g s n) from rfl, iter_congr (fun i x hi => h i x (by omega)), h n _ (by omega)]
theorem worst3_congr {g h : Int → Int → Int → Int} {s s' : Sp} (ht : s'.th - s'.tl = s.th - s.tl) (ha : s'.ah - s'.al = s.ah - s.al) (hd : s'.dh - s'.dl = s.dh - s.dl)
    (H : ∀ i j k : Nat, (i : Int) ≤ s.th - s.tl → (j : Int) ≤ s.ah - s.al → (k : Int) ≤ s.dh - s.dl → g (s'.tl + i) (s'.al + j) (s'.dl + k) = h (s.tl + i) (s.al + j) (s.dl + k)) : worst3 g s' = worst3 h s := by
  unfold worst3
  rw [ht, ha, hd]
  refine iter_congr fun i x hi => iter_congr fun j y hj => iter_congr fun k z hk => ?_
  rw [H i j k (by omega) (by omega) (by omega)]
theorem beh_fold {f : Fnd} {nx : Sp → List Int → Int} {night : Int} {s : Sp} {before : List Int} : f.beh nx night s before =
    min ((f.rowsS s before).foldl (fun w r => min w (sumOf Pig.pence f.shop.pigs r + nx { s with dl := s.dl + (nth f.nights night).lo, dh := s.dh + (nth f.nights night).hi } (plus before r))) neverC) neverC := by
  unfold Fnd.beh Fnd.rowsS
  rw [List.foldl_filter]
  congr 1
  exact toFold (F := f.behTo nx night s before) (fun i _ => rfl)
theorem Rep.one {f : Fnd} {p : Pt} {s : Sp} {before : List Int} {c : Int} (h : Rep f p s before c) (i j k : Nat) : Rep f (p.one (p.tl + i) (p.al + j) (p.dl + k)) ⟨s.tl + i, s.tl + i, s.al + j, s.al + j, s.dl + k, s.dl + k⟩ before (c + (p.dl + k)) := by
  unfold Rep at *
  subst h
  simp only [Pt.mk.injEq]
  refine ⟨?_, ?_, ?_, ?_, ?_, ?_, ?_⟩ <;> omega
theorem chW_beh {f : Fnd} (hf : f.chk = true) {n night : Nat} (hn : night < f.nights.length)
    (ih : ∀ (p : Pt) (s : Sp) (before left : List Int) (c : Int), left.length = 4 → BefOK f before left → Rep f p s before c → SpLe s → f.ahW n ((night : Int) + 1) p left = f.now n ((night : Int) + 1) s before)
    {p : Pt} {s : Sp} {before left : List Int} {c : Int} (hl : left.length = 4) (hb : BefOK f before left) (hr : Rep f p s before c) (hs : SpLe s) : f.chW (n + 1) night p left = f.beh (f.now n ((night : Int) + 1)) night s before := by
  have hp4 := (Shop.pigsOK (Fnd.shopOK hf)).2
  rw [beh_fold]
  simp only [Fnd.chW]
  rw [chL_eq hf hl hb hr hs]
  congr 1
  rw [toFold (F := chRows f.shop.pigs (fun r => f.aheadOf (fun q => f.chW n ((night : Int) + 1) q (takeL left r)) ((night : Int) + 1) ((p.addL f.shop.pigs r).lose (nth f.nights (night : Int)))) (f.rowsS s before)) (step := fun w r => min w (sumOf Pig.pence f.shop.pigs r + f.aheadOf (fun q => f.chW n ((night : Int) + 1) q (takeL left r)) ((night : Int) + 1) ((p.addL f.shop.pigs r).lose (nth f.nights (night : Int))))) (fun i _ => rfl)]
  show List.foldl _ neverC _ = _
  refine foldl_congr' fun x hx b => ?_
  have hbx := rowsS_box hx
  have hxl := (mem_boxS.1 hbx).1
  rw [remL_len] at hxl
  have hnb := Night.bnds ((Fnd.nightsOK hf).at hn)
  have := ih ((p.addL f.shop.pigs x).lose (nth f.nights (night : Int))) _ (plus before x) (takeL left x) c (by rw [takeL_len, hl]) (hb.next hl hp4 hbx) (Rep.next (n := nth f.nights (night : Int)) (by rw [hxl, hb.len]) hr) (by
    unfold SpLe at *; simp only []; omega)
  rw [← this]; rfl
theorem ahW_now {f : Fnd} (hf : f.chk = true) : ∀ (n night : Nat), night + n = f.nights.length → ∀ (p : Pt) (s : Sp) (before left : List Int) (c : Int), left.length = 4 → BefOK f before left → Rep f p s before c → SpLe s → f.ahW n night p left = f.now n night s before
  | 0, night, hn, p, s, before, left, c, hl, hb, hr, hs => by
    unfold Fnd.ahW Fnd.aheadOf
    rw [if_pos (.inl (by omega))]; rfl
  | n + 1, night, hn, p, s, before, left, c, hl, hb, hr, hs => by
    have ih : ∀ (p : Pt) (s : Sp) (before left : List Int) (c : Int), left.length = 4 → BefOK f before left → Rep f p s before c → SpLe s → f.ahW n ((night : Int) + 1) p left = f.now n ((night : Int) + 1) s before := fun p s before left c a1 a2 a3 a4 => by
      have := ahW_now hf n (night + 1) (by omega) p s before left c a1 a2 a3 a4
      rwa [show ((night + 1 : Nat) : Int) = (night : Int) + 1 by omega] at this
    unfold Fnd.ahW Fnd.aheadOf
    simp only [Fnd.now]
    by_cases ht : (nth f.nights (night : Int)).test = 0
    · rw [if_pos (.inr ht), if_pos ht]
      exact chW_beh hf (by omega) ih hl hb hr hs
    · rw [if_neg (by rintro (h | h); omega; exact ht h), if_neg ht]
      have hr2 := hr
      unfold Rep at hr2
      refine worst3_congr (by rw [hr2]; simp only []; omega) (by rw [hr2]; simp only []; omega) (by rw [hr2]; simp only []; omega) fun i j k _ _ _ => ?_
      exact chW_beh hf (by omega) ih hl hb (hr.one i j k) ⟨Int.le_refl _, Int.le_refl _, Int.le_refl _⟩
theorem wKnownN_eq {f : Fnd} (hf : f.chk = true) : f.wKnownN = f.knownN := by
  have hpg := Shop.pigsOK (Fnd.shopOK hf)
  have hb := tl_bnd (Fnd.shopOK hf)
  refine ahW_now hf f.nights.length 0 (by omega) f.pt0 _ f.zeros (left0 f.shop.pigs) 0 (left0_b hpg).1 (bef0 hpg.2) ?_ ?_
  · have := rep0 (f := f)
    unfold spOf at this
    exact this
  · unfold SpLe; simp only []; omega
theorem wKnownE_eq {f : Fnd} : f.wKnownE = f.knownE := by
  unfold Fnd.wKnownE Fnd.knownE
  cases hf : f.chk with
  | false => rfl
  | true => rw [wKnownN_eq hf]
theorem knownE_chk {f : Fnd} (h : f.knownE = 0) : f.chk = true := by
  unfold Fnd.knownE at h
  cases hc : f.chk with
  | true => rfl
  | false => rw [hc] at h; simp at h
theorem wKnownV_eq {f : Fnd} : f.wKnownV = f.knownV := by
  unfold Fnd.wKnownV Fnd.knownV
  rw [wKnownE_eq]
  split
  · rename_i h; exact wKnownN_eq (knownE_chk h)
  · rfl
end Go.Flong
namespace Go.Flong
open Go Go.Eng
theorem safe_keeps {f : Fnd} {tl th al ah dl dh : Int} {add : List Int} (h : f.safeOn tl th al ah dl dh add = true) {t a d : Int} (h1 : tl ≤ t) (h2 : t ≤ th) (h3 : al ≤ a) (h4 : a ≤ ah) (h5 : dl ≤ d) (h6 : d ≤ dh) : f.keeps t a d add = true := by
  have := safeOn_iff.1 h (d - dl).toNat (by omega)
  rw [show dl + ((d - dl).toNat : Int) = d by omega, keeps4_iff, keeps4_iff] at this
  rw [Fnd.keeps, keeps4_iff]
  omega
theorem keeps_safe {f : Fnd} {tl th al ah dl dh : Int} {add : List Int} (ht : tl ≤ th) (ha : al ≤ ah) (h : ∀ t a d : Int, tl ≤ t → t ≤ th → al ≤ a → a ≤ ah → dl ≤ d → d ≤ dh → f.keeps t a d add = true) : f.safeOn tl th al ah dl dh add = true := by
  rw [safeOn_iff]
  intro j hj
  exact ⟨h tl al (dl + j) (by omega) ht (by omega) ha (by omega) (by omega), h th ah (dl + j) ht (by omega) ha (by omega) (by omega) (by omega)⟩
section
variable {f : Fnd} {plan : List (List Int)} {t : Tru}
theorem safeV_cases (h : f.openE plan = 0) : (f.wSafeV plan = 1 ∧ (failsTo f plan f.nights.length).length = 0) ∨ (f.wSafeV plan = 3 ∧ (failsTo f plan f.nights.length).length ≠ 0 ∧ f.wCan plan = true) ∨ (f.wSafeV plan = 2 ∧ (failsTo f plan f.nights.length).length ≠ 0 ∧ f.wCan plan = false) := by
  obtain ⟨hf, hp⟩ := open_zero h
  unfold Fnd.wSafeV
  rw [if_pos (by rw [wOpen_eq]; exact h), wFails_eq hf hp]
  by_cases h0 : (failsTo f plan f.nights.length).length = 0
  · exact .inl ⟨if_pos h0, h0⟩
  · rw [if_neg h0]
    cases hc : f.wCan plan with
    | true => exact .inr (.inl ⟨rfl, h0, rfl⟩)
    | false => exact .inr (.inr ⟨rfl, h0, rfl⟩)
theorem fails_none (h : (failsTo f plan f.nights.length).length = 0) {i : Nat} (hi : i < f.nights.length) : f.safeAt plan i = true := by
  cases hs : f.safeAt plan i with
  | true => rfl
  | false =>
    have := (mem_failsTo (f := f) (plan := plan) (x := (i : Int)) f.nights.length).2 ⟨i, hi, rfl, hs⟩
    rw [List.length_eq_zero_iff.1 h] at this
    exact absurd this (by simp)
theorem openE_ok (hf : f.chk = true) (hp : f.isPlan plan = true) : f.openE plan = 0 := by
  unfold Fnd.openE; rw [hf, hp]; rfl
end
end Go.Flong
namespace Go.Flong
open Go Go.Eng
theorem foldl_min_le {α : Type} {c : α → Int} : ∀ (l : List α) (w : Int), l.foldl (fun w r => min w (c r)) w ≤ w ∧ ∀ r ∈ l, l.foldl (fun w r => min w (c r)) w ≤ c r
  | [], w => ⟨Int.le_refl _, fun r h => by simp at h⟩
  | x :: t, w => by
    have := foldl_min_le (c := c) t (min w (c x))
    rw [List.foldl_cons]
    refine ⟨by omega, fun r hr => ?_⟩
    rcases List.mem_cons.1 hr with rfl | h
    · omega
    · exact this.2 r h
theorem foldl_min_at {α : Type} {c : α → Int} : ∀ (l : List α) (w : Int), l.foldl (fun w r => min w (c r)) w = w ∨ ∃ r ∈ l, l.foldl (fun w r => min w (c r)) w = c r
  | [], w => .inl rfl
  | x :: t, w => by
    rw [List.foldl_cons]
    rcases foldl_min_at (c := c) t (min w (c x)) with h | ⟨r, hr, h⟩
    · rw [h]
      by_cases g : w ≤ c x
      · exact .inl (by omega)
      · exact .inr ⟨x, List.mem_cons_self, by omega⟩
    · exact .inr ⟨r, List.mem_cons_of_mem _ hr, h⟩
abbrev nextS (f : Fnd) (night : Int) (s : Sp) : Sp := { s with dl := s.dl + (nth f.nights night).lo, dh := s.dh + (nth f.nights night).hi }
theorem beh_foldN {f : Fnd} {nx : Sp → List Int → Int} {night : Int} {s : Sp} {before : List Int} : f.beh nx night s before = min ((f.rowsS s before).foldl (fun w r => min w (sumOf Pig.pence f.shop.pigs r + nx (nextS f night s) (plus before r))) neverC) neverC := beh_fold
theorem beh_le {f : Fnd} {nx : Sp → List Int → Int} {night : Int} {s : Sp} {before : List Int} : f.beh nx night s before ≤ neverC ∧ ∀ r ∈ f.rowsS s before, f.beh nx night s before ≤ sumOf Pig.pence f.shop.pigs r + nx (nextS f night s) (plus before r) := by
  rw [beh_foldN]
  have := foldl_min_le (c := fun r => sumOf Pig.pence f.shop.pigs r + nx (nextS f night s) (plus before r)) (f.rowsS s before) neverC
  exact ⟨by omega, fun r hr => by have := this.2 r hr; omega⟩
theorem beh_at {f : Fnd} {nx : Sp → List Int → Int} {night : Int} {s : Sp} {before : List Int} : f.beh nx night s before = neverC ∨ ∃ r ∈ f.rowsS s before, f.beh nx night s before = sumOf Pig.pence f.shop.pigs r + nx (nextS f night s) (plus before r) := by
  rw [beh_foldN]
  have h0 := (foldl_min_le (c := fun r => sumOf Pig.pence f.shop.pigs r + nx (nextS f night s) (plus before r)) (f.rowsS s before) neverC).1
  rcases foldl_min_at (c := fun r => sumOf Pig.pence f.shop.pigs r + nx (nextS f night s) (plus before r)) (f.rowsS s before) neverC with h | ⟨r, hr, h⟩
  · exact .inl (by omega)
  · exact .inr ⟨r, hr, by omega⟩
theorem iter_ge {F : Nat → Int → Int} {v : Int} (hF : ∀ i x, x ≤ F i x) : ∀ {n : Nat} {s : Int}, (∃ i, i < n ∧ ∀ x, v ≤ F i x) → v ≤ iter F s n
  | 0, s, h => by obtain ⟨i, hi, _⟩ := h; omega
  | n + 1, s, ⟨i, hi, h⟩ => by
    rw [show iter F s (n + 1) = F n (iter F s n) from rfl]
    by_cases e : i = n
    · subst e; exact h _
    · exact Int.le_trans (iter_ge hF ⟨i, by omega, h⟩) (hF n _)
theorem iter_le_self {F : Nat → Int → Int} (hF : ∀ i x, x ≤ F i x) : ∀ {n : Nat} {s : Int}, s ≤ iter F s n
  | 0, s => Int.le_refl _
  | n + 1, s => Int.le_trans (iter_le_self hF (n := n)) (hF n _)
theorem worst3_ge {g : Int → Int → Int → Int} {s : Sp} {t a d : Int} (h1 : s.tl ≤ t) (h2 : t ≤ s.th) (h3 : s.al ≤ a) (h4 : a ≤ s.ah) (h5 : s.dl ≤ d) (h6 : d ≤ s.dh) : g t a d ≤ worst3 g s := by
  unfold worst3
  have m3 : ∀ (t a : Int) (k : Nat) (x : Int), x ≤ max x (g t a (s.dl + (k : Int))) := fun t a k x => by omega
  have m2 : ∀ (t : Int) (j : Nat) (x : Int), x ≤ iter (fun k w => max w (g t (s.al + (j : Int)) (s.dl + (k : Int)))) x (s.dh - s.dl + 1).toNat := fun t j x => iter_le_self (m3 t _)
  have m1 : ∀ (i : Nat) (x : Int), x ≤ iter (fun j w => iter (fun k w => max w (g (s.tl + (i : Int)) (s.al + (j : Int)) (s.dl + (k : Int)))) w (s.dh - s.dl + 1).toNat) x (s.ah - s.al + 1).toNat := fun i x => iter_le_self (m2 _)
  refine iter_ge m1 ⟨(t - s.tl).toNat, by omega, fun x => iter_ge (m2 _) ⟨(a - s.al).toNat, by omega, fun y => iter_ge (m3 _ _) ⟨(d - s.dl).toNat, by omega, fun z => ?_⟩⟩⟩
  rw [show s.tl + ((t - s.tl).toNat : Int) = t by omega, show s.al + ((a - s.al).toNat : Int) = a by omega, show s.dl + ((d - s.dl).toNat : Int) = d by omega]
  omega
theorem worst3_nonneg {g : Int → Int → Int → Int} {s : Sp} : 0 ≤ worst3 g s := by
  unfold worst3
  exact iter_le_self fun i x => iter_le_self fun j y => iter_le_self fun k z => by omega
theorem worst3_le {g : Int → Int → Int → Int} {s : Sp} {m : Int} (hm : 0 ≤ m) (hg : ∀ t a d, s.tl ≤ t → t ≤ s.th → s.al ≤ a → a ≤ s.ah → s.dl ≤ d → d ≤ s.dh → g t a d ≤ m) : worst3 g s ≤ m := by
  unfold worst3
  refine iter_ind (P := fun w => w ≤ m) hm fun i x hi hx => iter_ind (P := fun w => w ≤ m) hx fun j y hj hy => iter_ind (P := fun w => w ≤ m) hy fun k z hk hz => ?_
  have := hg (s.tl + i) (s.al + j) (s.dl + k) (by omega) (by omega) (by omega) (by omega) (by omega) (by omega)
  omega
theorem worst3_at {g : Int → Int → Int → Int} {s : Sp} : worst3 g s = 0 ∨ ∃ t a d, (s.tl ≤ t ∧ t ≤ s.th) ∧ (s.al ≤ a ∧ a ≤ s.ah) ∧ (s.dl ≤ d ∧ d ≤ s.dh) ∧ worst3 g s = g t a d := by
  have : ∀ w : Int, w = 0 ∨ (∃ t a d, (s.tl ≤ t ∧ t ≤ s.th) ∧ (s.al ≤ a ∧ a ≤ s.ah) ∧ (s.dl ≤ d ∧ d ≤ s.dh) ∧ w = g t a d) → True := fun _ _ => trivial
  unfold worst3
  refine iter_ind (P := fun w => w = 0 ∨ ∃ t a d, (s.tl ≤ t ∧ t ≤ s.th) ∧ (s.al ≤ a ∧ a ≤ s.ah) ∧ (s.dl ≤ d ∧ d ≤ s.dh) ∧ w = g t a d) (.inl rfl) fun i x hi hx => iter_ind (P := fun w => w = 0 ∨ ∃ t a d, (s.tl ≤ t ∧ t ≤ s.th) ∧ (s.al ≤ a ∧ a ≤ s.ah) ∧ (s.dl ≤ d ∧ d ≤ s.dh) ∧ w = g t a d) hx fun j y hj hy => iter_ind (P := fun w => w = 0 ∨ ∃ t a d, (s.tl ≤ t ∧ t ≤ s.th) ∧ (s.al ≤ a ∧ a ≤ s.ah) ∧ (s.dl ≤ d ∧ d ≤ s.dh) ∧ w = g t a d) hy fun k z hk hz => ?_
  clear hx hy
  by_cases h : z ≤ g (s.tl + (i : Int)) (s.al + (j : Int)) (s.dl + (k : Int))
  · clear hz
    exact .inr ⟨s.tl + i, s.al + j, s.dl + k, ⟨by omega, by omega⟩, ⟨by omega, by omega⟩, ⟨by omega, by omega⟩, by omega⟩
  · rw [show max z (g (s.tl + (i : Int)) (s.al + (j : Int)) (s.dl + (k : Int))) = z by omega]; exact hz
structure BefP (f : Fnd) (before : List Int) : Prop where
  len : before.length = f.shop.pigs.length
  pos : nonneg before
theorem bef_zeros (f : Fnd) : BefP f f.zeros := ⟨zeros_len f, fun j hj => by have := zeros_bnd f 5 (by omega) j hj; exact this.1⟩
theorem mem_rowsS {f : Fnd} {s : Sp} {before x : List Int} (hb : BefP f before) : x ∈ f.rowsS s before ↔ x ∈ boxS (remL f before) ∧ f.shop.pounds - s.dl + (sumOf Pig.pounds f.shop.pigs before + sumOf Pig.pounds f.shop.pigs x) ≤ f.shop.room ∧ f.safeOn s.tl s.th s.al s.ah s.dl s.dh (plus before x) = true := by
  unfold Fnd.rowsS
  rw [addsL_box, List.mem_filter, List.mem_filter]
  constructor
  · rintro ⟨⟨h1, h2⟩, h3⟩
    rw [isAdd_box hb.len hb.pos h1, decide_eq_true_eq] at h2
    exact ⟨h1, h2, h3⟩
  · rintro ⟨h1, h2, h3⟩
    refine ⟨⟨h1, ?_⟩, h3⟩
    rw [isAdd_box hb.len hb.pos h1, decide_eq_true_eq]; exact h2
theorem BefP.next {f : Fnd} {before x : List Int} (hb : BefP f before) (hx : x ∈ boxS (remL f before)) : BefP f (plus before x) := by
  obtain ⟨h1, h2⟩ := mem_boxS.1 hx
  rw [remL_len] at h1 h2
  refine ⟨by rw [plus_len, hb.len], fun j hj => ?_⟩
  rw [plus_len] at hj
  have h3 := h2 j (by have := hb.len; omega)
  have h4 := hb.pos j hj
  rw [nth_plus hj]; omega
theorem pence_pos {f : Fnd} (hp : PigsOK f.shop.pigs) {before x : List Int} (hb : BefP f before) (hx : x ∈ boxS (remL f before)) : 0 ≤ sumOf Pig.pence f.shop.pigs x ∧ sumOf Pig.pence f.shop.pigs x ≤ 2000 := by
  obtain ⟨h1, h2⟩ := mem_boxS.1 hx
  rw [remL_len] at h1 h2
  refine pence_bnd hp h1 fun j hj => ?_
  have h3 := h2 j (by omega)
  rw [remL_nth (by omega)] at h3
  have h4 := hb.pos j (by rw [hb.len]; omega)
  have h5 := Pig.bnds (hp.at (show j < f.shop.pigs.length by omega))
  omega
def SpIn (s s' : Sp) : Prop := (s'.tl ≤ s.tl ∧ s.tl ≤ s.th ∧ s.th ≤ s'.th) ∧ (s'.al ≤ s.al ∧ s.al ≤ s.ah ∧ s.ah ≤ s'.ah) ∧ (s'.dl ≤ s.dl ∧ s.dl ≤ s.dh ∧ s.dh ≤ s'.dh)
theorem safe_sub {f : Fnd} {s s' : Sp} (h : SpIn s s') {add : List Int} (hs : f.safeOn s'.tl s'.th s'.al s'.ah s'.dl s'.dh add = true) : f.safeOn s.tl s.th s.al s.ah s.dl s.dh add = true := by
  unfold SpIn at h
  exact keeps_safe (by omega) (by omega) fun t a d _ _ _ _ _ _ => safe_keeps hs (by omega) (by omega) (by omega) (by omega) (by omega) (by omega)
structure Better (f o : Fnd) : Prop where
  n : o.nights.length ≤ f.nights.length
  k : o.shop.pigs.length = f.shop.pigs.length
  g : ∀ j : Nat, (nth o.shop.pigs j).pounds = (nth f.shop.pigs j).pounds ∧ (nth o.shop.pigs j).tin = (nth f.shop.pigs j).tin ∧ (nth o.shop.pigs j).ant = (nth f.shop.pigs j).ant ∧ (nth o.shop.pigs j).pence = (nth f.shop.pigs j).pence ∧ (nth f.shop.pigs j).many ≤ (nth o.shop.pigs j).many
  p : o.shop.pounds = f.shop.pounds ∧ f.shop.room ≤ o.shop.room
  l : o.shop.tpl = f.shop.tpl ∧ o.shop.tph = f.shop.tph ∧ o.shop.apl = f.shop.apl ∧ o.shop.aph = f.shop.aph
  d : ∀ i : Nat, i < o.nights.length → (nth f.nights i).lo ≤ (nth o.nights i).lo ∧ (nth o.nights i).lo ≤ (nth o.nights i).hi ∧ (nth o.nights i).hi ≤ (nth f.nights i).hi
  s : (f.shop.tl ≤ o.shop.tl ∧ o.shop.tl ≤ o.shop.th ∧ o.shop.th ≤ f.shop.th) ∧ (f.shop.al ≤ o.shop.al ∧ o.shop.al ≤ o.shop.ah ∧ o.shop.ah ≤ f.shop.ah)
section
variable {f o : Fnd} (B : Better f o)
theorem sum_same {g : Pig → Int} {p q : List Pig} (h : ∀ j : Nat, g (nth p j) = g (nth q j)) : ∀ (add : List Int) (i : Nat), sumTo g p add i = sumTo g q add i
  | _, 0 => rfl
  | add, i + 1 => by simp only [sumTo]; rw [sum_same h add i, h i]
theorem Better.pounds (B : Better f o) (add : List Int) : sumOf Pig.pounds o.shop.pigs add = sumOf Pig.pounds f.shop.pigs add := sum_same (fun j => (B.g j).1) _ _
theorem Better.tin (B : Better f o) (add : List Int) : sumOf Pig.tin o.shop.pigs add = sumOf Pig.tin f.shop.pigs add := sum_same (fun j => (B.g j).2.1) _ _
theorem Better.ant (B : Better f o) (add : List Int) : sumOf Pig.ant o.shop.pigs add = sumOf Pig.ant f.shop.pigs add := sum_same (fun j => (B.g j).2.2.1) _ _
theorem Better.pence (B : Better f o) (add : List Int) : sumOf Pig.pence o.shop.pigs add = sumOf Pig.pence f.shop.pigs add := sum_same (fun j => (B.g j).2.2.2.1) _ _
theorem Better.keeps (B : Better f o) (t a d : Int) (add : List Int) : o.keeps t a d add = f.keeps t a d add := by
  rw [Bool.eq_iff_iff, Fnd.keeps, Fnd.keeps, keeps4_iff, keeps4_iff, B.pounds, B.tin, B.ant, B.p.1, B.l.1, B.l.2.1, B.l.2.2.1, B.l.2.2.2]
theorem Better.safe (B : Better f o) (tl th al ah dl dh : Int) (add : List Int) : o.safeOn tl th al ah dl dh add = f.safeOn tl th al ah dl dh add := by
  unfold Fnd.safeOn; simp only [B.keeps]
theorem Better.bef (B : Better f o) {before : List Int} (h : BefP f before) : BefP o before := ⟨by rw [h.len, B.k], h.pos⟩
theorem Better.row (B : Better f o) {s s' : Sp} (hs : SpIn s s') {before x : List Int} (hb : BefP f before) (hx : x ∈ f.rowsS s' before) : x ∈ o.rowsS s before := by
  obtain ⟨h1, h2, h3⟩ := (mem_rowsS hb).1 hx
  refine (mem_rowsS (B.bef hb)).2 ⟨?_, ?_, ?_⟩
  · obtain ⟨g1, g2⟩ := mem_boxS.1 h1
    rw [remL_len] at g1 g2
    refine mem_boxS.2 ⟨by rw [remL_len, g1, B.k], fun j hj => ?_⟩
    rw [remL_len, B.k] at hj
    have := g2 j hj
    rw [remL_nth hj] at this
    rw [remL_nth (by rw [B.k]; exact hj)]
    have := (B.g j).2.2.2.2
    omega
  · have := hs.2.2
    have := B.p
    rw [B.pounds, B.pounds]; omega
  · rw [B.safe]; exact safe_sub hs h3
theorem Better.next (B : Better f o) {s s' : Sp} (hs : SpIn s s') {i : Nat} (hi : i < o.nights.length) : SpIn (nextS o i s) (nextS f i s') := by
  have := B.d i hi
  unfold SpIn at *
  simp only [nextS]; omega
theorem Better.sp (B : Better f o) : ∀ i : Nat, i ≤ o.nights.length → SpIn (spOf o i) (spOf f i)
  | 0, _ => by
    have := B.s
    unfold SpIn spOf; simp only [Int.toNat_natCast, loTo, hiTo]; omega
  | i + 1, hi => by
    have ih := B.sp i (by omega)
    have h := B.d i (by omega)
    unfold SpIn spOf at *
    simp only [Int.toNat_natCast, loTo, hiTo] at *
    omega
theorem Better.plans (B : Better f o) : ∀ (n night m : Nat) (before : List Int) (p : List (List Int)), night + n = f.nights.length → night + m = o.nights.length → BefP f before → p ∈ f.plansR n night before → p.take m ∈ o.plansR m night before
  | n, night, 0, before, p, hn, hm, hb, hp => by simp [Fnd.plansR]
  | 0, night, m + 1, before, p, hn, hm, hb, hp => by have := B.n; omega
  | n + 1, night, m + 1, before, p, hn, hm, hb, hp => by
    rw [plansR_succ, List.mem_flatMap] at hp
    obtain ⟨x, hx, hp⟩ := hp
    obtain ⟨q, hq, rfl⟩ := List.mem_map.1 hp
    have hx2 := B.row (B.sp night (by omega)) hb hx
    have e3 : ((night : Int) + 1) = ((night + 1 : Nat) : Int) := by omega
    rw [e3] at hq
    have ih := B.plans n (night + 1) m (plus before x) q (by omega) (by omega) (hb.next (rowsS_box hx)) hq
    rw [plansR_succ, List.mem_flatMap]
    exact ⟨x, hx2, List.mem_map.2 ⟨q.take m, by rw [e3]; exact ih, rfl⟩⟩
theorem Better.known (B : Better f o) (hf : f.chk = true) (ho : o.chk = true) (ht : ∀ i : Nat, i < o.nights.length → (nth o.nights i).test = (nth f.nights i).test ∨ (nth f.nights i).test = 0) : ∀ (n night m : Nat) (s s' : Sp) (before : List Int), night + n = f.nights.length → night + m = o.nights.length → BefP f before → bnd before 5 → SpIn s s' → o.now m night s before ≤ f.now n night s' before
  | n, night, 0, s, s', before, hn, hm, hb, hb5, hs => (now_bnd hf n night s' before hb.len hb5).1
  | 0, night, m + 1, s, s', before, hn, hm, hb, hb5, hs => by have := B.n; omega
  | n + 1, night, m + 1, s, s', before, hn, hm, hb, hb5, hs => by
    have e3 : ((night : Int) + 1) = ((night + 1 : Nat) : Int) := by omega
    have hpg := Shop.pigsOK (Fnd.shopOK hf)
    have key : ∀ s s' : Sp, SpIn s s' → o.beh (o.now m ((night : Int) + 1)) night s before ≤ f.beh (f.now n ((night : Int) + 1)) night s' before := fun s s' hs => by
      rcases beh_at (f := f) (nx := f.now n ((night : Int) + 1)) (night := night) (s := s') (before := before) with h | ⟨r, hr, h⟩
      · rw [h]; exact beh_le.1
      · rw [h]
        have h1 := (beh_le (nx := o.now m ((night : Int) + 1)) (night := (night : Int))).2 r (B.row hs hb hr)
        have hbx := rowsS_box hr
        have hb5' : bnd (plus before r) 5 := by
          obtain ⟨g1, g2⟩ := mem_boxS.1 hbx
          rw [remL_len] at g1 g2
          intro j hj
          rw [plus_len] at hj
          have h3 := g2 j (by have := hb.len; omega)
          rw [remL_nth (by have := hb.len; omega)] at h3
          have h4 := hb.pos j hj
          have h5 := Pig.bnds (hpg.at (show j < f.shop.pigs.length by have := hb.len; omega))
          rw [nth_plus hj]; omega
        have ih := B.known hf ho ht n (night + 1) m (nextS o night s) (nextS f night s') (plus before r) (by omega) (by omega) (hb.next hbx) hb5' (B.next hs (by omega))
        rw [B.pence] at h1
        rw [e3] at h1 ⊢
        omega
    simp only [Fnd.now]
    have hpos : 0 ≤ worst3 (fun t a d => f.beh (f.now n ((night : Int) + 1)) night ⟨t, t, a, a, d, d⟩ before) s' := worst3_nonneg
    have hs2 := hs
    unfold SpIn at hs2
    have hbp : 0 ≤ f.beh (f.now n ((night : Int) + 1)) night s' before := by
      rcases beh_at (f := f) (nx := f.now n ((night : Int) + 1)) (night := night) (s := s') (before := before) with h | ⟨r, hr, h⟩
      · rw [h]; decide
      · rw [h]
        have hbx := rowsS_box hr
        have h1 := pence_pos hpg hb hbx
        have hb5' : bnd (plus before r) 5 := by
          obtain ⟨g1, g2⟩ := mem_boxS.1 hbx
          rw [remL_len] at g1 g2
          intro j hj
          rw [plus_len] at hj
          have h3 := g2 j (by have := hb.len; omega)
          rw [remL_nth (by have := hb.len; omega)] at h3
          have h4 := hb.pos j hj
          have h5 := Pig.bnds (hpg.at (show j < f.shop.pigs.length by have := hb.len; omega))
          rw [nth_plus hj]; omega
        have := (now_bnd hf n ((night : Int) + 1) (nextS f night s') (plus before r) (hb.next hbx).len hb5').1
        omega
    by_cases h0 : (nth f.nights (night : Int)).test = 0
    · rw [if_pos h0]
      by_cases h1 : (nth o.nights (night : Int)).test = 0
      · rw [if_pos h1]; exact key s s' hs
      · rw [if_neg h1]
        exact worst3_le hbp fun t a d _ _ _ _ _ _ => key _ _ (by unfold SpIn; simp only []; omega)
    · rw [if_neg h0]
      have h1 : (nth o.nights (night : Int)).test ≠ 0 := by
        rcases ht night (by omega) with h | h
        · rw [h]; exact h0
        · exact absurd h h0
      rw [if_neg h1]
      refine worst3_le hpos fun t a d _ _ _ _ _ _ => Int.le_trans (key _ ⟨t, t, a, a, d, d⟩ (by unfold SpIn; simp only []; omega)) ?_
      exact worst3_ge (g := fun t a d => f.beh (f.now n ((night : Int) + 1)) night ⟨t, t, a, a, d, d⟩ before) (by omega) (by omega) (by omega) (by omega) (by omega) (by omega)
end
end Go.Flong
namespace Go.Flong
open Go Go.Eng
def befTo (before : List Int) (p : List (List Int)) : Nat → List Int
  | 0 => before
  | i + 1 => plus (befTo before p i) (nth p i)
theorem befTo_upTo {n : Nat} {p : List (List Int)} : ∀ i : Nat, befTo (List.replicate n 0) p i = upTo n p i
  | 0 => rfl
  | i + 1 => by rw [befTo, upTo, befTo_upTo i]
theorem befTo_cons {before x : List Int} {p : List (List Int)} : ∀ i : Nat, befTo before (x :: p) (i + 1) = befTo (plus before x) p i
  | 0 => rfl
  | i + 1 => by rw [befTo, befTo_cons i, befTo, nth_cons_succ]
theorem mem_plansR {f : Fnd} : ∀ (n night : Nat) (before : List Int) (p : List (List Int)), p ∈ f.plansR n night before ↔ p.length = n ∧ ∀ i : Nat, i < n → nth p i ∈ f.rowsS (spOf f ((night + i : Nat) : Int)) (befTo before p i)
  | 0, night, before, p => by
    simp only [Fnd.plansR, List.mem_singleton]
    constructor
    · rintro rfl; exact ⟨rfl, fun i hi => absurd hi (by omega)⟩
    · intro h; exact List.eq_nil_of_length_eq_zero h.1
  | n + 1, night, before, p => by
    have e3 : ((night : Int) + 1) = ((night + 1 : Nat) : Int) := by omega
    rw [plansR_succ, List.mem_flatMap]
    constructor
    · rintro ⟨x, hx, hp⟩
      obtain ⟨q, hq, rfl⟩ := List.mem_map.1 hp
      rw [e3] at hq
      obtain ⟨h1, h2⟩ := (mem_plansR n (night + 1) (plus before x) q).1 hq
      refine ⟨by simp [h1], fun i hi => ?_⟩
      cases i with
      | zero => exact hx
      | succ i =>
        rw [nth_cons_succ, befTo_cons, show night + (i + 1) = night + 1 + i by omega]
        exact h2 i (by omega)
    · rintro ⟨h1, h2⟩
      match p, h1 with
      | x :: q, h1 =>
        refine ⟨x, h2 0 (by omega), List.mem_map.2 ⟨q, ?_, rfl⟩⟩
        rw [e3]
        refine (mem_plansR n (night + 1) (plus before x) q).2 ⟨by simpa using h1, fun i hi => ?_⟩
        have := h2 (i + 1) (by omega)
        rw [nth_cons_succ, befTo_cons, show night + (i + 1) = night + 1 + i by omega] at this
        exact this
theorem befP_upTo {f : Fnd} {p : List (List Int)} : ∀ i : Nat, (∀ k : Nat, k < i → nth p k ∈ boxS (remL f (upTo f.shop.pigs.length p k))) → BefP f (upTo f.shop.pigs.length p i)
  | 0, _ => bef_zeros f
  | i + 1, h => (befP_upTo i (fun k hk => h k (by omega))).next (h i (by omega))
theorem mem_allPlans {f : Fnd} (hf : f.chk = true) {p : List (List Int)} : p ∈ f.allPlans ↔ f.isPlan p = true ∧ ∀ i : Nat, i < f.nights.length → f.safeAt p i = true := by
  have h0 := mem_plansR (f := f) f.nights.length 0 f.zeros p
  unfold Fnd.zeros at h0
  simp only [befTo_upTo, Nat.zero_add] at h0
  have hmem : p ∈ f.allPlans ↔ p.length = f.nights.length ∧ ∀ i : Nat, i < f.nights.length → nth p i ∈ f.rowsS (spOf f (i : Int)) (upTo f.shop.pigs.length p i) := h0
  have hpg := Shop.pigsOK (Fnd.shopOK hf)
  rw [hmem]
  constructor
  · rintro ⟨h1, h2⟩
    have hbx : ∀ i : Nat, i < f.nights.length → nth p i ∈ boxS (remL f (upTo f.shop.pigs.length p i)) := fun i hi => rowsS_box (h2 i hi)
    have hB : ∀ i : Nat, i ≤ f.nights.length → BefP f (upTo f.shop.pigs.length p i) := fun i hi => befP_upTo i fun k hk => hbx k (by omega)
    refine ⟨?_, fun i hi => ?_⟩
    · simp only [Fnd.isPlan, Bool.and_eq_true, decide_eq_true_eq, allI_iff]
      refine ⟨⟨by omega, fun i hi => ?_⟩, fun i hi => ?_⟩
      · obtain ⟨g1, g2⟩ := mem_boxS.1 (hbx i (by omega))
        rw [remL_len] at g1 g2
        simp only [rowOK, Bool.and_eq_true, decide_eq_true_eq, allI_iff, fitsMany, within]
        refine ⟨by omega, fun j hj => ?_⟩
        have g3 := g2 j (by omega)
        rw [remL_nth (by omega)] at g3
        have g4 := (hB i (by omega)).pos j (by rw [(hB i (by omega)).len]; omega)
        omega
      · rw [fitsAt_iff]
        have g0 := hB (i + 1) (by omega)
        obtain ⟨g1, g2, _⟩ := (mem_rowsS (hB i (by omega))).1 (h2 i (by omega))
        obtain ⟨g3, g4⟩ := mem_boxS.1 g1
        rw [remL_len] at g3 g4
        refine ⟨fun j hj => ⟨g0.pos j (by rw [g0.len]; exact hj), ?_⟩, ?_⟩
        · have g5 := g4 j hj
          rw [remL_nth hj] at g5
          rw [upTo, nth_plus (by rw [upTo_len]; exact hj)]
          omega
        · rw [upTo, sumOf_plus (by rw [upTo_len, g3])]
          simp only [spOf, Int.toNat_natCast] at g2
          omega
    · exact ((mem_rowsS (hB i (by omega))).1 (h2 i hi)).2.2
  · rintro ⟨h1, h2⟩
    have hPB := Fnd.planB hf h1
    simp only [Fnd.isPlan, Bool.and_eq_true, decide_eq_true_eq, allI_iff] at h1
    obtain ⟨⟨h3, h4⟩, h5⟩ := h1
    refine ⟨by omega, fun i hi => ?_⟩
    have hfa := fun k (hk : k < p.length) => fitsAt_iff.1 (h5 k hk)
    have hb : BefP f (upTo f.shop.pigs.length p i) := by
      refine ⟨upTo_len _ _ _, fun j hj => ?_⟩
      rw [upTo_len] at hj
      have := upTo_bnd (by omega) hPB.2 i (by have := hPB.1; omega) j (by rw [upTo_len]; exact hj)
      exact this.1
    have g1 := hfa i (by omega)
    have g2 := hPB.2 i (by omega)
    refine (mem_rowsS hb).2 ⟨mem_boxS.2 ⟨by rw [remL_len]; exact g2.1, fun j hj => ?_⟩, ?_, h2 i hi⟩
    · rw [remL_len] at hj
      have g3 := (g1.1 j hj).2
      rw [upTo, nth_plus (by rw [upTo_len]; exact hj)] at g3
      rw [remL_nth hj]
      have := (g2.2 j (by rw [g2.1]; exact hj)).1
      omega
    · have g3 := g1.2
      rw [upTo, sumOf_plus (by rw [upTo_len, g2.1])] at g3
      simp only [spOf, Int.toNat_natCast]
      omega
theorem foldl_stepM {c : List (List Int) → Int} : ∀ (t : List (List (List Int))) (b : List (List Int)), ∃ x, (x = b ∨ x ∈ t) ∧ t.foldl (stepM c) (c b, b, true) = (c x, x, true) ∧ c x ≤ c b ∧ (∀ y ∈ t, c x ≤ c y)
  | [], b => ⟨b, .inl rfl, rfl, Int.le_refl _, fun y h => by simp at h⟩
  | y :: t, b => by
    rw [List.foldl_cons]
    by_cases h : c y < c b
    · have e : stepM c (c b, b, true) y = (c y, y, true) := by simp [stepM, h]
      rw [e]
      obtain ⟨x, h1, h2, h3, h4⟩ := foldl_stepM t y
      refine ⟨x, ?_, h2, by omega, fun z hz => ?_⟩
      · rcases h1 with rfl | h1
        · exact .inr List.mem_cons_self
        · exact .inr (List.mem_cons_of_mem _ h1)
      · rcases List.mem_cons.1 hz with rfl | hz
        · exact h3
        · exact h4 z hz
    · have e : stepM c (c b, b, true) y = (c b, b, true) := by simp [stepM, h]
      rw [e]
      obtain ⟨x, h1, h2, h3, h4⟩ := foldl_stepM t b
      refine ⟨x, ?_, h2, h3, fun z hz => ?_⟩
      · rcases h1 with rfl | h1
        · exact .inl rfl
        · exact .inr (List.mem_cons_of_mem _ h1)
      · rcases List.mem_cons.1 hz with rfl | hz
        · omega
        · exact h4 z hz
theorem fmin_spec {c : List (List Int) → Int} {L : List (List (List Int))} (h : 0 < L.length) : ∃ x ∈ L, fmin c L = (c x, x, true) ∧ ∀ y ∈ L, c x ≤ c y := by
  match L, h with
  | b :: t, _ =>
    rw [fmin_cons]
    obtain ⟨x, h1, h2, h3, h4⟩ := foldl_stepM (c := c) t b
    refine ⟨x, ?_, h2, fun y hy => ?_⟩
    · rcases h1 with rfl | h1
      · exact List.mem_cons_self
      · exact List.mem_cons_of_mem _ h1
    · rcases List.mem_cons.1 hy with rfl | hy
      · exact h3
      · exact h4 y hy
theorem least_spec {f : Fnd} (hf : f.chk = true) (g : Int → List Int → Int) : (f.allPlans = [] ∧ f.leastE g = 3) ∨ (0 < f.allPlans.length ∧ f.leastE g = 0 ∧ ∃ p ∈ f.allPlans, f.bestF g = (gcost g f.shop.pigs p, p, true) ∧ f.leastV g = gcost g f.shop.pigs p ∧ ∀ q ∈ f.allPlans, gcost g f.shop.pigs p ≤ gcost g f.shop.pigs q) := by
  have hE : f.leastE g = if f.allPlans.length = 0 then 3 else 0 := by rw [leastE_eq, Fnd.plansE, hf]; rfl
  by_cases h : f.allPlans.length = 0
  · exact .inl ⟨List.length_eq_zero_iff.1 h, by rw [hE, if_pos h]⟩
  · rw [if_neg h] at hE
    obtain ⟨p, h1, h2, h3⟩ := fmin_spec (c := gcost g f.shop.pigs) (show 0 < f.allPlans.length by omega)
    refine .inr ⟨by omega, hE, p, h1, by rw [bestF_eq hf, h2], ?_, h3⟩
    unfold Fnd.leastV
    rw [if_pos hE, bestF_eq hf, h2]
theorem leastV_small {f : Fnd} (hf : f.chk = true) {g : Int → List Int → Int} (hg : OfB g) : 0 ≤ f.leastV g ∧ f.leastV g ≤ 8000 := by
  unfold Fnd.leastV
  split
  · have h1 := bestW_bnd hg (Shop.pigsOK (Fnd.shopOK hf)) f.nights.length 0 f.pt0 (left0 f.shop.pigs) (left0_b (Shop.pigsOK (Fnd.shopOK hf)))
    have h2 := (Fnd.nightsOK hf).2
    unfold Fnd.bestF
    omega
  · omega
theorem now_small {f : Fnd} (hf : f.chk = true) : ∀ (n : Nat) (night : Int) (s : Sp) (before : List Int), BefP f before → f.now n night s before = neverC ∨ (0 ≤ f.now n night s before ∧ f.now n night s before ≤ 2000 * n)
  | 0, _, _, _, _ => .inr (by simp [Fnd.now])
  | n + 1, night, s, before, hb => by
    have hpg := Shop.pigsOK (Fnd.shopOK hf)
    have key : ∀ s : Sp, f.beh (f.now n (night + 1)) night s before = neverC ∨ (0 ≤ f.beh (f.now n (night + 1)) night s before ∧ f.beh (f.now n (night + 1)) night s before ≤ 2000 * (n + 1 : Nat)) := fun s => by
      have h0 := (beh_le (f := f) (nx := f.now n (night + 1)) (night := night) (s := s) (before := before)).1
      rcases beh_at (f := f) (nx := f.now n (night + 1)) (night := night) (s := s) (before := before) with h | ⟨r, hr, h⟩
      · exact .inl h
      · have hbx := rowsS_box hr
        have h1 := pence_pos hpg hb hbx
        rcases now_small hf n (night + 1) (nextS f night s) (plus before r) (hb.next hbx) with h2 | h2
        · rw [h2] at h; exact .inl (by omega)
        · exact .inr (by omega)
    simp only [Fnd.now]
    split
    · exact key s
    · rcases worst3_at (g := fun t a d => f.beh (f.now n (night + 1)) night ⟨t, t, a, a, d, d⟩ before) (s := s) with h | ⟨t, a, d, _, _, _, h⟩
      · rw [h]; exact .inr (by omega)
      · rw [h]; exact key _
theorem knownN_small {f : Fnd} (hf : f.chk = true) : f.knownN = neverC ∨ (0 ≤ f.knownN ∧ f.knownN ≤ 8000) := by
  have h2 := (Fnd.nightsOK hf).2
  rcases now_small hf f.nights.length 0 ⟨f.shop.tl, f.shop.th, f.shop.al, f.shop.ah, 0, 0⟩ f.zeros (bef_zeros f) with h | h
  · exact .inl h
  · exact .inr (by unfold Fnd.knownN; omega)
theorem knownC_eq {f : Fnd} (hf : f.chk = true) : (f.knownN = neverC ∧ f.wKnownE = 3 ∧ f.knownC = 1000000) ∨ (0 ≤ f.knownN ∧ f.knownN ≤ 8000 ∧ f.wKnownE = 0 ∧ f.wKnownV = f.knownN ∧ f.knownC = f.knownN) := by
  have hn : neverC = 1073741824 := rfl
  have hE : f.wKnownE = if f.knownN ≥ neverC then 3 else 0 := by rw [wKnownE_eq, Fnd.knownE, hf]; rfl
  unfold Fnd.knownC costN
  rcases knownN_small hf with h | h
  · rw [if_pos (by omega)] at hE
    exact .inl ⟨h, hE, by rw [hE]; rfl⟩
  · rw [if_neg (by omega)] at hE
    have hv : f.wKnownV = f.knownN := by rw [wKnownV_eq, Fnd.knownV, ← wKnownE_eq, if_pos hE]
    exact .inr ⟨h.1, h.2, hE, hv, by rw [hE, hv]; rfl⟩
theorem leastC_eq {f : Fnd} (hf : f.chk = true) {g : Int → List Int → Int} (hg : OfB g) : (f.allPlans = [] ∧ f.leastE g = 3 ∧ costN (f.leastV g) (f.leastE g) = 1000000) ∨ (0 < f.allPlans.length ∧ f.leastE g = 0 ∧ costN (f.leastV g) (f.leastE g) = f.leastV g ∧ 0 ≤ f.leastV g ∧ f.leastV g ≤ 8000 ∧ ∃ p ∈ f.allPlans, f.bestF g = (gcost g f.shop.pigs p, p, true) ∧ f.leastV g = gcost g f.shop.pigs p ∧ ∀ q ∈ f.allPlans, f.leastV g ≤ gcost g f.shop.pigs q) := by
  have h1 := leastV_small hf hg
  rcases least_spec hf g with ⟨h2, h3⟩ | ⟨h2, h3, p, h4, h5, h6, h7⟩
  · exact .inl ⟨h2, h3, by rw [h3]; rfl⟩
  · exact .inr ⟨h2, h3, by rw [h3]; rfl, h1.1, h1.2, p, h4, h5, h6, fun q hq => by rw [h6]; exact h7 q hq⟩
theorem costsLaw {f : Fnd} (hf : f.chk = true) : CostsLaw f := by
  have key : ∀ g, OfB g → costB (f.leastV g) (f.leastE g) = true := fun g hg => by
    rcases leastC_eq hf hg with ⟨_, h, _⟩ | ⟨_, h, _, h1, h2, _⟩
    · rw [h]; rfl
    · rw [h]; simp [costB, h1]; omega
  refine ⟨key _ costG_b, key _ onceG_b, ?_, ?_⟩
  · rcases knownC_eq hf with ⟨_, h, _⟩ | ⟨h1, h2, h, h3, _⟩
    · rw [h]; rfl
    · rw [h, h3]; simp [costB, h1]; omega
  · rw [decide_eq_decide]
    unfold Fnd.cheapC Fnd.onceC
    rcases leastC_eq hf costG_b with ⟨h1, h2, h3⟩ | ⟨h1, h2, h3, h4, h5, _⟩
    · rcases leastC_eq hf onceG_b with ⟨g1, g2, g3⟩ | ⟨g1, g2, g3, g4, g5, _⟩
      · rw [h3, g3]
      · rw [h1] at g1; simp at g1
    · rcases leastC_eq hf onceG_b with ⟨g1, g2, g3⟩ | ⟨g1, g2, g3, g4, g5, _⟩
      · rw [g1] at h1; simp at h1
      · rw [h3, g3]; omega
theorem gcost_take {g : Int → List Int → Int} {pigs : List Pig} : ∀ (p : List (List Int)) (m : Nat), (∀ r ∈ p, 0 ≤ g (sumOf Pig.pence pigs r) r) → gcost g pigs (p.take m) ≤ gcost g pigs p
  | [], m, _ => by simp
  | r :: p, 0, h => by
    have h1 := h r List.mem_cons_self
    have h2 := gcost_take p 0 (fun x hx => h x (List.mem_cons_of_mem _ hx))
    simp only [List.take_zero, gcost] at h2 ⊢
    omega
  | r :: p, m + 1, h => by
    have h2 := gcost_take p m (fun x hx => h x (List.mem_cons_of_mem _ hx))
    simp only [List.take_succ_cons, gcost]
    omega
theorem gcost_congr {g : Int → List Int → Int} {p q : List Pig} (h : ∀ r, sumOf Pig.pence p r = sumOf Pig.pence q r) : ∀ x : List (List Int), gcost g p x = gcost g q x
  | [] => rfl
  | r :: x => by rw [gcost, gcost, gcost_congr h x, h]
theorem allPlans_row {f : Fnd} (hf : f.chk = true) {p : List (List Int)} (hp : p ∈ f.allPlans) {r : List Int} (hr : r ∈ p) : r.length = f.shop.pigs.length ∧ bnd r 5 ∧ nonneg r := by
  have hB := Fnd.planB hf ((mem_allPlans hf).1 hp).1
  obtain ⟨j, hj, rfl⟩ := List.mem_iff_getElem.1 hr
  have := hB.2 j hj
  rw [nthN hj] at this
  exact ⟨this.1, this.2, fun k hk => (this.2 k hk).1⟩
theorem row_cost {f : Fnd} (hf : f.chk = true) {g : Int → List Int → Int} (hg : OfB g) {p : List (List Int)} (hp : p ∈ f.allPlans) {r : List Int} (hr : r ∈ p) : 0 ≤ g (sumOf Pig.pence f.shop.pigs r) r ∧ g (sumOf Pig.pence f.shop.pigs r) r ≤ 2000 := by
  have h1 := allPlans_row hf hp hr
  have h2 := pence_bnd (Shop.pigsOK (Fnd.shopOK hf)) h1.1 h1.2.1
  exact hg _ _ h2.1 h2.2
theorem Better.least {f o : Fnd} (B : Better f o) (hf : f.chk = true) (ho : o.chk = true) {g : Int → List Int → Int} (hg : OfB g) : costN (o.leastV g) (o.leastE g) ≤ costN (f.leastV g) (f.leastE g) := by
  rcases leastC_eq hf hg with ⟨_, _, h1⟩ | ⟨_, _, h1, h2, h3, p, hp, _, h4, _⟩
  · rw [h1]
    rcases leastC_eq ho hg with ⟨_, _, g1⟩ | ⟨_, _, g1, g2, g3, _⟩
    · rw [g1]; exact Int.le_refl _
    · rw [g1]; omega
  · have hq := B.plans f.nights.length 0 o.nights.length f.zeros p (by omega) (by omega) (bef_zeros f) hp
    have hz : f.zeros = o.zeros := by unfold Fnd.zeros; rw [B.k]
    rw [hz] at hq
    have hq2 : p.take o.nights.length ∈ o.allPlans := hq
    rcases leastC_eq ho hg with ⟨g0, _, _⟩ | ⟨_, _, g1, _, _, q, _, _, _, g4⟩
    · rw [g0] at hq2; simp at hq2
    · have h5 := g4 _ hq2
      have h6 := gcost_take (g := g) (pigs := f.shop.pigs) p o.nights.length (fun r hr => (row_cost hf hg hp hr).1)
      rw [gcost_congr (fun r => B.pence r)] at h5
      rw [h1, g1]; omega
theorem Better.less {f o : Fnd} (B : Better f o) (hf : f.chk = true) (ho : o.chk = true) (ht : ∀ i : Nat, i < o.nights.length → (nth o.nights i).test = (nth f.nights i).test ∨ (nth f.nights i).test = 0) : LessLaw o f := by
  refine ⟨costsLaw ho, costsLaw hf, B.least hf ho costG_b, B.least hf ho onceG_b, ?_⟩
  have hz : f.zeros = o.zeros := by unfold Fnd.zeros; rw [B.k]
  have h1 := B.known hf ho ht f.nights.length 0 o.nights.length ⟨o.shop.tl, o.shop.th, o.shop.al, o.shop.ah, 0, 0⟩ ⟨f.shop.tl, f.shop.th, f.shop.al, f.shop.ah, 0, 0⟩ f.zeros (by omega) (by omega) (bef_zeros f) (zeros_bnd f 5 (by omega)) (by have := B.s; unfold SpIn; simp only []; omega)
  rw [show o.now o.nights.length ((0 : Nat) : Int) ⟨o.shop.tl, o.shop.th, o.shop.al, o.shop.ah, 0, 0⟩ f.zeros = o.knownN from by rw [hz]; rfl] at h1
  have h1 : o.knownN ≤ f.knownN := h1
  have hn : neverC = 1073741824 := rfl
  rcases knownC_eq hf with ⟨h2, _, h3⟩ | ⟨h2, h3, _, _, h4⟩
  · rw [h3]
    rcases knownC_eq ho with ⟨_, _, g3⟩ | ⟨_, g3, _, _, g4⟩
    · omega
    · omega
  · rw [h4]
    rcases knownC_eq ho with ⟨g2, _, g3⟩ | ⟨_, g3, _, _, g4⟩
    · omega
    · omega
end Go.Flong
namespace Go.Flong
open Go Go.Eng
structure Clr where
  tl : Int
  th : Int
  al : Int
  ah : Int
  night : Int
  dl : Int
  dh : Int
end Go.Flong
namespace Go.Flong
open Go Go.Eng
theorem hiTo_congr {l l' : List Night} : ∀ {n : Nat}, (∀ i : Nat, i < n → (nth l i).hi = (nth l' i).hi) → hiTo l n = hiTo l' n
  | 0, _ => rfl
  | n + 1, h => by simp only [hiTo]; rw [hiTo_congr (l := l) (l' := l') (n := n) (fun i hi => h i (by omega)), h n (by omega)]
theorem chk_of {f : Fnd} (h1 : f.shop.chk = true) (h2 : f.nights.length ≤ 4) (h3 : ∀ i : Nat, i < f.nights.length → (nth f.nights i).chk = true) (h4 : hiTo f.nights f.nights.length ≤ f.shop.tl) : f.chk = true := by
  simp only [Fnd.chk, Bool.and_eq_true, decide_eq_true_eq]
  exact ⟨⟨⟨h1, by omega⟩, all_of h3⟩, h4⟩
section
variable {f o : Fnd}
theorem Better.zeros (B : Better f o) : o.zeros = f.zeros := by unfold Fnd.zeros; rw [B.k]
theorem Better.calm (B : Better f o) {i : Nat} (hi : i < o.nights.length) (h : f.calmAt i = true) : o.calmAt i = true := by
  unfold Fnd.calmAt at *
  rw [B.safe, B.k]
  have := B.sp i (by omega)
  unfold spOf at this
  simp only [Int.toNat_natCast] at this
  exact safe_sub this h
end
section
variable {f : Fnd} {c : Clr}
end
section
variable {f o : Fnd} {plan : List (List Int)}
theorem Better.isPlan (B : Better f o) (hn : o.nights.length = f.nights.length) (hf : f.chk = true) (h : f.isPlan plan = true) : o.isPlan plan = true := by
  simp only [Fnd.isPlan, Bool.and_eq_true, decide_eq_true_eq, allI_iff] at h ⊢
  obtain ⟨⟨h1, h2⟩, h3⟩ := h
  refine ⟨⟨by omega, fun i hi => ?_⟩, fun i hi => ?_⟩
  · have := h2 i hi
    simp only [rowOK, Bool.and_eq_true, decide_eq_true_eq, allI_iff, fitsMany, within] at this ⊢
    refine ⟨by rw [B.k]; exact this.1, fun j hj => ?_⟩
    have h4 := this.2 j hj
    have h5 := (B.g j).2.2.2.2
    omega
  · have h4 := fitsAt_iff.1 (h3 i hi)
    rw [fitsAt_iff, B.k]
    refine ⟨fun j hj => ?_, ?_⟩
    · have h5 := h4.1 j hj
      have h6 := (B.g j).2.2.2.2
      omega
    · have h5 := (B.sp i (by omega)).2.2.1
      simp only [spOf, Int.toNat_natCast] at h5
      have h6 := B.p
      rw [B.pounds]; omega
theorem Better.safeAt (B : Better f o) {i : Nat} (hi : i < o.nights.length) (h : f.safeAt plan i = true) : o.safeAt plan i = true := by
  unfold Fnd.safeAt at *
  rw [B.safe, B.k]
  have := B.sp i (by omega)
  unfold spOf at this
  simp only [Int.toNat_natCast] at this
  exact safe_sub this h
theorem Better.holds (B : Better f o) (hn : o.nights.length = f.nights.length) {t a : Int} : ∀ (n : Nat) (d : Int), n ≤ f.nights.length → o.holds plan t a n d = true → f.holds plan t a n d = true
  | 0, _, _, _ => rfl
  | n + 1, d, hle, h => by
    simp only [Fnd.holds, Bool.and_eq_true, not_allI_iff, Bool.not_eq_false'] at h ⊢
    rw [hn, B.keeps, B.k] at h
    obtain ⟨h1, i, h2, h3⟩ := h
    have hd := B.d (f.nights.length - (n + 1)) (by omega)
    refine ⟨h1, (i + ((nth o.nights ((f.nights.length - (n + 1) : Nat) : Int)).lo - (nth f.nights ((f.nights.length - (n + 1) : Nat) : Int)).lo).toNat), by omega, ?_⟩
    have := B.holds hn n _ (by omega) h3
    rw [← this]
    congr 1
    omega
end
end Go.Flong
namespace Go.Eng
open Go
def PZ {α : Type} (E : EP α) (l : List α) : Pred := ⟨fun I v => (PL E l).h I v ∧ (l = [] → v = .slice none 0 0), fun hI h => ⟨(PL E l).mono hI h.1, h.2⟩⟩
theorem lxz {X : List (Nat × Pred)} {j : Nat} {α : Type} {E : EP α} {l : List α} (h : look j X = some (PZ E l)) : Has X j (PL E l) := ⟨_, h, fun _ _ h => h.1⟩
theorem lxzn {X : List (Nat × Pred)} {j : Nat} {α : Type} {E : EP α} (h : look j X = some (PZ E [])) : Has X j (Pred.is (.slice none 0 0)) := ⟨_, h, fun _ _ h => h.2 rfl⟩
theorem pz_ok {α : Type} {E : EP α} : ∀ I, (PZ E []).h I (.slice none 0 0) := fun _ => ⟨pl_nil, fun _ => rfl⟩
theorem PZ.of {α : Type} {E : EP α} {l : List α} (hl : l ≠ []) : ∀ I v, (PL E l).h I v → (PZ E l).h I v := fun _ _ h => ⟨h, fun e => absurd e hl⟩
theorem o_eqz {cx : Cx} {S : St} {dst : Option Tmp} {ty : TypeId} {pos : String} {af : Array Edge} {gd : Option (Nat × Bool)} {x : Operand} {t t' e : TypeId} {j : Nat} {α : Type} {E : EP α} {l : List α} (hT : cx.P.underlying t = some (.slice e)) (hx : S.op x = some (.e (.a (.q j)))) (hj : Has S.X j (PZ E l)) :
    OpG cx S ⟨dst, .binOp .eql t x (.const (.slice none 0 0)) t', ty, pos, af, gd⟩ (.val (.b (decide ((l.length : Int) = 0)))) :=
  OpG.pure (fun _ => by simp) fun M ε I ac w hs => ⟨trivial, by
    have h1 := hs.eval hx
    obtain ⟨⟨ad, cap, hv, hc, hl⟩, hz⟩ := hs.has hj
    simp only [SV.den, El.den, At.den, hv] at h1
    have h3 : ac.eval (.const (.slice none 0 0)) = .slice none 0 0 := rfl
    have h4 : ad.isNone = decide ((l.length : Int) = 0) := by
      cases l with
      | nil =>
        have h5 := hz rfl
        rw [hv] at h5
        simp at h5
        rw [h5.1]; rfl
      | cons y t =>
        obtain ⟨cs, ad', _, h2, _⟩ := hl 0 (by simp)
        rw [h2]
        simp only [Option.isNone, List.length_cons]
        exact (decide_eq_false (by omega)).symm
    simp [execOp, h1, h3, eqGuard, binOp, run_eqsl hT, SV.den, El.den, At.den, h4]⟩
def ItQ (P : Program) (items : List Item) : Pred := ⟨fun I v => ∃ f fs cs, v = .func (.func f) fs cs ∧ Enters' P f ∧ ∀ I' w, I.le I' → I'.on w → ItC P f (fun y => fs ++ #[y] ++ cs) I' w items, fun hI ⟨f, fs, cs, h1, h2, h3⟩ => ⟨f, fs, cs, h1, h2, fun I' w hle => h3 I' w (hI.trans hle)⟩⟩
def SigJ (P : Program) (f : FuncId) (bs : List SV) (Xc : List (Nat × Pred)) (items : List Item) : Prop := ∀ (I : IH) (w : World) (ν : Nat → Value), I.on w → FactsOK ν I Xc → ItC P f (fun y => (bs.map (den0 ν)).toArray ++ #[y] ++ #[]) I w items
theorem ItQ.hit {cx : Cx} {S : St} {j : Nat} {items : List Item} (hj : Has S.X j (ItQ cx.P items)) : ∀ M ε I a w, SatM cx M ε I S a w → ∃ f fs cs, (SV.e (.a (.q j))).den ε = .func (.func f) fs cs ∧ Enters' cx.P f ∧ ∀ w2, I.on w2 → ItC cx.P f (fun y => fs ++ #[y] ++ cs) I w2 items := fun M ε I a w hs => by
  obtain ⟨f, fs, cs, h1, h2, h3⟩ := hs.has hj
  exact ⟨f, fs, cs, h1, h2, fun w2 h => h3 I w2 IH.le.rfl' h⟩
theorem SigI.hit {cx : Cx} {S : St} {f : FuncId} {items : List Item} (hs : SigI cx.P f [] [] items) (hen : Enters' cx.P f) : ∀ M ε I a w, SatM cx M ε I S a w → ∃ f' fs cs, (SV.e (.a (.f f []))).den ε = .func (.func f') fs cs ∧ Enters' cx.P f' ∧ ∀ w2, I.on w2 → ItC cx.P f' (fun y => fs ++ #[y] ++ cs) I w2 items := fun M ε I a w _ =>
  ⟨f, #[], #[], rfl, hen, fun w2 h => hs I w2 (fun _ => undef) h trivial⟩
theorem o_mkbit {cx : Cx} {S : St} {dst : Option Tmp} {ty : TypeId} {pos : String} {af : Array Edge} {gd : Option (Nat × Bool)} {P : Program} {f : FuncId} {l : List Operand} {bs svs : List SV} {Xc : List (Nat × Pred)} {items : List Item} (k : Nat) (ρ : Nat → Nat) (hs : SigJ P f bs Xc items) (hen : Enters' P f)
    (hl : S.ops l = some svs) (hren : SvsOK S svs (bs.map (SV.ren ρ))) (hwc : ∀ x ∈ bs, x.res (keys Xc)) (hX : RenOK S.X ρ Xc) :
    OpG cx S ⟨dst, .makeFunc (.func f) l.toArray #[], ty, pos, af, gd⟩ ⟨.e (.a (.q k)), [k], [(k, ItQ P items)], [], []⟩ :=
  o_mkfn (l' := []) hl rfl fun M ε I a w h => by
    rw [hren.den h, svs_ren hwc]
    exact ⟨f, _, _, rfl, hen, fun I' w' hle hon => hs I' w' _ hon (FactsOK.mono hle (FactsOK.of (fun j R hj => h.has hj) hX))⟩
theorem SigJ.intro {P : Program} {f : FuncId} {fn : Func} {c : Code} {bs : List SV} {Xc : List (Nat × Pred)} {items : List Item} (hf : P.funcs[f]? = some fn) (hb : fn.body = some c) (n ky : Nat) (hwf : ∀ x ∈ bs, x.res (keys Xc)) (hn : (keys Xc).all (Nat.blt · n) = true) (hky : Nat.blt ky n = true) (hN : Nat.ble (bs.length + 1) fn.ntmps = true)
    (h : ∀ (I : IH) (w : World) (l : Nat) (Y : Nat → YI w.heap.size) (K : YI w.heap.size) (F0 : Nat → Prop),
      (∀ i it, items[i]? = some it → ∀ F I' w' us vs, (Y i).J F I' w' → I.le I' → I'.on w' → w.heap.size ≤ w'.heap.size → (∀ b, F0 b → F b) → it.ok F I' w' us vs → RoundR P l vs w.heap.size F I' w' (Y (i + 1)) K) →
      WP ⟨P, none, w, fn.ntmps, F0, I, 0, fun _ => 0, fun _ => undef⟩ ⟨n, frOf 0 (bs ++ [SV.e (.a (.v (yv l)))]), Xc, [(ky, .ext ((Y 0).xp F0))], [], []⟩ c (PostI P fn (ItR I w F0 fun F' I' w' => (Y items.length).J F' I' w' ∨ K.J F' I' w'))) :
    SigJ P f bs Xc items := fun I w ν hI hX l Y K F0 hY hround => by
  have hky' : ky < n := by rw [Nat.blt_eq] at hky; exact hky
  refine It.intro hf hb hI hY ν (bs ++ [SV.e (.a (.v (yv l)))]) Xc n ky _ rfl ?_ hX ?_ (fun k hk => by simpa [Nat.blt_eq] using List.all_eq_true.1 hn k hk) hky' (by simpa using hN) (h I w l Y K F0 hround)
  · show _ = ((bs ++ [SV.e (.a (.v (yv l)))]).map (den0 ν)).toArray
    rw [List.map_append]
    simp [den0, SV.den, El.den, At.den]
  · intro x hx
    rcases List.mem_append.1 hx with hx | hx
    · exact hwf x hx
    · rw [List.mem_singleton] at hx; subst hx; trivial
section
variable {cx : Cx} {Q : Exit → Act → World → Prop} {g : Operand} {ps : List Tmp} {assign body : Code} {j : Nat} {items : List Item} {fid : FuncId}
variable {n : Nat} {fr : List (Nat × SV)} {X : List (Nat × Pred)} {L : List (Nat × Ent)} {D : List Nat} {G : List (Nat × Bool)}
theorem WP.rangeV {fv : SV} (m q N : Nat) (gI : Nat → Item) (Sg : Nat → St) (Kx : Code → St → Prop) (hr : cx.r = none) (hg : St.op ⟨n, fr, X, L, D, G⟩ g = some fv)
    (hv : ∀ M ε I a w, SatM cx M ε I ⟨n, fr, X, L, D, G⟩ a w → ∃ f fs cs, fv.den ε = .func (.func f) fs cs ∧ Enters' cx.P f ∧ ∀ w2, I.on w2 → ItC cx.P f (fun y => fs ++ #[y] ++ cs) I w2 items) (hit : items = (List.range N).map gI)
    (hst : ∀ i, RSt fr (n :: D) m (n + 1) (Sg i)) (hkx : ∀ c T, Kx c T → RSt fr (n :: D) m (n + 1) T) (hfr : fr.all (fun p => p.2.kbp (n + 2)) = true) (hD : (n :: D).all (Nat.blt · (n + 2)) = true) (hm : Nat.ble (n + 2) m = true)
    (hitem : ∀ i, i < N → ItemOK q ps (gI i)) (hnd : nodupb ps = true) (hps : ps.all (Nat.blt · cx.N) = true)
    (ρ : Nat → Nat) (h0 : LeR (n + 2) ⟨n + 2, fr, X, (n, .ob (.deferred (some []))) :: L, n :: D, []⟩ (Sg 0) ρ)
    (round : ∀ i, i < N → ∀ (w0 : World) (E : Nat → Prop) (I0 : IH) (R1 : Loop) (pβ : Nat → Nat) (pν us : Nat → Value), WP ⟨cx.P, some (pβ (n + 1)), w0, cx.N, E, I0, n + 2, pβ, pν⟩ (roundSt m q (n + 1) ps (gI i) (Sg i) { R1 with state := .ready } us) assign
      (AsgQ ⟨cx.P, some (pβ (n + 1)), w0, cx.N, E, I0, n + 2, pβ, pν⟩ (n + 1) { R1 with state := .ready } body (RndQ ⟨cx.P, some (pβ (n + 1)), w0, cx.N, E, I0, n + 2, pβ, pν⟩ (n + 1) { R1 with state := .busy } (Sg (i + 1)) Kx)))
    (hjump : ∀ c T, Kx c T → WP cx T c Q) (hnorm : EX cx (Sg N) .normal Q) : WP cx ⟨n, fr, X, L, D, G⟩ (.rangeFunc g ps.toArray assign body) Q := by
  subst hit
  exact WP.range hr (Rng.ofG hst hkx hfr hD hm hitem hnd hps round) hg hv ρ h0 (by simpa using hnorm) hjump
end
section
variable {cx : Cx} {n : Nat} {fr : List (Nat × SV)} {X : List (Nat × Pred)} {L : List (Nat × Ent)} {D : List Nat} {G : List (Nat × Bool)}
theorem Imp.fact (k : Nat) {R R' : Pred} (hk : Has X k R) (h : ∀ I v, R.h I v → R'.h I v) : Imp cx ⟨n, fr, X, L, D, G⟩ ⟨n, fr, (k, R') :: X, L, D, G⟩ := fun ε I a w hs => by
  have h0 := hs.has hk
  obtain ⟨R0, h1, h2⟩ := hk
  refine ⟨ε, I, { hs with wfX := fun j R hj => ?_, X := fun j R hj => ?_ }⟩
  · have hj : look j ((k, R') :: X) = some R := hj
    rw [look_cons] at hj
    by_cases h : k = j
    · subst h; exact hs.wfX k _ h1
    · simp [h] at hj; exact hs.wfX j R hj
  · have hj : look j ((k, R') :: X) = some R := hj
    rw [look_cons] at hj
    by_cases h3 : k = j
    · subst h3; simp at hj; subst hj; exact h _ _ h0
    · simp [h3] at hj; exact hs.X j R hj
end
end Go.Eng
namespace Go.Flong
open Go Go.Eng
def cmpI (a b : Int) : Int := if a < b then -1 else if b < a then 1 else 0
def cmpL : List Int → List Int → Int
  | [], [] => 0
  | [], _ :: _ => -1
  | _ :: _, [] => 1
  | x :: a, y :: b => if cmpI x y = 0 then cmpL a b else cmpI x y
theorem cmpI_eq {a b : Int} : cmpI a b = 0 ↔ a = b := by unfold cmpI; split; omega; split <;> omega
theorem nthSc {α : Type} [Inhabited α] {b : α} {t : List α} {j : Nat} : nth (b :: t) ((j + 1 : Nat) : Int) = nth t (j : Int) := by
  have e : ((j + 1 : Nat) : Int).toNat = j + 1 := by omega
  have e2 : ((j : Nat) : Int).toNat = j := by omega
  simp only [nth, e, e2, List.getD_cons_succ]
theorem cmpL_drop : ∀ {i : Nat} {a b : List Int}, allI (sameAt a b) i = true → i ≤ a.length → i ≤ b.length → cmpL a b = cmpL (a.drop i) (b.drop i)
  | 0, _, _, _, _, _ => by simp
  | i + 1, [], _, _, h, _ => by simp at h
  | i + 1, _ :: _, [], _, _, h => by simp at h
  | i + 1, x :: a, y :: b, h, h1, h2 => by
    have h0 := allI_iff.1 h 0 (by omega)
    have e : x = y := by simpa [sameAt, nth] using h0
    have := cmpL_drop (i := i) (a := a) (b := b) (allI_iff.2 fun j hj => by
      have := allI_iff.1 h (j + 1) (by omega)
      simpa only [sameAt, nthSc] using this) (by simpa using h1) (by simpa using h2)
    simp only [cmpL, if_pos (cmpI_eq.2 e), List.drop_succ_cons, this]
theorem drop_at {l : List Int} {i : Nat} (h : i < l.length) : l.drop i = nth l i :: l.drop (i + 1) := by
  rw [nthN h]; exact List.drop_eq_getElem_cons h
theorem cmpL_at {i : Nat} {a b : List Int} (h : allI (sameAt a b) i = true) (h1 : i < a.length) (h2 : i < b.length) (hne : cmpI (nth a i) (nth b i) ≠ 0) : cmpL a b = cmpI (nth a i) (nth b i) := by
  rw [cmpL_drop h (by omega) (by omega), drop_at h1, drop_at h2]
  simp only [cmpL, if_neg hne]
theorem cmpL_long {i : Nat} {a b : List Int} (h : allI (sameAt a b) i = true) (h1 : i < a.length) (h2 : i = b.length) : cmpL a b = 1 := by
  rw [cmpL_drop h (by omega) (by omega), drop_at h1, List.drop_of_length_le (show b.length ≤ i by omega)]; rfl
theorem cmpL_short {i : Nat} {a b : List Int} (h : allI (sameAt a b) i = true) (h1 : i = a.length) (h2 : i < b.length) : cmpL a b = -1 := by
  rw [cmpL_drop h (by omega) (by omega), drop_at h2, List.drop_of_length_le (show a.length ≤ i by omega)]; rfl
theorem cmpL_same {i : Nat} {a b : List Int} (h : allI (sameAt a b) i = true) (h1 : i = a.length) (h2 : i = b.length) : cmpL a b = 0 := by
  rw [cmpL_drop h (by omega) (by omega), List.drop_of_length_le (show b.length ≤ i by omega), List.drop_of_length_le (show a.length ≤ i by omega)]; rfl
theorem cmpI_refl (a : Int) : cmpI a a = 0 := cmpI_eq.2 rfl
theorem cmpI_lt {a b : Int} : cmpI a b < 0 ↔ a < b := by unfold cmpI; split; omega; split <;> omega
theorem cmpL_refl : ∀ a : List Int, cmpL a a = 0
  | [] => rfl
  | x :: a => by rw [cmpL, if_pos (cmpI_refl x), cmpL_refl a]
theorem cmpL_trans : ∀ {a b c : List Int}, cmpL a b < 0 → cmpL b c ≤ 0 → cmpL a c < 0
  | [], [], _, h, _ => by simp [cmpL] at h
  | [], _ :: _, [], _, h => by simp [cmpL] at h
  | [], _ :: _, _ :: _, _, _ => by simp [cmpL]
  | _ :: _, [], _, h, _ => by simp [cmpL] at h
  | _ :: _, _ :: _, [], _, h => by simp [cmpL] at h
  | x :: a, y :: b, z :: c, h1, h2 => by
    simp only [cmpL] at h1 h2 ⊢
    by_cases e1 : cmpI x y = 0
    · rw [if_pos e1] at h1
      have e := cmpI_eq.1 e1
      subst e
      by_cases e2 : cmpI x z = 0
      · rw [if_pos e2] at h2 ⊢; exact cmpL_trans h1 h2
      · rw [if_neg e2] at h2 ⊢; omega
    · rw [if_neg e1] at h1
      have l1 := cmpI_lt.1 h1
      by_cases e2 : cmpI y z = 0
      · have e := cmpI_eq.1 e2
        subst e
        rw [if_neg e1]; exact h1
      · rw [if_neg e2] at h2
        have l2 := cmpI_lt.1 (show cmpI y z < 0 by omega)
        have l3 := cmpI_lt.2 (show x < z by omega)
        rw [if_neg (by omega)]; exact l3
theorem cmpL_flip : ∀ {a b : List Int}, ¬ cmpL a b < 0 → cmpL b a ≤ 0
  | [], [], _ => by simp [cmpL]
  | [], _ :: _, h => by simp [cmpL] at h
  | _ :: _, [], _ => by simp [cmpL]
  | x :: a, y :: b, h => by
    simp only [cmpL] at h ⊢
    by_cases e1 : cmpI x y = 0
    · rw [if_pos e1] at h
      have e := cmpI_eq.1 e1
      subst e
      rw [if_pos (cmpI_refl x)]; exact cmpL_flip h
    · rw [if_neg e1] at h
      have : ¬ x < y := fun g => h (cmpI_lt.2 g)
      have hne : x ≠ y := fun g => e1 (cmpI_eq.2 g)
      have l := cmpI_lt.2 (show y < x by omega)
      rw [if_neg (by omega)]; omega
end Go.Flong
namespace Go.Flong
open Go Go.Eng
structure Po where
  pounds : Int
  tl : Int
  th : Int
  al : Int
  ah : Int
def PoB (p : Po) : Prop := 0 ≤ p.pounds ∧ p.pounds ≤ 1000000 ∧ -1000000 ≤ p.tl ∧ p.tl ≤ 1000000 ∧ -1000000 ≤ p.th ∧ p.th ≤ 1000000 ∧ -1000000 ≤ p.al ∧ p.al ≤ 1000000 ∧ -1000000 ≤ p.ah ∧ p.ah ≤ 1000000
def Shop.aft (s : Shop) (add : List Int) : Po := ⟨s.pounds + sumOf Pig.pounds s.pigs add, s.tl + sumOf Pig.tin s.pigs add, s.th + sumOf Pig.tin s.pigs add, s.al + sumOf Pig.ant s.pigs add, s.ah + sumOf Pig.ant s.pigs add⟩
def Shop.failsP (s : Shop) (p : Po) (limit : Int) : Bool := if limit = 1 then decide (1000 * p.tl < p.pounds * s.tpl) else if limit = 2 then decide (p.pounds * s.tph < 1000 * p.th) else if limit = 3 then decide (1000 * p.al < p.pounds * s.apl) else decide (p.pounds * s.aph < 1000 * p.ah)
def Shop.safeP (s : Shop) (p : Po) : Bool := allI (fun j => !s.failsP p ((j : Int) + 1)) 4
def limItem (i : Nat) : Eng.Item := ⟨[.i ((i : Int) + 1)], [], []⟩
def limItems : List Eng.Item := (List.range 4).map limItem
theorem isAddB {s : Shop} (hs : PigsOK s.pigs) {l : List Int} (h : isAdd s l = true) : l.length = s.pigs.length ∧ bnd l 5 ∧ bnd l 1000 := by
  simp only [isAdd, Bool.and_eq_true, decide_eq_true_eq] at h
  have h0 : bnd l 5 := fun j hj => by
    have h1 := allI_iff.1 h.1.2 j hj
    have h2 := Pig.bnds (hs.at (show j < s.pigs.length by omega))
    simp [fitsMany, within] at h1; omega
  exact ⟨by omega, h0, fun j hj => by have := h0 j hj; omega⟩
theorem aft_bnd {s : Shop} (hs : s.chk = true) {l : List Int} (hl : l.length ≤ s.pigs.length) (hb : bnd l 1000) : PoB (s.aft l) := by
  have ht := tl_bnd hs
  have hp := Shop.pigsOK hs
  have h1 := sumOf_bnd (f := Pig.pounds) hp hl hb (fun p h => by have := Pig.bnds h; omega)
  have h2 := sumOf_bnd (f := Pig.tin) hp hl hb (fun p h => by have := Pig.bnds h; omega)
  have h3 := sumOf_bnd (f := Pig.ant) hp hl hb (fun p h => by have := Pig.bnds h; omega)
  unfold PoB Shop.aft
  simp only []
  omega
def Shop.manyL (s : Shop) : List Int := s.pigs.map Pig.many
def Shop.adBox (s : Shop) : List (List Int) := boxS s.manyL
def Shop.adL (s : Shop) : List (List Int) := s.adBox.filter (isAdd s)
def Shop.adIdx (s : Shop) (i : Nat) : Nat := ((s.adBox.take i).filter (isAdd s)).length
def adItem (row : List Int) : Eng.Item := ⟨[.e (.a (.q 0))], [(0, PL EP.int row)], []⟩
def Shop.adItems (s : Shop) : List Eng.Item := (List.range s.adL.length).map fun (i : Nat) => adItem (nth s.adL (i : Int))
theorem manyL_len (s : Shop) : s.manyL.length = s.pigs.length := by simp [Shop.manyL]
theorem manyL_nth {s : Shop} {j : Nat} (hj : j < s.pigs.length) : nth s.manyL j = (nth s.pigs j).many := by
  rw [nthN (by rw [manyL_len]; exact hj), nthN hj]; simp [Shop.manyL]
theorem manyL_pos {s : Shop} (hs : PigsOK s.pigs) : ∀ x ∈ s.manyL, 0 ≤ x := fun x hx => by
  obtain ⟨j, hj, rfl⟩ := List.mem_iff_getElem.1 hx
  rw [manyL_len] at hj
  rw [← nthN, manyL_nth hj]
  have := Pig.bnds (hs.at hj)
  omega
section
variable {s : Shop}
theorem adIdx_succ {i : Nat} (hi : i < s.adBox.length) : s.adIdx (i + 1) = s.adIdx i + if isAdd s (nth s.adBox i) then 1 else 0 := by
  rw [nthN hi]
  simp only [Shop.adIdx]
  rw [List.take_succ_eq_append_getElem hi, List.filter_append, List.length_append]
  congr 1
  by_cases h : isAdd s s.adBox[i] <;> simp [h]
theorem adIdx_at {i : Nat} (hi : i < s.adBox.length) (h : isAdd s (nth s.adBox i) = true) : s.adItems[s.adIdx i]? = some (adItem (nth s.adBox i)) := by
  rw [nthN hi] at h ⊢
  have h1 := filter_at hi h
  have h2 := (List.getElem?_eq_some_iff.1 h1).1
  rw [Shop.adItems, range_at (show s.adIdx i < s.adL.length from h2)]
  congr 2
  exact (nthN (show s.adIdx i < s.adL.length from h2)).trans (List.getElem?_eq_some_iff.1 h1).2
theorem adIdx_end : s.adIdx s.adBox.length = s.adItems.length := by
  simp [Shop.adIdx, Shop.adItems, Shop.adL]
theorem adBox_pos (hs : PigsOK s.pigs) : s.adBox[0]? = some (List.replicate s.pigs.length 0) := by
  obtain ⟨r, hr⟩ := boxS_hd (manyL_pos hs)
  rw [Shop.adBox, hr, manyL_len]; rfl
theorem adBox_row (hs : PigsOK s.pigs) {i : Nat} (hi : i < s.adBox.length) : (nth s.adBox (i : Int)).length = s.pigs.length ∧ bnd (nth s.adBox (i : Int)) 5 ∧ nth s.adBox (i : Int) ∈ s.adBox := by
  have hm : nth s.adBox (i : Int) ∈ s.adBox := by rw [nthN hi]; exact List.getElem_mem hi
  have h1 := boxS_len _ hm
  rw [manyL_len] at h1
  refine ⟨h1, fun j hj => ?_, hm⟩
  have h2 := boxS_bnd hm j (by rw [manyL_len]; omega)
  rw [manyL_nth (by omega)] at h2
  have := Pig.bnds (hs.at (show j < s.pigs.length by omega))
  omega
theorem ad_next (hs : PigsOK s.pigs) {i m : Nat} (hi : i < s.adBox.length) (heq : ∀ j : Nat, s.pigs.length - m ≤ j → j < s.pigs.length → nth (nth s.adBox (i : Int)) j = (nth s.pigs j).many) :
    (s.pigs.length ≤ m → i + 1 = s.adBox.length) ∧
    (m < s.pigs.length → nth (nth s.adBox (i : Int)) ((s.pigs.length : Int) - 1 - m) ≠ (nth s.pigs ((s.pigs.length : Int) - 1 - m)).many → i + 1 < s.adBox.length ∧
      lset (zr (nth s.adBox (i : Int)) m) ((s.pigs.length : Int) - 1 - m) (nth (zr (nth s.adBox (i : Int)) m) ((s.pigs.length : Int) - 1 - m) + 1) = nth s.adBox ((i + 1 : Nat) : Int)) := by
  obtain ⟨h1, _, h3⟩ := adBox_row hs hi
  have hok := OdoOK.at (boxS_ok (manyL_pos hs)) i hi
  have hr : (boxS s.manyL)[i]'hi = nth s.adBox (i : Int) := (nthN hi).symm
  rw [hr] at hok
  have hl := manyL_len s
  constructor
  · intro hm
    have h5 := odo_last (left := s.manyL) (x := nth s.adBox (i : Int)) (by rw [h1, hl]) (fun j hj => by
      rw [manyL_nth (by omega)]; exact heq j (by omega) (by omega))
    rw [h5] at hok
    by_cases h6 : i + 1 < (boxS s.manyL).length
    · rw [dif_pos h6] at hok; cases hok
    · have : s.adBox.length = (boxS s.manyL).length := rfl
      omega
  · intro hm hne
    have h5 := odo_zr (left := s.manyL) (x := nth s.adBox (i : Int)) (m := m) (by rw [h1, hl]) (by omega) (fun j hj hj2 => by
      rw [manyL_nth (by omega)]; exact heq j (by omega) (by omega)) (by
      rw [h1]
      have e : (s.pigs.length : Int) - 1 - m = ((s.pigs.length - 1 - m : Nat) : Int) := by omega
      rw [e] at hne ⊢
      rw [manyL_nth (by omega)]; exact hne)
    rw [h1] at h5
    rw [h5] at hok
    by_cases h6 : i + 1 < (boxS s.manyL).length
    · rw [dif_pos h6] at hok
      refine ⟨h6, ?_⟩
      rw [nthN (show i + 1 < s.adBox.length from h6)]
      exact Option.some.inj hok
    · rw [dif_neg h6] at hok; cases hok
theorem adL_at {i : Nat} (hi : i < s.adL.length) : isAdd s (nth s.adL (i : Int)) = true := by
  have : nth s.adL (i : Int) ∈ s.adL := by rw [nthN hi]; exact List.getElem_mem hi
  exact (List.mem_filter.1 this).2
end
def Shop.bestM (s : Shop) (g : List Int → List Int) : Nat → List Int × List Int
  | 0 => ([], [])
  | i + 1 => if s.safeP (s.aft (nth s.adL (i : Int))) && (decide (((Shop.bestM s g i).2.length : Int) = 0) || decide (cmpL (g (nth s.adL (i : Int))) (Shop.bestM s g i).2 < 0)) then (nth s.adL (i : Int), g (nth s.adL (i : Int))) else Shop.bestM s g i
def Shop.mBest (s : Shop) (g : List Int → List Int) : List Int × List Int := s.bestM g s.adL.length
def Shop.mE (s : Shop) (g : List Int → List Int) : Int := if s.chk then (if ((s.mBest g).2.length : Int) = 0 then 3 else 0) else 10
def Shop.mAdd (s : Shop) (g : List Int → List Int) : List Int := if s.mE g = 0 then (s.mBest g).1 else []
def Shop.mNum (s : Shop) (g : List Int → List Int) : List Int := if s.mE g = 0 then (s.mBest g).2 else []
def priceG (s : Shop) (add : List Int) : List Int := [sumOf Pig.pence s.pigs add, sumOf Pig.pounds s.pigs add]
def GOK (s : Shop) (g : List Int → List Int) : Prop := ∀ l, g l ≠ [] ∧ (g l).length ≤ 40
theorem price_ok (s : Shop) : GOK s (priceG s) := fun l => ⟨by simp [priceG], by simp [priceG]⟩
theorem bestM_len {s : Shop} {g : List Int → List Int} (hg : GOK s g) : ∀ i : Nat, (s.bestM g i).2.length ≤ 40
  | 0 => by simp [Shop.bestM]
  | i + 1 => by
    simp only [Shop.bestM]
    split
    · exact (hg _).2
    · exact bestM_len hg i
abbrev AdL (s : Shop) := { l : List Int // l.length = s.pigs.length ∧ bnd l 1000 }
instance (s : Shop) : Inhabited (AdL s) := ⟨⟨List.replicate s.pigs.length 0, by simp, fun j _ => by rw [nth_rep]; omega⟩⟩
def opE (s : Shop) (v : Bool) : Int := if s.chk then (if v then 0 else 1) else 10
def justL (part all : Int) : Int := (all * part + 1000 - 1).tdiv 1000
def justH (part all : Int) : Int := (all * part).tdiv 1000
def Shop.canM (s : Shop) (p : Po) : Bool := decide (max p.tl (justL s.tpl p.pounds) ≤ min p.th (justH s.tph p.pounds)) && decide (max p.al (justL s.apl p.pounds) ≤ min p.ah (justH s.aph p.pounds))
def Shop.mSafe (s : Shop) (add : List Int) : Int := if opE s (isAdd s add) = 0 then (if s.safeP (s.aft add) then 1 else if s.canM (s.aft add) then 3 else 2) else 0
end Go.Flong
namespace Go.Flong
open Go Go.Eng
def opV (v : Bool) : Int := bif v then 0 else 1
theorem opE_t {s : Shop} (h : s.chk = true) (v : Bool) : opE s v = opV v := by unfold opE opV; rw [h]; cases v <;> rfl
def po0 : Po := ⟨0, 0, 0, 0, 0⟩
def Shop.mCheap (s : Shop) : Int := if s.mE (priceG s) = 0 then nth (s.mNum (priceG s)) 0 else 0
theorem mE_eq {s : Shop} {g : List Int → List Int} (h : s.mE g = 0) : s.chk = true ∧ 0 < (s.mNum g).length := by
  have h0 := h
  unfold Shop.mE at h
  cases hc : s.chk with
  | false => rw [hc] at h; simp at h
  | true =>
    rw [hc] at h
    simp only [if_true] at h
    refine ⟨rfl, ?_⟩
    unfold Shop.mNum
    rw [if_pos h0]
    by_cases e : ((s.mBest g).2.length : Int) = 0
    · rw [if_pos e] at h; omega
    · omega
end Go.Flong
namespace Go.Flong
open Go Go.Eng
section
variable {s : Shop}
theorem mem_adL (hs : PigsOK s.pigs) {l : List Int} : l ∈ s.adL ↔ isAdd s l = true := by
  unfold Shop.adL
  rw [List.mem_filter]
  refine ⟨fun h => h.2, fun h => ⟨?_, h⟩⟩
  have h1 := h
  simp only [isAdd, Bool.and_eq_true, decide_eq_true_eq] at h1
  refine mem_boxS.2 ⟨by rw [manyL_len]; omega, fun j hj => ?_⟩
  rw [manyL_len] at hj
  have h2 := allI_iff.1 h1.1.2 j (by omega)
  simp only [fitsMany, within, Bool.and_eq_true, decide_eq_true_eq] at h2
  rw [manyL_nth hj]; exact h2
theorem adL_index (hs : PigsOK s.pigs) {l : List Int} (h : isAdd s l = true) : ∃ j : Nat, j < s.adL.length ∧ nth s.adL (j : Int) = l := by
  obtain ⟨j, hj, e⟩ := List.mem_iff_getElem.1 ((mem_adL hs).2 h)
  exact ⟨j, hj, by rw [nthN hj]; exact e⟩
def Shop.okM (s : Shop) (l : List Int) : Bool := isAdd s l && s.safeP (s.aft l)
theorem bestM_spec (g : List Int → List Int) (hg : GOK s g) : ∀ i : Nat, i ≤ s.adL.length → (s.bestM g i = ([], []) ∧ ∀ j : Nat, j < i → s.safeP (s.aft (nth s.adL (j : Int))) = false) ∨
    ∃ b : Nat, b < i ∧ s.bestM g i = (nth s.adL (b : Int), g (nth s.adL (b : Int))) ∧ s.safeP (s.aft (nth s.adL (b : Int))) = true ∧ ∀ j : Nat, j < i → s.safeP (s.aft (nth s.adL (j : Int))) = true → cmpL (g (nth s.adL (b : Int))) (g (nth s.adL (j : Int))) ≤ 0 ∧ (j < b → cmpL (g (nth s.adL (b : Int))) (g (nth s.adL (j : Int))) < 0)
  | 0, _ => .inl ⟨rfl, fun j hj => absurd hj (by omega)⟩
  | i + 1, hi => by
    have ih := bestM_spec g hg i (by omega)
    simp only [Shop.bestM]
    cases hs : s.safeP (s.aft (nth s.adL (i : Int))) with
    | false =>
      rw [Bool.false_and, if_neg (by simp)]
      rcases ih with ⟨h1, h2⟩ | ⟨b, h1, h2, h3, h4⟩
      · refine .inl ⟨h1, fun j hj => ?_⟩
        by_cases e : j = i
        · subst e; exact hs
        · exact h2 j (by omega)
      · refine .inr ⟨b, by omega, h2, h3, fun j hj hsj => ?_⟩
        by_cases e : j = i
        · subst e; rw [hs] at hsj; cases hsj
        · exact h4 j (by omega) hsj
    | true =>
      rw [Bool.true_and]
      rcases ih with ⟨h1, h2⟩ | ⟨b, h1, h2, h3, h4⟩
      · rw [h1, if_pos (by simp)]
        refine .inr ⟨i, by omega, rfl, hs, fun j hj hsj => ?_⟩
        by_cases e : j = i
        · subst e; rw [cmpL_refl]; exact ⟨Int.le_refl _, fun h => by omega⟩
        · rw [h2 j (by omega)] at hsj; cases hsj
      · rw [h2]
        by_cases hc : cmpL (g (nth s.adL (i : Int))) (g (nth s.adL (b : Int))) < 0
        · rw [if_pos (by simp [hc])]
          refine .inr ⟨i, by omega, rfl, hs, fun j hj hsj => ?_⟩
          by_cases e : j = i
          · subst e; rw [cmpL_refl]; exact ⟨Int.le_refl _, fun h => by omega⟩
          · have h5 := cmpL_trans hc (h4 j (by omega) hsj).1
            exact ⟨by omega, fun _ => h5⟩
        · have hne : (g (nth s.adL (b : Int))).length ≠ 0 := fun e => (hg _).1 (List.length_eq_zero_iff.1 e)
          rw [if_neg (by simp only [Bool.or_eq_true, decide_eq_true_eq]; rintro (h | h); omega; exact hc h)]
          refine .inr ⟨b, by omega, rfl, h3, fun j hj hsj => ?_⟩
          by_cases e : j = i
          · subst e; exact ⟨cmpL_flip hc, fun h => by omega⟩
          · exact h4 j (by omega) hsj
theorem least_specM (hs : s.chk = true) (g : List Int → List Int) (hg : GOK s g) : (s.mE g = 3 ∧ ∀ l, s.okM l = false) ∨
    (s.mE g = 0 ∧ s.okM (s.mAdd g) = true ∧ s.mNum g = g (s.mAdd g) ∧ ∀ l, s.okM l = true → cmpL (g (s.mAdd g)) (g l) ≤ 0) := by
  have hpg := Shop.pigsOK hs
  have hE : s.mE g = if ((s.mBest g).2.length : Int) = 0 then 3 else 0 := by unfold Shop.mE; rw [hs]; rfl
  rcases bestM_spec g hg s.adL.length (Nat.le_refl _) with ⟨h1, h2⟩ | ⟨b, h1, h2, h3, h4⟩
  · left
    refine ⟨by rw [hE]; unfold Shop.mBest; rw [h1]; rfl, fun l => ?_⟩
    unfold Shop.okM
    cases ha : isAdd s l with
    | false => rfl
    | true =>
      obtain ⟨j, hj, e⟩ := adL_index hpg ha
      have := h2 j hj
      rw [e] at this; rw [this]; rfl
  · right
    have hne : (g (nth s.adL (b : Int))).length ≠ 0 := fun e => (hg _).1 (List.length_eq_zero_iff.1 e)
    have hB : s.mBest g = (nth s.adL (b : Int), g (nth s.adL (b : Int))) := h2
    have hE0 : s.mE g = 0 := by rw [hE, hB]; exact if_neg (by simp only []; omega)
    have hA : s.mAdd g = nth s.adL (b : Int) := by unfold Shop.mAdd; rw [if_pos hE0, hB]
    have hN : s.mNum g = g (nth s.adL (b : Int)) := by unfold Shop.mNum; rw [if_pos hE0, hB]
    refine ⟨hE0, ?_, by rw [hA, hN], fun l hl => ?_⟩
    · rw [hA]; unfold Shop.okM; rw [adL_at h1, h3]; rfl
    · unfold Shop.okM at hl
      rw [Bool.and_eq_true] at hl
      obtain ⟨j, hj, e⟩ := adL_index hpg hl.1
      have := (h4 j hj (by rw [e]; exact hl.2)).1
      rw [e] at this; rw [hA]; exact this
theorem price_le {a b : List Int} (h : cmpL (priceG s a) (priceG s b) ≤ 0) : sumOf Pig.pence s.pigs a < sumOf Pig.pence s.pigs b ∨ (sumOf Pig.pence s.pigs a = sumOf Pig.pence s.pigs b ∧ sumOf Pig.pounds s.pigs a ≤ sumOf Pig.pounds s.pigs b) := by
  unfold priceG at h
  simp only [cmpL] at h
  by_cases e1 : cmpI (sumOf Pig.pence s.pigs a) (sumOf Pig.pence s.pigs b) = 0
  · rw [if_pos e1] at h
    refine .inr ⟨cmpI_eq.1 e1, ?_⟩
    by_cases e2 : cmpI (sumOf Pig.pounds s.pigs a) (sumOf Pig.pounds s.pigs b) = 0
    · have := cmpI_eq.1 e2; omega
    · rw [if_neg e2] at h
      have := cmpI_lt.1 (show cmpI (sumOf Pig.pounds s.pigs a) (sumOf Pig.pounds s.pigs b) < 0 by omega)
      omega
  · rw [if_neg e1] at h
    exact .inl (cmpI_lt.1 (by omega))
theorem cheap_spec (hs : s.chk = true) : (s.mE (priceG s) = 3 ∧ s.mCheap = 0 ∧ ∀ l, s.okM l = false) ∨
    (s.mE (priceG s) = 0 ∧ s.okM (s.mAdd (priceG s)) = true ∧ s.mCheap = sumOf Pig.pence s.pigs (s.mAdd (priceG s)) ∧ ∀ l, s.okM l = true → s.mCheap ≤ sumOf Pig.pence s.pigs l) := by
  rcases least_specM hs (priceG s) (price_ok s) with ⟨h1, h2⟩ | ⟨h1, h2, h3, h4⟩
  · exact .inl ⟨h1, by unfold Shop.mCheap; rw [h1]; rfl, h2⟩
  · have e : s.mCheap = sumOf Pig.pence s.pigs (s.mAdd (priceG s)) := by
      unfold Shop.mCheap; rw [if_pos h1, h3]; rfl
    refine .inr ⟨h1, h2, e, fun l hl => ?_⟩
    rcases price_le (h4 l hl) with h | ⟨h, _⟩ <;> omega
theorem safeP_iff {p : Po} : s.safeP p = true ↔ p.pounds * s.tpl ≤ 1000 * p.tl ∧ 1000 * p.th ≤ p.pounds * s.tph ∧ p.pounds * s.apl ≤ 1000 * p.al ∧ 1000 * p.ah ≤ p.pounds * s.aph := by
  unfold Shop.safeP
  rw [allI_iff]
  constructor
  · intro h
    have h0 := h 0 (by omega)
    have h1 := h 1 (by omega)
    have h2 := h 2 (by omega)
    have h3 := h 3 (by omega)
    simp only [Shop.failsP, Bool.not_eq_true'] at h0 h1 h2 h3
    simp at h0 h1 h2 h3
    omega
  · rintro ⟨h0, h1, h2, h3⟩ j hj
    have : j = 0 ∨ j = 1 ∨ j = 2 ∨ j = 3 := by omega
    rcases this with rfl | rfl | rfl | rfl <;> simp [Shop.failsP] <;> omega
theorem justL_iff {part all T : Int} (h1 : 0 ≤ part) (h2 : 0 ≤ all) : justL part all ≤ T ↔ all * part ≤ 1000 * T := by
  have h3 := Int.mul_nonneg h2 h1
  unfold justL
  rw [Int.tdiv_eq_ediv_of_nonneg (by omega)]
  omega
theorem justH_iff {part all T : Int} (h1 : 0 ≤ part) (h2 : 0 ≤ all) : T ≤ justH part all ↔ 1000 * T ≤ all * part := by
  have h3 := Int.mul_nonneg h2 h1
  unfold justH
  rw [Int.tdiv_eq_ediv_of_nonneg h3]
  omega
end
end Go.Flong
namespace Go.Flong
open Go Go.Eng
def calmTo (l : List Night) : Nat → List Night
  | 0 => l
  | i + 1 => lset (calmTo l i) i { lo := 0, hi := 0, test := (nth (calmTo l i) (i : Int)).test }
theorem calmTo_len (l : List Night) : ∀ i, (calmTo l i).length = l.length
  | 0 => rfl
  | i + 1 => by rw [calmTo, lset_len, calmTo_len l i]
def Fnd.calm (f : Fnd) : Fnd := { f with nights := calmTo f.nights f.nights.length }
def Fnd.calmPlan (f : Fnd) (add : List Int) : List (List Int) := lset (List.replicate f.nights.length (List.replicate f.shop.pigs.length 0)) 0 add
theorem calmPlan_len (f : Fnd) (add : List Int) : (f.calmPlan add).length = f.nights.length := by unfold Fnd.calmPlan; rw [lset_len]; simp
structure CalmLaw (f : Fnd) (add : List Int) : Prop where
  o : f.calm.chk = true
  e : f.calm.leastE costG = f.shop.mE (priceG f.shop)
  c : f.calm.leastV costG = f.shop.mCheap
  n : isAdd f.shop add = false → f.calm.wOpen (f.calm.wPlan (f.calmPlan add)) = 1
  y : isAdd f.shop add = true → f.calm.wOpen (f.calm.wPlan (f.calmPlan add)) = 0 ∧ f.calm.wSafeV (f.calmPlan add) = f.shop.mSafe add
end Go.Flong
namespace Go.Flong
open Go Go.Eng
theorem calmTo_nth (l : List Night) : ∀ (n : Nat) (j : Nat), n ≤ l.length → nth (calmTo l n) j = if j < n then { lo := 0, hi := 0, test := (nth l j).test } else nth l j
  | 0, j, _ => by simp [calmTo]
  | n + 1, j, hn => by
    rw [calmTo, nth_lset' (by rw [calmTo_len]; omega), calmTo_nth l n n (by omega), if_neg (Nat.lt_irrefl _), calmTo_nth l n j (by omega)]
    by_cases e : j = n
    · subst e; rw [if_pos rfl, if_pos (by omega)]
    · rw [if_neg e]
      by_cases h : j < n
      · rw [if_pos h, if_pos (by omega)]
      · rw [if_neg h, if_neg (by omega)]
theorem calm_len (f : Fnd) : f.calm.nights.length = f.nights.length := calmTo_len _ _
theorem calm_nth (f : Fnd) {i : Nat} (hi : i < f.nights.length) : nth f.calm.nights i = { lo := 0, hi := 0, test := (nth f.nights i).test } := by
  unfold Fnd.calm; rw [calmTo_nth _ _ _ (Nat.le_refl _), if_pos hi]
theorem calm_lo (f : Fnd) : ∀ n : Nat, n ≤ f.nights.length → loTo f.calm.nights n = 0 ∧ hiTo f.calm.nights n = 0
  | 0, _ => ⟨rfl, rfl⟩
  | n + 1, hn => by
    have ih := calm_lo f n (by omega)
    simp only [loTo, hiTo, calm_nth f (show n < f.nights.length by omega)]
    omega
theorem plus_zeros {n : Nat} {x : List Int} (h : x.length = n) : plus (List.replicate n 0) x = x := by
  refine nth_ext (by rw [plus_len]; simp [h]) fun j hj => ?_
  rw [plus_len] at hj
  rw [nth_plus hj, nth_rep]; omega
theorem zeros_plus {n : Nat} {x : List Int} (h : x.length = n) : plus x (List.replicate n 0) = x := by
  refine nth_ext (by rw [plus_len]) fun j hj => ?_
  rw [plus_len] at hj
  rw [nth_plus hj, nth_rep]; omega
theorem lims {a b c d tl th al ah : Int} (ht : tl ≤ th) (ha : al ≤ ah) (h1 : a ≤ 1000 * tl) (h2 : 1000 * th ≤ b) (h3 : c ≤ 1000 * al) (h4 : 1000 * ah ≤ d) : (a ≤ 1000 * tl ∧ 1000 * tl ≤ b ∧ c ≤ 1000 * al ∧ 1000 * al ≤ d) ∧ a ≤ 1000 * th ∧ 1000 * th ≤ b ∧ c ≤ 1000 * ah ∧ 1000 * ah ≤ d := by omega
section
variable {f : Fnd} {add : List Int}
theorem calm_chk (hf : f.chk = true) : f.calm.chk = true := by
  have hb := tl_bnd (Fnd.shopOK hf)
  refine chk_of (show f.shop.chk = true from Fnd.shopOK hf) (by rw [calm_len]; exact (Fnd.chkB hf).2) (fun i hi => ?_) ?_
  · rw [calm_len] at hi
    rw [calm_nth f hi]
    have := Night.bnds ((Fnd.nightsOK hf).at hi)
    simp only [Night.chk, isSpan, within, Bool.and_eq_true, decide_eq_true_eq]
    omega
  · rw [calm_len, (calm_lo f _ (Nat.le_refl _)).2]
    show 0 ≤ f.shop.tl
    omega
theorem calm_safe (hf : f.chk = true) {p : List (List Int)} {i : Nat} (hi : i < f.nights.length) : f.calm.safeAt p i = f.shop.safeP (f.shop.aft (upTo f.shop.pigs.length p (i + 1))) := by
  have hb := tl_bnd (Fnd.shopOK hf)
  have hl := calm_lo f i (by omega)
  rw [Bool.eq_iff_iff, safeP_iff]
  show f.calm.safeOn f.shop.tl f.shop.th f.shop.al f.shop.ah (loTo f.calm.nights i) (hiTo f.calm.nights i) (upTo f.shop.pigs.length p (i + 1)) = true ↔ _
  rw [hl.1, hl.2, safeOn_iff]
  constructor
  · intro h
    have h0 := h 0 (by omega)
    rw [keeps4_iff, keeps4_iff] at h0
    show (f.shop.pounds + _) * f.shop.tpl ≤ 1000 * (f.shop.tl + _) ∧ 1000 * (f.shop.th + _) ≤ (f.shop.pounds + _) * f.shop.tph ∧ (f.shop.pounds + _) * f.shop.apl ≤ 1000 * (f.shop.al + _) ∧ 1000 * (f.shop.ah + _) ≤ (f.shop.pounds + _) * f.shop.aph
    have e : ∀ x : Int, x - (0 + ((0 : Nat) : Int)) = x := fun x => by omega
    simp only [e] at h0
    exact ⟨h0.1.1, h0.2.2.1, h0.1.2.2.1, h0.2.2.2.2⟩
  · intro h j hj
    have e : ∀ x : Int, x - (0 + (j : Int)) = x := fun x => by omega
    simp only [e]
    rw [keeps4_iff, keeps4_iff]
    exact lims (show f.shop.tl + sumOf Pig.tin f.shop.pigs (upTo f.shop.pigs.length p (i + 1)) ≤ f.shop.th + sumOf Pig.tin f.shop.pigs (upTo f.shop.pigs.length p (i + 1)) by omega) (show f.shop.al + sumOf Pig.ant f.shop.pigs (upTo f.shop.pigs.length p (i + 1)) ≤ f.shop.ah + sumOf Pig.ant f.shop.pigs (upTo f.shop.pigs.length p (i + 1)) by omega) h.1 h.2.1 h.2.2.1 h.2.2.2
theorem calmPlan_nth (h0 : 0 < f.nights.length) {i : Nat} (hi : i < f.nights.length) : nth (f.calmPlan add) i = if i = 0 then add else List.replicate f.shop.pigs.length 0 := by
  unfold Fnd.calmPlan
  have := nth_lset' (l := List.replicate f.nights.length (List.replicate f.shop.pigs.length (0 : Int))) (i := 0) (x := add) (by simpa using h0) i
  rw [show ((0 : Nat) : Int) = 0 from rfl] at this
  rw [this]
  split
  · rfl
  · rw [nth_replicate (by omega) (by omega)]
theorem calm_upTo (h0 : 0 < f.nights.length) (hl : add.length = f.shop.pigs.length) : ∀ i : Nat, i < f.nights.length → upTo f.shop.pigs.length (f.calmPlan add) (i + 1) = add
  | 0, hi => by
    rw [upTo, calmPlan_nth h0 hi, if_pos rfl]
    exact plus_zeros hl
  | i + 1, hi => by
    rw [upTo, calm_upTo h0 hl i (by omega), calmPlan_nth h0 hi, if_neg (by omega)]
    exact zeros_plus hl
theorem calm_first (hf : f.chk = true) (h0 : 0 < f.nights.length) {p : List (List Int)} (h : f.calm.isPlan p = true) : isAdd f.shop (nth p ((0 : Nat) : Int)) = true ∧ upTo f.shop.pigs.length p 1 = nth p ((0 : Nat) : Int) := by
  have hB := Fnd.planB (calm_chk hf) h
  have hn := calm_len f
  have hl : (nth p ((0 : Nat) : Int)).length = f.shop.pigs.length := (hB.2 0 (by have := hB.1; omega)).1
  have hu : upTo f.shop.pigs.length p 1 = nth p ((0 : Nat) : Int) := plus_zeros hl
  simp only [Fnd.isPlan, Bool.and_eq_true, decide_eq_true_eq, allI_iff] at h
  have h1 := h.2 0 (by have := hB.1; omega)
  unfold Fnd.fitsAt at h1
  rw [show f.calm.shop.pigs.length = f.shop.pigs.length from rfl, show (0 : Nat) + 1 = 1 from rfl, hu, (calm_lo f 0 (by omega)).1] at h1
  refine ⟨?_, hu⟩
  have e : f.calm.less 0 = f.shop := by
    show ({ f.shop with pounds := f.shop.pounds - 0, tl := f.shop.tl - 0, th := f.shop.th - 0 } : Shop) = f.shop
    simp only [Int.sub_zero]
  rw [e] at h1; exact h1
theorem calm_isPlan (hf : f.chk = true) (h0 : 0 < f.nights.length) : f.calm.isPlan (f.calmPlan add) = isAdd f.shop add := by
  rw [Bool.eq_iff_iff]
  constructor
  · intro h
    have := (calm_first hf h0 h).1
    rwa [calmPlan_nth h0 h0, if_pos rfl] at this
  · intro h
    have hpg := Shop.pigsOK (Fnd.shopOK hf)
    have h1 := h
    simp only [isAdd, Bool.and_eq_true, decide_eq_true_eq] at h1
    have hl : add.length = f.shop.pigs.length := by omega
    simp only [Fnd.isPlan, Bool.and_eq_true, decide_eq_true_eq, allI_iff]
    refine ⟨⟨by rw [calmPlan_len, calm_len], fun i hi => ?_⟩, fun i hi => ?_⟩
    · rw [calmPlan_len] at hi
      unfold rowOK
      rw [calmPlan_nth h0 hi, Bool.and_eq_true, decide_eq_true_eq]
      split
      · exact ⟨h1.1.1, h1.1.2⟩
      · refine ⟨by simp; rfl, allI_iff.2 fun j hj => ?_⟩
        simp only [fitsMany, within, Bool.and_eq_true, decide_eq_true_eq]
        rw [nth_rep]
        have := Pig.bnds (hpg.at (show j < f.shop.pigs.length by simpa using hj))
        show _ ∧ 0 ≤ (nth f.shop.pigs (j : Int)).many
        omega
    · rw [calmPlan_len] at hi
      unfold Fnd.fitsAt
      rw [show f.calm.shop.pigs.length = f.shop.pigs.length from rfl, calm_upTo h0 hl i hi, (calm_lo f i (by omega)).1]
      have e : f.calm.less 0 = f.shop := by
        show ({ f.shop with pounds := f.shop.pounds - 0, tl := f.shop.tl - 0, th := f.shop.th - 0 } : Shop) = f.shop
        simp only [Int.sub_zero]
      rw [e]; exact h
theorem calm_cost (h0 : 0 < f.nights.length) : gcost costG f.shop.pigs (f.calmPlan add) = sumOf Pig.pence f.shop.pigs add := by
  obtain ⟨m, hm⟩ : ∃ m, f.nights.length = m + 1 := ⟨f.nights.length - 1, by omega⟩
  have e : f.calmPlan add = add :: List.replicate m (List.replicate f.shop.pigs.length 0) := by
    unfold Fnd.calmPlan; rw [hm, List.replicate_succ]; rfl
  have hz : ∀ m : Nat, gcost costG f.shop.pigs (List.replicate m (List.replicate f.shop.pigs.length 0)) = 0 := by
    intro m
    induction m with
    | zero => rfl
    | succ m ih => rw [List.replicate_succ, gcost, ih, costG, sumOf_zero]; rfl
  rw [e, gcost, hz, costG]; omega
theorem calm_plan_ok (hf : f.chk = true) (h0 : 0 < f.nights.length) : f.calmPlan add ∈ f.calm.allPlans ↔ f.shop.okM add = true := by
  rw [mem_allPlans (calm_chk hf), calm_isPlan hf h0, calm_len]
  unfold Shop.okM
  rw [Bool.and_eq_true]
  constructor
  · rintro ⟨h1, h2⟩
    have := h2 0 h0
    have h3 := h1
    simp only [isAdd, Bool.and_eq_true, decide_eq_true_eq] at h3
    rw [calm_safe hf h0, calm_upTo h0 (by omega) 0 h0] at this
    exact ⟨h1, this⟩
  · rintro ⟨h1, h2⟩
    have h3 := h1
    simp only [isAdd, Bool.and_eq_true, decide_eq_true_eq] at h3
    refine ⟨h1, fun i hi => ?_⟩
    rw [calm_safe hf hi, calm_upTo h0 (by omega) i hi]; exact h2
theorem calm_holds (hf : f.chk = true) (h0 : 0 < f.nights.length) (hl : add.length = f.shop.pigs.length) (t a : Int) : ∀ n : Nat, n ≤ f.nights.length → (f.calm.holds (f.calmPlan add) t a n 0 = true ↔ n = 0 ∨ f.calm.keeps t a 0 add = true)
  | 0, _ => by simp [Fnd.holds]
  | n + 1, hn => by
    have ih := calm_holds hf h0 hl t a n (by omega)
    have e1 : f.calm.nights.length - n = (f.nights.length - (n + 1)) + 1 := by rw [calm_len]; omega
    have e2 : f.calm.nights.length - (n + 1) = f.nights.length - (n + 1) := by rw [calm_len]
    simp only [Fnd.holds, Bool.and_eq_true, not_allI_iff, Bool.not_eq_false', e1, e2]
    rw [show f.calm.shop.pigs.length = f.shop.pigs.length from rfl, calm_upTo h0 hl _ (by omega), calm_nth f (by omega)]
    simp only []
    constructor
    · rintro ⟨h1, _⟩; exact .inr h1
    · rintro (h | h)
      · omega
      · refine ⟨h, 0, by decide, ?_⟩
        have : f.calm.holds (f.calmPlan add) t a n 0 = true := ih.2 (.inr h)
        simpa using this
theorem calm_can (hf : f.chk = true) (h0 : 0 < f.nights.length) (ha : isAdd f.shop add = true) : f.calm.wCan (f.calmPlan add) = f.shop.canM (f.shop.aft add) := by
  have hs := Fnd.shopOK hf
  have hpg := Shop.pigsOK hs
  have hb := tl_bnd hs
  have had := isAddB hpg ha
  have hpl := Fnd.planB (calm_chk hf) (show f.calm.isPlan (f.calmPlan add) = true by rw [calm_isPlan hf h0]; exact ha)
  have hab := aft_bnd hs (by omega) had.2.2
  unfold PoB at hab
  rw [Bool.eq_iff_iff, wCan_iff hpl, calm_len]
  unfold Shop.canM
  rw [Bool.and_eq_true, decide_eq_true_eq, decide_eq_true_eq]
  have k : ∀ t a : Int, f.calm.keeps t a 0 add = true ↔ (f.shop.aft add).pounds * f.shop.tpl ≤ 1000 * (t + sumOf Pig.tin f.shop.pigs add) ∧ 1000 * (t + sumOf Pig.tin f.shop.pigs add) ≤ (f.shop.aft add).pounds * f.shop.tph ∧ (f.shop.aft add).pounds * f.shop.apl ≤ 1000 * (a + sumOf Pig.ant f.shop.pigs add) ∧ 1000 * (a + sumOf Pig.ant f.shop.pigs add) ≤ (f.shop.aft add).pounds * f.shop.aph := fun t a => by
    rw [Fnd.keeps, keeps4_iff]
    simp only [Int.sub_zero]; rfl
  have j1 := fun T : Int => justL_iff (part := f.shop.tpl) (all := (f.shop.aft add).pounds) (T := T) (by omega) (by omega)
  have j2 := fun T : Int => justH_iff (part := f.shop.tph) (all := (f.shop.aft add).pounds) (T := T) (by omega) (by omega)
  have j3 := fun T : Int => justL_iff (part := f.shop.apl) (all := (f.shop.aft add).pounds) (T := T) (by omega) (by omega)
  have j4 := fun T : Int => justH_iff (part := f.shop.aph) (all := (f.shop.aft add).pounds) (T := T) (by omega) (by omega)
  have e1 : (f.shop.aft add).tl = f.shop.tl + sumOf Pig.tin f.shop.pigs add := rfl
  have e2 : (f.shop.aft add).th = f.shop.th + sumOf Pig.tin f.shop.pigs add := rfl
  have e3 : (f.shop.aft add).al = f.shop.al + sumOf Pig.ant f.shop.pigs add := rfl
  have e4 : (f.shop.aft add).ah = f.shop.ah + sumOf Pig.ant f.shop.pigs add := rfl
  constructor
  · rintro ⟨t, a, h1, h2, h3, h4, h5⟩
    have h5 := (calm_holds hf h0 had.1 t a f.nights.length (Nat.le_refl _)).1 h5
    have h1 : f.shop.tl ≤ t := h1
    have h2 : t ≤ f.shop.th := h2
    have h3 : f.shop.al ≤ a := h3
    have h4 : a ≤ f.shop.ah := h4
    rcases h5 with h5 | h5
    · omega
    · obtain ⟨g1, g2, g3, g4⟩ := (k t a).1 h5
      have i1 := (j1 _).2 g1
      have i2 := (j2 _).2 g2
      have i3 := (j3 _).2 g3
      have i4 := (j4 _).2 g4
      omega
  · rintro ⟨h1, h2⟩
    refine ⟨max (f.shop.aft add).tl (justL f.shop.tpl (f.shop.aft add).pounds) - sumOf Pig.tin f.shop.pigs add, max (f.shop.aft add).al (justL f.shop.apl (f.shop.aft add).pounds) - sumOf Pig.ant f.shop.pigs add, ?_, ?_, ?_, ?_, ?_⟩
    · show f.shop.tl ≤ _; omega
    · show _ ≤ f.shop.th; omega
    · show f.shop.al ≤ _; omega
    · show _ ≤ f.shop.ah; omega
    · refine (calm_holds hf h0 had.1 _ _ f.nights.length (Nat.le_refl _)).2 (.inr ((k _ _).2 ?_))
      rw [show max (f.shop.aft add).tl (justL f.shop.tpl (f.shop.aft add).pounds) - sumOf Pig.tin f.shop.pigs add + sumOf Pig.tin f.shop.pigs add = max (f.shop.aft add).tl (justL f.shop.tpl (f.shop.aft add).pounds) by omega, show max (f.shop.aft add).al (justL f.shop.apl (f.shop.aft add).pounds) - sumOf Pig.ant f.shop.pigs add + sumOf Pig.ant f.shop.pigs add = max (f.shop.aft add).al (justL f.shop.apl (f.shop.aft add).pounds) by omega]
      exact ⟨(j1 _).1 (by omega), (j2 _).1 (by omega), (j3 _).1 (by omega), (j4 _).1 (by omega)⟩
theorem calmLaw (hf : f.chk = true) (h0 : 0 < f.nights.length) : CalmLaw f add := by
  have hs := Fnd.shopOK hf
  have hc := calm_chk hf
  have hE : f.calm.leastE costG = f.shop.mE (priceG f.shop) ∧ f.calm.leastV costG = f.shop.mCheap := by
    have key : ∀ p ∈ f.calm.allPlans, f.shop.okM (nth p ((0 : Nat) : Int)) = true ∧ sumOf Pig.pence f.shop.pigs (nth p ((0 : Nat) : Int)) ≤ gcost costG f.shop.pigs p := fun p hp => by
      obtain ⟨g1, g2⟩ := (mem_allPlans hc).1 hp
      obtain ⟨g3, g4⟩ := calm_first hf h0 g1
      have g5 := g2 0 (by rw [calm_len]; exact h0)
      rw [calm_safe hf h0, g4] at g5
      refine ⟨by unfold Shop.okM; rw [g3, g5]; rfl, ?_⟩
      have hlen := (allPlans_mem hc hp).1
      rw [calm_len] at hlen
      match p, hlen with
      | [], hlen => simp at hlen; omega
      | r :: q, _ =>
        have hq : 0 ≤ gcost costG f.shop.pigs q := by
          have : ∀ q : List (List Int), (∀ x ∈ q, 0 ≤ costG (sumOf Pig.pence f.shop.pigs x) x) → 0 ≤ gcost costG f.shop.pigs q := by
            intro q
            induction q with
            | nil => intro _; simp [gcost]
            | cons x q ih =>
              intro h
              have h1 := h x List.mem_cons_self
              have h2 := ih fun y hy => h y (List.mem_cons_of_mem _ hy)
              simp only [gcost]; omega
          exact this q fun x hx => (row_cost hc costG_b hp (List.mem_cons_of_mem _ hx)).1
        show sumOf Pig.pence f.shop.pigs r ≤ gcost costG f.shop.pigs (r :: q)
        simp only [gcost, costG]; omega
    rcases cheap_spec hs with ⟨m1, m2, m3⟩ | ⟨m1, m2, m3, m4⟩
    · rcases least_spec hc costG with ⟨w1, w2⟩ | ⟨w1, w2, p, hp, _⟩
      · refine ⟨by rw [m1, w2], ?_⟩
        rw [m2]; unfold Fnd.leastV; rw [w2]; rfl
      · have := (key p hp).1
        rw [m3] at this; cases this
    · have hm := (calm_plan_ok (add := f.shop.mAdd (priceG f.shop)) hf h0).2 m2
      rcases least_spec hc costG with ⟨w1, w2⟩ | ⟨w1, w2, p, hp, _, w3, w4⟩
      · rw [w1] at hm; simp at hm
      · refine ⟨by rw [m1, w2], ?_⟩
        have h1 := w4 _ hm
        have h2 := calm_cost (f := f) (add := f.shop.mAdd (priceG f.shop)) h0
        have h3 := key p hp
        have h4 := m4 _ h3.1
        have e : f.calm.shop.pigs = f.shop.pigs := rfl
        rw [e] at h1 w3
        omega
  refine ⟨hc, hE.1, hE.2, fun h => ?_, fun h => ?_⟩
  · rw [wOpen_eq]
    unfold Fnd.openE
    rw [hc, calm_isPlan hf h0, h]; rfl
  · have ho : f.calm.openE (f.calmPlan add) = 0 := openE_ok hc (by rw [calm_isPlan hf h0]; exact h)
    refine ⟨by rw [wOpen_eq]; exact ho, ?_⟩
    have had := isAddB (Shop.pigsOK hs) h
    have hM : f.shop.mSafe add = if f.shop.safeP (f.shop.aft add) then 1 else if f.shop.canM (f.shop.aft add) then 3 else 2 := by
      unfold Shop.mSafe; rw [opE_t hs, h]; rfl
    have hsafe : (failsTo f.calm (f.calmPlan add) f.calm.nights.length).length = 0 ↔ f.shop.safeP (f.shop.aft add) = true := by
      constructor
      · intro g
        have := fails_none g (i := 0) (by rw [calm_len]; exact h0)
        rwa [calm_safe hf h0, calm_upTo h0 had.1 0 h0] at this
      · intro g
        cases hl : failsTo f.calm (f.calmPlan add) f.calm.nights.length with
        | nil => rfl
        | cons x t =>
          obtain ⟨i, hi, _, hx⟩ := (mem_failsTo (f := f.calm) (plan := f.calmPlan add) (x := x) f.calm.nights.length).1 (by rw [hl]; exact List.mem_cons_self)
          rw [calm_len] at hi
          rw [calm_safe hf hi, calm_upTo h0 had.1 i hi, g] at hx; cases hx
    rcases safeV_cases ho with ⟨g1, g2⟩ | ⟨g1, g2, g3⟩ | ⟨g1, g2, g3⟩
    · rw [g1, hM, if_pos (hsafe.1 g2)]
    · rw [g1, hM, if_neg (fun e => g2 (hsafe.2 e)), if_pos (by rw [← calm_can hf h0 h]; exact g3)]
    · rw [g1, hM, if_neg (fun e => g2 (hsafe.2 e)), if_neg (by rw [← calm_can hf h0 h, g3]; simp)]
end
end Go.Flong
namespace Go.Flong
open Go Go.Eng
section
variable {f : Fnd}
theorem rows_sub {s s' : Sp} (hs : SpIn s s') {before x : List Int} (hb : BefP f before) (hx : x ∈ f.rowsS s' before) : x ∈ f.rowsS s before := by
  obtain ⟨h1, h2, h3⟩ := (mem_rowsS hb).1 hx
  exact (mem_rowsS hb).2 ⟨h1, by have := hs.2.2; omega, safe_sub hs h3⟩
theorem next_sub (hf : f.chk = true) {s s' : Sp} (hs : SpIn s s') {i : Nat} (hi : i < f.nights.length) : SpIn (nextS f i s) (nextS f i s') := by
  have := Night.bnds ((Fnd.nightsOK hf).at hi)
  unfold SpIn at *
  simp only [nextS]; omega
theorem next_spOf (i : Nat) : nextS f i (spOf f (i : Int)) = spOf f ((i + 1 : Nat) : Int) := by
  simp only [nextS, spOf, Int.toNat_natCast, loTo, hiTo]
theorem now_le_plan (hf : f.chk = true) : ∀ (n night : Nat) (s : Sp) (before : List Int) (p : List (List Int)), night + n = f.nights.length → BefP f before → SpIn s (spOf f night) → p ∈ f.plansR n night before → f.now n night s before ≤ gcost costG f.shop.pigs p
  | 0, night, s, before, p, hn, hb, hs, hp => by
    simp only [Fnd.plansR, List.mem_singleton] at hp
    subst hp
    simp [Fnd.now, gcost]
  | n + 1, night, s, before, p, hn, hb, hs, hp => by
    have e3 : ((night : Int) + 1) = ((night + 1 : Nat) : Int) := by omega
    rw [plansR_succ, List.mem_flatMap] at hp
    obtain ⟨x, hx, hp⟩ := hp
    obtain ⟨q, hq, rfl⟩ := List.mem_map.1 hp
    rw [e3] at hq
    have hbx := rowsS_box hx
    have hpe := pence_pos (Shop.pigsOK (Fnd.shopOK hf)) hb hbx
    have key : ∀ s : Sp, SpIn s (spOf f night) → f.beh (f.now n ((night : Int) + 1)) night s before ≤ gcost costG f.shop.pigs (x :: q) := fun s hs => by
      have h1 := (beh_le (nx := f.now n ((night : Int) + 1)) (night := (night : Int))).2 x (rows_sub hs hb hx)
      have h2 := next_sub hf hs (i := night) (by omega)
      rw [next_spOf] at h2
      have ih := now_le_plan hf n (night + 1) (nextS f night s) (plus before x) q (by omega) (hb.next hbx) h2 hq
      simp only [gcost, costG]
      rw [e3] at h1 ⊢
      omega
    simp only [Fnd.now]
    split
    · exact key s hs
    · have h0 : 0 ≤ gcost costG f.shop.pigs (x :: q) := by
        have h1 := (mem_plansR n (night + 1) (plus before x) q).1 hq
        have : ∀ (k : Nat) (b : List Int) (q : List (List Int)), BefP f b → q ∈ f.plansR k ((night + 1 + (n - k) : Nat) : Int) b → 0 ≤ gcost costG f.shop.pigs q := by
          intro k
          induction k with
          | zero => intro b q _ h; simp [Fnd.plansR] at h; subst h; simp [gcost]
          | succ k ih =>
            intro b q hb2 h
            rw [plansR_succ, List.mem_flatMap] at h
            obtain ⟨y, hy, h⟩ := h
            obtain ⟨z, hz, rfl⟩ := List.mem_map.1 h
            have hpy := pence_pos (Shop.pigsOK (Fnd.shopOK hf)) hb2 (rowsS_box hy)
            have hz0 : 0 ≤ gcost costG f.shop.pigs z := by
              clear ih
              have : ∀ (m : Nat) (nt : Int) (b : List Int) (z : List (List Int)), BefP f b → z ∈ f.plansR m nt b → 0 ≤ gcost costG f.shop.pigs z := by
                intro m
                induction m with
                | zero => intro nt b z _ h; simp [Fnd.plansR] at h; subst h; simp [gcost]
                | succ m ih =>
                  intro nt b z hb3 h
                  rw [plansR_succ, List.mem_flatMap] at h
                  obtain ⟨u, hu, h⟩ := h
                  obtain ⟨v, hv, rfl⟩ := List.mem_map.1 h
                  have h1 := pence_pos (Shop.pigsOK (Fnd.shopOK hf)) hb3 (rowsS_box hu)
                  have h2 := ih _ _ v (hb3.next (rowsS_box hu)) hv
                  simp only [gcost, costG]; omega
              exact this _ _ _ z (hb2.next (rowsS_box hy)) hz
            simp only [gcost, costG]; omega
        have h3 := this n (plus before x) q (hb.next hbx) (by rw [Nat.sub_self, Nat.add_zero]; exact hq)
        simp only [gcost, costG]; omega
      refine worst3_le h0 fun t a d _ _ _ _ _ _ => key _ ?_
      unfold SpIn at *
      simp only []; omega
theorem now_at_plan (hf : f.chk = true) (ht : ∀ i : Nat, i < f.nights.length → (nth f.nights i).test = 0) : ∀ (n night : Nat) (before : List Int), night + n = f.nights.length → BefP f before → f.now n night (spOf f night) before = neverC ∨ ∃ p ∈ f.plansR n night before, f.now n night (spOf f night) before = gcost costG f.shop.pigs p
  | 0, night, before, hn, hb => .inr ⟨[], by simp [Fnd.plansR], rfl⟩
  | n + 1, night, before, hn, hb => by
    have e3 : ((night : Int) + 1) = ((night + 1 : Nat) : Int) := by omega
    simp only [Fnd.now]
    rw [if_pos (ht night (by omega))]
    have h0 := (beh_le (f := f) (nx := f.now n ((night : Int) + 1)) (night := (night : Int)) (s := spOf f night) (before := before)).1
    rcases beh_at (f := f) (nx := f.now n ((night : Int) + 1)) (night := (night : Int)) (s := spOf f night) (before := before) with h | ⟨r, hr, h⟩
    · exact .inl h
    · have hbx := rowsS_box hr
      have hpe := pence_pos (Shop.pigsOK (Fnd.shopOK hf)) hb hbx
      rw [next_spOf, e3] at h
      rw [e3] at h0 ⊢
      rcases now_at_plan hf ht n (night + 1) (plus before r) (by omega) (hb.next hbx) with h2 | ⟨q, hq, h2⟩
      · rw [h2] at h; exact .inl (by omega)
      · refine .inr ⟨r :: q, ?_, by rw [h, h2]; simp only [gcost, costG]; omega⟩
        rw [plansR_succ, List.mem_flatMap]
        exact ⟨r, hr, List.mem_map.2 ⟨q, by rw [e3]; exact hq, rfl⟩⟩
theorem spOf0 (hf : f.chk = true) : SpIn (spOf f ((0 : Nat) : Int)) (spOf f ((0 : Nat) : Int)) := by
  have := tl_bnd (Fnd.shopOK hf)
  unfold SpIn spOf; simp only [Int.toNat_natCast, loTo, hiTo]; omega
theorem knownN_spOf : f.knownN = f.now f.nights.length ((0 : Nat) : Int) (spOf f ((0 : Nat) : Int)) f.zeros := rfl
theorem known_le_cheap (hf : f.chk = true) : f.knownC ≤ f.cheapC := by
  unfold Fnd.cheapC
  rcases leastC_eq hf costG_b with ⟨_, _, h1⟩ | ⟨_, _, h1, h2, h3, p, hp, _, h4, _⟩
  · rw [h1]
    rcases knownC_eq hf with ⟨_, _, g⟩ | ⟨_, g2, _, _, g⟩ <;> omega
  · have := now_le_plan hf f.nights.length 0 (spOf f ((0 : Nat) : Int)) f.zeros p (by omega) (bef_zeros f) (spOf0 hf) hp
    rw [← knownN_spOf] at this
    rw [h1]
    have hn : neverC = 1073741824 := rfl
    rcases knownC_eq hf with ⟨g1, _, g⟩ | ⟨_, g2, _, _, g⟩ <;> omega
theorem known_eq_cheap (hf : f.chk = true) (ht : ∀ i : Nat, i < f.nights.length → (nth f.nights i).test = 0) : f.knownC = f.cheapC := by
  have h0 := known_le_cheap hf
  have hn : neverC = 1073741824 := rfl
  have hk := now_at_plan hf ht f.nights.length 0 f.zeros (by omega) (bef_zeros f)
  rw [← knownN_spOf] at hk
  unfold Fnd.cheapC at *
  rcases hk with h | ⟨p, hp, h⟩
  · rcases knownC_eq hf with ⟨g1, _, g⟩ | ⟨_, g2, _, _, g⟩
    · rcases leastC_eq hf costG_b with ⟨_, _, h1⟩ | ⟨_, _, h1, h2, h3, _⟩ <;> omega
    · omega
  · have hp2 : p ∈ f.allPlans := hp
    rcases leastC_eq hf costG_b with ⟨h1, _, _⟩ | ⟨_, _, h1, h2, h3, q, _, _, _, h5⟩
    · rw [h1] at hp2; simp at hp2
    · have := h5 p hp2
      rcases knownC_eq hf with ⟨g1, _, g⟩ | ⟨_, g2, _, _, g⟩ <;> omega
theorem tested_len (i : Int) : (f.tested i).nights.length = f.nights.length := lset_len _ _ _
end
end Go.Flong
namespace Go.Flong
open Go Go.Eng
instance : Inhabited Po := ⟨po0⟩
end Go.Flong
namespace Go.Flong
open Go Go.Eng
structure Offer where
  pence : Int
  tl : Int
  th : Int
  al : Int
  ah : Int
instance : Inhabited Offer := ⟨⟨0, 0, 0, 0, 0⟩⟩
abbrev EOf : EP Offer := .str [.i Offer.pence, .i Offer.tl, .i Offer.th, .i Offer.al, .i Offer.ah]
def encOf (o : Offer) : List Value := [.int .i64 o.pence, .int .i64 o.tl, .int .i64 o.th, .int .i64 o.al, .int .i64 o.ah]
theorem encOf_iff (I : IH) (cs : List Value) (o : Offer) : EOf.h I cs o ↔ cs = encOf o := by
  show FdAll I o cs _ ↔ _
  constructor
  · intro h
    match cs, h with
    | [a, b, c, d, e], h => simpa [FdAll, Fd.ok, encOf] using h
  · rintro rfl
    simp [FdAll, Fd.ok, encOf]
def Shop.offer (s : Shop) (add : List Int) : Offer :=
  ⟨sumOf Pig.pence s.pigs add, justL s.tpl (s.pounds + sumOf Pig.pounds s.pigs add) - sumOf Pig.tin s.pigs add, justH s.tph (s.pounds + sumOf Pig.pounds s.pigs add) - sumOf Pig.tin s.pigs add,
   justL s.apl (s.pounds + sumOf Pig.pounds s.pigs add) - sumOf Pig.ant s.pigs add, justH s.aph (s.pounds + sumOf Pig.pounds s.pigs add) - sumOf Pig.ant s.pigs add⟩
def Offer.hit (o : Offer) (t a : Int) : Bool := within t o.tl o.th && within a o.al o.ah
theorem boxS_size : ∀ {l : List Int}, (∀ x ∈ l, x ≤ 5) → (boxS l).length ≤ 6 ^ l.length
  | [], _ => by simp [boxS]
  | b :: t, h => by
    have h1 := boxS_size (l := t) fun x hx => h x (List.mem_cons_of_mem _ hx)
    have h2 := h b List.mem_cons_self
    have e : (boxS (b :: t)).length = (b + 1).toNat * (boxS t).length := by
      simp only [boxS, List.length_flatMap, List.length_map, List.map_const', List.length_range, List.sum_replicate_nat]
    rw [e, List.length_cons, Nat.pow_succ, Nat.mul_comm (6 ^ _)]
    exact Nat.mul_le_mul (by omega) h1
theorem adL_len {s : Shop} (hs : PigsOK s.pigs) : s.adL.length ≤ 1296 := by
  have h1 : s.adL.length ≤ s.adBox.length := List.length_filter_le _ _
  have h2 := boxS_size (l := s.manyL) fun x hx => by
    obtain ⟨j, hj, rfl⟩ := List.mem_iff_getElem.1 hx
    rw [manyL_len] at hj
    rw [← nthN, manyL_nth hj]
    have := Pig.bnds (hs.at hj)
    omega
  rw [manyL_len] at h2
  have h3 : 6 ^ s.pigs.length ≤ 6 ^ 4 := Nat.pow_le_pow_right (by omega) hs.2
  have h4 : s.adBox.length = (boxS s.manyL).length := rfl
  omega
def Shop.offTo (s : Shop) : Nat → List Offer
  | 0 => []
  | i + 1 => Shop.offTo s i ++ [s.offer (nth s.adL (i : Int))]
theorem offTo_len (s : Shop) : ∀ i, (s.offTo i).length = i
  | 0 => rfl
  | i + 1 => by simp [Shop.offTo, offTo_len s i]
theorem offTo_eq (s : Shop) : ∀ i, i ≤ s.adL.length → s.offTo i = (s.adL.take i).map s.offer
  | 0, _ => by simp [Shop.offTo]
  | i + 1, h => by rw [Shop.offTo, offTo_eq s i (by omega), List.take_succ_eq_append_getElem (by omega), List.map_append, nthN (by omega)]; rfl
theorem justB {a n : Int} (h1 : 0 ≤ a ∧ a ≤ 1000) (h2 : 0 ≤ n ∧ n ≤ 1000000) : 0 ≤ justL a n ∧ justL a n ≤ 1000000 ∧ 0 ≤ justH a n ∧ justH a n ≤ 1000000 := by
  have m := mulb (a := n) (A := 1000000) (b := a) (B := 1000) (by omega) (by omega) (by omega) (by omega)
  unfold justL justH
  rw [Int.tdiv_eq_ediv_of_nonneg (by omega), Int.tdiv_eq_ediv_of_nonneg (by omega)]
  omega
def idxF (h : Offer → Bool) (l : List Offer) : Int := (l.findIdx? h).elim (-1) fun i => (i : Int)
def missF (h : Offer → Bool) (l : List Offer) (j : Nat) : Bool := !h (nth l (j : Int))
theorem idxF_at {h : Offer → Bool} {l : List Offer} {i : Nat} (hi : i < l.length) (ha : allI (missF h l) i = true) (hh : h (nth l (i : Int)) = true) : idxF h l = i := by
  have e : l.findIdx? h = some i := List.findIdx?_eq_some_iff_getElem.2 ⟨hi, by rw [← nthN hi]; exact hh, fun j hj => by
    have := allI_iff.1 ha j hj
    rw [missF, nthN (by omega)] at this
    simpa using this⟩
  rw [idxF, e]; rfl
theorem idxF_none {h : Offer → Bool} {l : List Offer} (ha : allI (missF h l) l.length = true) : idxF h l = -1 := by
  have e : l.findIdx? h = none := List.findIdx?_eq_none_iff.2 fun x hx => by
    obtain ⟨j, hj, rfl⟩ := List.mem_iff_getElem.1 hx
    have := allI_iff.1 ha j hj
    rw [missF, nthN hj] at this
    simpa using this
  rw [idxF, e]; rfl
theorem idxF_bnd (h : Offer → Bool) (l : List Offer) : -1 ≤ idxF h l ∧ idxF h l < l.length := by
  unfold idxF
  cases e : l.findIdx? h with
  | none => simp; omega
  | some i =>
    have := (List.findIdx?_eq_some_iff_getElem.1 e).1
    simp only [Option.elim]; omega
def Shop.nT (s : Shop) : Nat := (s.th - s.tl + 1).toNat
def Shop.nA (s : Shop) : Nat := (s.ah - s.al + 1).toNat
end Go.Flong
namespace Go.Eng
open Go
def SigR {α : Type} (P : Program) (f : FuncId) (fv : Value) (E : EP α) (T : TypeId) (l l' : List α) : Prop :=
  ∀ (I : IH) (w : World) (v : Value) (xs : List Value), I.on w → w.ownsRow 0 T E.size v l.length xs → (RP E l).h I xs →
    CallsIn Fence.wide 0 P f #[v, fv] w fun e w' => e = .returned (.tuple #[]) ∧ Keep (fun b => v.ownBlock = some b) w w' ∧ ∃ xs', w'.ownsRow 0 T E.size v l'.length xs' ∧ (RP E l').h I xs'
section
variable {cx : Cx} {S : St} {dst : Option Tmp} {ty : TypeId} {pos : String} {af : Array Edge} {gd : Option (Nat × Bool)}
theorem o_sigr {α : Type} {E : EP α} {P : Program} {f g : FuncId} {T : TypeId} {k : Nat} {l l' : List α} {l0 : List Operand} {ts : Array TypeId} (hs : SigR P f (.func (.func g) #[] #[]) E T l l') (hf : Enters' P f) (hP : cx.P = P)
    (hl : S.ops l0 = some [.e (.a (.q k)), .e (.a (.f g []))]) (hk : look k S.L = some (.own T E.size l.length (RP E l))) :
    OpG cx S ⟨dst, .call { callee := .value (.func f), args := l0.toArray, argTypes := ts }, ty, pos, af, gd⟩ ⟨.t [], [], [], [(k, .own T E.size l'.length (RP E l'))], []⟩ := by
  subst hP
  intro M ε I a w next Q h hN K
  obtain ⟨xs, h2, h3⟩ := h.L k _ hk
  have hft := h.foot k _ hk
  have h1 := hs I w (ε.ν k) xs h.imm h2 h3
  have hev := h.evals hl
  simp only [List.map_cons, List.map_nil, SV.den, El.den, At.den] at hev
  refine ⟨fun _ _ => trivial, ?_⟩
  have hex : (execOp a.eval ⟨dst, .call { callee := .value (.func f), args := l0.toArray, argTypes := ts }, ty, pos, af, gd⟩).run cx.P w = .ok (.enter f #[ε.ν k, .func (.func g) #[] #[]]) w := by
    simp [execOp, resolve, Act.eval, Deferred.ofValue, invoke, hev, hf _ _]
  rw [semAt_eq _ _ _ (fun _ => by simp), hex]
  refine ⟨fun h => (by cases h), CallsIn.mono (callsIn_fen h1) ?_⟩
  rintro e w' ⟨rfl, hkp, xs', h5, h6⟩
  have hfp : ∀ b, (ε.ν k).ownBlock = some b → fpOf S ε ⟨.t [], [], [], [(k, .own T E.size l'.length (RP E l'))], []⟩ b := fun b hb => ⟨k, _, by simp [look], hk, hb⟩
  show next (a.put dst _) w'
  refine K ε I w' ⟨fun _ _ => ⟨rfl, rfl, rfl⟩, IH.le.rfl', ?_, hkp.os, hkp.tape, hkp.output, hkp.size, fun b hb hn => hkp.block b hb (fun e => hn (hfp b e)), fun _ _ h => .inl h⟩
    ⟨fun _ h => (by cases h), fun _ _ h => (by cases h), fun _ _ h => (by cases h), ?_, fun _ _ h => (by cases h), ?_, ?_, ?_, fun k x h => by obtain ⟨_, h⟩ := look_one h; cases h⟩
  · intro b o hb
    rw [hkp.block b (IH.on_lt h.imm hb) (fun e => by rw [(hft b e).2.2] at hb; cases hb)]
    exact h.imm b o hb
  · intro i e' he
    obtain ⟨rfl, rfl⟩ := look_one he
    exact ⟨.inl (h.wfL i _ hk).1, trivial⟩
  · intro i e' he
    obtain ⟨rfl, rfl⟩ := look_one he
    exact ⟨_, h5, h6⟩
  · intro i e' he b hb
    obtain ⟨rfl, rfl⟩ := look_one he
    have hb : (ε.ν i).ownBlock = some b := hb
    exact ⟨(hft b hb).1, Nat.lt_of_lt_of_le (hft b hb).2.1 hkp.size, (hft b hb).2.2, .inr (hfp b hb)⟩
  · intro i i' e' e'' b he he' hne
    obtain ⟨rfl, _⟩ := look_one he
    obtain ⟨rfl, _⟩ := look_one he'
    exact absurd rfl hne
end
end Go.Eng
namespace Go.Eng
open Go Go.Sort Go.Proofs
section
theorem flat_len {α : Type} {enc : α → List Value} {k : Nat} (hk : ∀ x, (enc x).length = k) : ∀ l : List α, (l.flatMap enc).length = l.length * k
  | [] => by simp
  | x :: t => by simp [hk, flat_len hk t, Nat.add_mul]; omega
theorem flatK_eq {α : Type} [Inhabited α] {enc : α → List Value} {k : Nat} (hk : ∀ x, (enc x).length = k) (l : List α) : (flatK enc k l.toArray).toList = l.flatMap enc := by
  apply List.ext_getElem?
  intro t
  by_cases ht : t < l.length * k
  · have k0 : 0 < k := by rcases Nat.eq_zero_or_pos k with h | h; · subst h; simp at ht
                          · exact h
    have hi : t / k < l.length := (Nat.div_lt_iff_lt_mul k0).2 ht
    have hj : t % k < (enc l[t / k]).length := by rw [hk]; exact Nat.mod_lt _ k0
    have h1 := flatten_get (size := k) (c := l.map enc) (i := t / k) (j := t % k) (y := (enc l[t / k])[t % k]) (fun z hz => by obtain ⟨x, _, rfl⟩ := List.mem_map.1 hz; exact hk x) (by simpa using hi) (by rw [List.getElem_map]; exact List.getElem?_eq_getElem hj)
    rw [Nat.mul_comm, Nat.div_add_mod] at h1
    rw [List.flatMap_def, h1]
    have hs : t < (flatK enc k l.toArray).size := by simpa using ht
    have h2 := get_flatK enc k l.toArray t (by simpa using ht)
    have h3 : l.toArray[t / k]! = l[t / k] := by rw [getElem!_pos l.toArray (t / k) (by simpa using hi)]; simp
    rw [getElem!_pos (flatK enc k l.toArray) t hs, h3, getElem!_pos (enc l[t / k]) (t % k) hj] at h2
    rw [Array.getElem?_toList, Array.getElem?_eq_getElem hs, h2]
  · rw [List.getElem?_eq_none (by simp; omega), List.getElem?_eq_none (by rw [flat_len hk]; omega)]
theorem RP.encs {α : Type} {enc : α → List Value} {E : EP α} (hE : ∀ I cs x, E.h I cs x ↔ cs = enc x) {I : IH} : ∀ {l : List α} {xs : List Value}, (RP E l).h I xs ↔ xs = l.flatMap enc := fun {l xs} => by
  constructor
  · rintro ⟨css, rfl, h2, h3⟩
    rw [List.flatMap_def]
    congr 1
    refine List.ext_getElem (by simpa using h2) fun i hi hi2 => ?_
    rw [List.getElem_map]
    exact (hE _ _ _).1 (h3 i hi (by simpa using hi2))
  · rintro rfl
    refine ⟨l.map enc, by rw [List.flatMap_def], by simp, fun i hi hl => ?_⟩
    rw [List.getElem_map]
    exact (hE _ _ _).2 rfl
theorem own_holdsK {α : Type} [Inhabited α] {enc : α → List Value} {k : Nat} (hk : ∀ x, (enc x).length = k) {w : World} {g : Nat} {cur : Array Value} {T : TypeId} {l : List α} (hg : w.heap[g]? = some (.cells cur T (0, 0))) (ht : cur.toList.take (l.length * k) = l.flatMap enc) : HoldsK enc k w g 0 l.toArray := by
  intro j hj
  have hj' : j < l.length * k := by simpa using hj
  have h1 : (l.flatMap enc)[j]? = some (flatK enc k l.toArray)[j]! := by
    rw [← flatK_eq hk, Array.getElem?_toList, getElem!_pos (flatK enc k l.toArray) j hj, Array.getElem?_eq_getElem hj]
  rw [← ht, List.getElem?_take, if_pos hj'] at h1
  refine ⟨?_, ?_⟩
  · simp only [World.cell?, hg, Nat.zero_add]
    simpa using h1
  · simp [World.frozen?, hg]
theorem own_sorted {α : Type} [Inhabited α] {enc : α → List Value} {k : Nat} (hk : ∀ x, (enc x).length = k) {w : World} {g n cap : Nat} {cur : Array Value} {T : TypeId} {os : Array Obj} {d : Array α} {m : Nat} (hg : w.heap[g]? = some (.cells cur T (0, 0))) (hc : m ≤ cap) (hm : cap ≤ maxLen) (hs : cur.size = cap * k) (hd : d.size = m) :
    (sortWorldK enc k w g 0 n d os).ownsRow 0 T k (.slice (some ⟨g, 0, none⟩) m cap) m (d.toList.flatMap enc) ∧ Keep (fun b => (Value.slice (some ⟨g, 0, none⟩) m cap).ownBlock = some b) w (sortWorldK enc k w g 0 n d os) := by
  have hgl : g < w.heap.size := (Array.getElem?_eq_some_iff.1 hg).1
  have hle : m * k ≤ cur.size := by rw [hs]; exact Nat.mul_le_mul_right k hc
  have hF : (flatK enc k d).size = m * k := by rw [size_flatK, hd]
  have hh : (sortWorldK enc k w g 0 n d os).heap = (w.heap.modify g (onCells (putCells id 0 (flatK enc k d)))) ++ os := rfl
  refine ⟨⟨by rw [flat_len hk]; simp [hd], .inr ⟨g, cap, putCells id 0 (flatK enc k d) cur, rfl, Nat.zero_le _, ?_, hc, hm, by simp [putCells, hs], ?_⟩⟩, ⟨rfl, rfl, ⟨rfl, Nat.le_add_right _ _⟩, by rw [hh]; simp, fun b hb hn => ?_⟩⟩
  · rw [hh, Array.getElem?_append_left (by simpa using hgl), Array.getElem?_modify, if_pos rfl, hg]; rfl
  · rw [show d = d.toList.toArray by simp] at hF ⊢
    rw [show d.toList.toArray.toList = d.toList by simp, ← flatK_eq hk]
    apply List.ext_getElem?
    intro t
    rw [List.getElem?_take]
    by_cases ht : t < m * k
    · rw [if_pos ht, Array.getElem?_toList, Array.getElem?_toList, putCells, Array.getElem?_mapIdx, Array.getElem?_eq_getElem (show t < cur.size by omega), Array.getElem?_eq_getElem (show t < (flatK enc k d.toList.toArray).size by omega)]
      simp only [Option.map_some, id, Nat.zero_le, true_and, Nat.zero_add, Nat.sub_zero]
      rw [if_pos (by omega), getElem!_pos (flatK enc k d.toList.toArray) t (by omega)]
    · rw [if_neg ht, List.getElem?_eq_none (by simp only [Array.length_toList]; omega)]
  · have hne : g ≠ b := fun e => hn (by rw [e]; rfl)
    rw [hh, Array.getElem?_append_left (by simpa using hb), Array.getElem?_modify, if_neg hne]
end
end Go.Eng
namespace Go.Eng
open Go Go.Sort Go.Proofs Go.Shelf Go.Lib
section
variable {α : Type} [Inhabited α]
def sortL (cf : α → α → Int) (l : List α) : List α := (pdq (ltOf cf) l.toArray 0 l.toArray.size (Lib.bitLen l.toArray.size) true true).toList
theorem sortL_ok {cf : α → α → Int} (hO : SWO (ltOf cf)) (l : List α) : PermIn 0 l.toArray.size l.toArray (pdq (ltOf cf) l.toArray 0 l.toArray.size (Lib.bitLen l.toArray.size) true true) ∧ SortedIn (ltOf cf) 0 l.toArray.size (pdq (ltOf cf) l.toArray 0 l.toArray.size (Lib.bitLen l.toArray.size) true true) :=
  pdq_sorts (ltOf cf) hO l.toArray 0 l.toArray.size (Lib.bitLen l.toArray.size) true true (Nat.zero_le _) (Nat.le_refl _) (Or.inl rfl)
theorem sortL_len {cf : α → α → Int} (hO : SWO (ltOf cf)) (l : List α) : (sortL cf l).length = l.length := by
  have := (sortL_ok hO l).1.1
  simpa [sortL] using this
theorem PermIn.all {d d' : Array α} (h : PermIn 0 d.size d d') : d'.toList.Perm d.toList := by
  have h1 := h.1
  have h2 := h.2.2
  have e1 : d'.extract 0 d.size = d' := by rw [← h1]; exact Array.extract_size
  have e2 : d.extract 0 d.size = d := Array.extract_size
  rw [e1, e2] at h2
  exact h2
theorem sortL_perm {cf : α → α → Int} (hO : SWO (ltOf cf)) (l : List α) : (sortL cf l).Perm l := by
  have := PermIn.all (sortL_ok hO l).1
  simpa [sortL] using this
theorem sortL_sorted {cf : α → α → Int} (hO : SWO (ltOf cf)) (l : List α) {i j : Nat} (hij : i < j) (hj : j < (sortL cf l).length) : ¬ cf (sortL cf l)[j] ((sortL cf l)[i]'(by omega)) < 0 := by
  have hl := sortL_len hO l
  have h := (sortL_ok hO l).2 i j (Nat.zero_le _) hij (by simpa using (show j < l.length by omega))
  have hs := (sortL_ok hO l).1.1
  rw [getElem!_pos (pdq (ltOf cf) l.toArray 0 l.toArray.size (Lib.bitLen l.toArray.size) true true) j (by rw [hs]; simp; omega), getElem!_pos (pdq (ltOf cf) l.toArray 0 l.toArray.size (Lib.bitLen l.toArray.size) true true) i (by rw [hs]; simp; omega)] at h
  simpa [ltOf, sortL] using h
theorem sortSig {P : Program} {ρ : Ren} (L : SlLaysF0.n6 P ρ) {k : Nat} (aE : ∀ w, (isAgg (ρ.t 24)).run P w = .ok true w) (zE : ∀ w, (Go.sizeOf (ρ.t 24)).run P w = .ok k w) {enc : α → List Value} (hk : ∀ x, (enc x).length = k) (h1 : ∀ x, ∀ v ∈ enc x, v.oneCell' = true) {cf : α → α → Int} (hO : SWO (ltOf cf)) {g : Nat}
    (eg : ∀ args w, (callFunc g args).run P w = .ok (.enter g args) w) (hcmp : ∀ blk off size w, CmpLays P g #[] enc k cf blk off size w) {E : EP α} (hE : ∀ I cs x, E.h I cs x ↔ cs = enc x) (hs : E.size = k) {T : TypeId} {l : List α} (hl : l.length < 4611686018427387904) :
    SigR P (ρ.f 6) (.func (.func g) #[] #[]) E T l (sortL cf l) := by
  intro I w v xs hI hw hR
  rw [RP.encs hE] at hR
  subst hR
  have hlen := sortL_len hO l
  obtain ⟨hxl, hw⟩ := hw
  rcases hw with ⟨rfl, hn⟩ | ⟨gb, cap, cur, rfl, _, hg, hn, hm, hsz, htk⟩
  · have he : l = [] := List.eq_nil_of_length_eq_zero hn
    subst he
    refine callsIn_wide.2 ((AnyF.slices_SortFunc_none (P := P) (ρ := ρ) { L with } none 0 _ w).mono ?_)
    rintro e w' ⟨rfl, rfl⟩
    have h0 : sortL cf ([] : List α) = [] := List.eq_nil_of_length_eq_zero (by rw [hlen]; rfl)
    exact ⟨rfl, Keep.refl _, [], ⟨by simp [h0], .inl ⟨rfl, by simp [h0]⟩⟩, by rw [h0]; exact RP.nil⟩
  · rw [hs] at hsz htk
    have hgl : gb < w.heap.size := (Array.getElem?_eq_some_iff.1 hg).1
    have hH : HoldsK enc k w gb 0 l.toArray := own_holdsK hk hg htk
    have hc := AnyQ.slices_SortFunc_eq L k aE zE enc hk h1 cf hO g #[] gb 0 cap l.toArray w eg (hcmp gb 0 l.toArray.size w) hH hgl (by simpa using hl)
    rw [show l.toArray.size = l.length by simp] at hc
    refine callsIn_wide.2 (hc.mono ?_)
    rintro e w' ⟨rfl, n, os, rfl⟩
    have hd := (sortL_ok hO l).1.1
    have h2 := own_sorted (enc := enc) (n := n) (os := os) (d := pdq (ltOf cf) l.toArray 0 l.toArray.size (Lib.bitLen l.toArray.size) true true) hk hg hn hm hsz (by rw [hd]; simp)
    rw [hs, hlen]
    refine ⟨rfl, ?_, _, ?_, (RP.encs hE).2 rfl⟩
    · simpa using h2.2
    · simpa [sortL] using h2.1
end
end Go.Eng
namespace Go.Flong
open Go Go.Eng Go.Sort Go.Shelf Go.Proofs
def offCf (a b : Offer) : Int := Lib.compareInt a.pence b.pence
theorem offLt (x y : Offer) : ltOf offCf x y = decide (x.pence < y.pence) := by
  unfold ltOf offCf Lib.compareInt
  by_cases h1 : x.pence < y.pence
  · simp [h1]
  · by_cases h2 : y.pence < x.pence <;> simp [h1, h2]
theorem offSwo : SWO (ltOf offCf) where
  irrefl x := by rw [offLt]; simp
  trans x y z h1 h2 := by rw [offLt] at *; simp at *; omega
  ntrans x y z h1 h2 := by rw [offLt] at *; simp at *; omega
def Shop.offS (s : Shop) : List Offer := sortL offCf (s.offTo s.adL.length)
def Shop.idxAt (s : Shop) (i j : Nat) : Int := idxF (fun o => o.hit (s.tl + (i : Int)) (s.al + (j : Int))) s.offS
def Shop.hitAt (s : Shop) (i j : Nat) : Bool := decide (0 ≤ s.idxAt i j)
def Shop.penAt (s : Shop) (i j : Nat) : Int := (nth s.offS (s.idxAt i j)).pence
def stepK (p : Int × Int) (n : Int) : Int × Int := if p.1 < 0 then (n, n) else (min p.1 n, max p.2 n)
def Shop.knIn (s : Shop) (i : Nat) (p : Int × Int) : Nat → Int × Int
  | 0 => p
  | j + 1 => stepK (Shop.knIn s i p j) (s.penAt i j)
def Shop.knOut (s : Shop) : Nat → Int × Int
  | 0 => (-1, 0)
  | i + 1 => s.knIn i (Shop.knOut s i) s.nA
def Shop.knRow (s : Shop) (i : Nat) : Bool := allI (s.hitAt i) s.nA
def Shop.kE (s : Shop) : Int := if s.chk then (if allI s.knRow s.nT then 0 else 3) else 10
def Shop.mKnown (s : Shop) : Int × Int := if s.kE = 0 then s.knOut s.nT else (0, 0)
theorem offS_len (s : Shop) : s.offS.length = s.adL.length := by rw [Shop.offS, sortL_len offSwo, offTo_len]
theorem offS_mem {s : Shop} {o : Offer} (h : o ∈ s.offS) : ∃ l ∈ s.adL, s.offer l = o := by
  have h1 := (sortL_perm offSwo (s.offTo s.adL.length)).mem_iff.1 h
  rw [offTo_eq s _ (Nat.le_refl _), List.take_length] at h1
  obtain ⟨l, h2, h3⟩ := List.mem_map.1 h1
  exact ⟨l, h2, h3⟩
theorem paid_bnd {s : Shop} (hs : s.chk = true) {l : List Int} (h : isAdd s l = true) : 0 ≤ sumOf Pig.pence s.pigs l ∧ sumOf Pig.pence s.pigs l ≤ 1000000 := by
  have hp := Shop.pigsOK hs
  have hx := isAddB hp h
  have h4 := hp.2
  have := sumOf_bnd (f := Pig.pence) hp (by omega) hx.2.2 (fun p h => by have := Pig.bnds h; omega)
  omega
theorem offS_bnd {s : Shop} (hs : s.chk = true) {i : Int} (h0 : 0 ≤ i) (h1 : i < s.offS.length) : 0 ≤ (nth s.offS i).pence ∧ (nth s.offS i).pence ≤ 1000000 := by
  have e : i = ((i.toNat : Nat) : Int) := by omega
  rw [e, nthN (by omega)]
  obtain ⟨l, h2, h3⟩ := offS_mem (List.getElem_mem (show i.toNat < s.offS.length by omega))
  rw [← h3]
  exact paid_bnd hs (List.mem_filter.1 h2).2
theorem penAt_bnd {s : Shop} (hs : s.chk = true) {i j : Nat} (h : s.hitAt i j = true) : 0 ≤ s.penAt i j ∧ s.penAt i j ≤ 1000000 :=
  offS_bnd hs (by simpa [Shop.hitAt] using h) (idxF_bnd _ _).2
theorem stepK_bnd {p : Int × Int} {n : Int} (h : -1 ≤ p.1 ∧ p.1 ≤ 1000000 ∧ 0 ≤ p.2 ∧ p.2 ≤ 1000000) (hn : 0 ≤ n ∧ n ≤ 1000000) : -1 ≤ (stepK p n).1 ∧ (stepK p n).1 ≤ 1000000 ∧ 0 ≤ (stepK p n).2 ∧ (stepK p n).2 ≤ 1000000 := by
  unfold stepK; split <;> simp only [] <;> omega
theorem knIn_bnd {s : Shop} (hs : s.chk = true) {i : Nat} {p : Int × Int} (h : -1 ≤ p.1 ∧ p.1 ≤ 1000000 ∧ 0 ≤ p.2 ∧ p.2 ≤ 1000000) : ∀ {j : Nat}, allI (s.hitAt i) j = true → -1 ≤ (s.knIn i p j).1 ∧ (s.knIn i p j).1 ≤ 1000000 ∧ 0 ≤ (s.knIn i p j).2 ∧ (s.knIn i p j).2 ≤ 1000000
  | 0, _ => h
  | j + 1, ha => by
    simp only [allI, Bool.and_eq_true] at ha
    exact stepK_bnd (knIn_bnd hs h ha.1) (penAt_bnd hs ha.2)
theorem knOut_bnd {s : Shop} (hs : s.chk = true) : ∀ {i : Nat}, allI s.knRow i = true → -1 ≤ (s.knOut i).1 ∧ (s.knOut i).1 ≤ 1000000 ∧ 0 ≤ (s.knOut i).2 ∧ (s.knOut i).2 ≤ 1000000
  | 0, _ => by simp [Shop.knOut]
  | i + 1, ha => by
    simp only [allI, Bool.and_eq_true] at ha
    exact knIn_bnd hs (knOut_bnd hs ha.1) ha.2
end Go.Flong
namespace Go.Flong
open Go Go.Eng
def Shop.ready (s : Shop) : Bool := !hugeS s && s.chk
def insideS (a b c d : Int) : Bool := decide (c ≤ a) && decide (a ≤ b) && decide (b ≤ d)
theorem mSafe_in {s : Shop} {add : List Int} (hs : s.chk = true) (hv : isAdd s add = true) : opE s (isAdd s add) = 0 ∧ 1 ≤ s.mSafe add ∧ s.mSafe add ≤ 3 := by
  have hE : opE s (isAdd s add) = 0 := by rw [hv, opE_t hs]; rfl
  refine ⟨hE, ?_⟩
  unfold Shop.mSafe
  rw [if_pos hE]
  split
  · omega
  · split <;> omega
def Shop.spans (s : Shop) (p : Po) : Shop := { s with tl := p.tl, th := p.th, al := p.al, ah := p.ah }
theorem spans_chk {s : Shop} {p : Po} (hs : s.chk = true) (h1 : insideS p.tl p.th s.tl s.th = true) (h2 : insideS p.al p.ah s.al s.ah = true) : (s.spans p).chk = true := by
  simp only [Shop.chk, Shop.head, Shop.spans, isPot, isSpan, within, insideS, Bool.and_eq_true, decide_eq_true_eq] at *
  grind
end Go.Flong
namespace Go.Flong
open Go Go.Eng
end Go.Flong
namespace Go.Flong
open Go Go.Eng
def Shop.parts (s : Shop) (a b c d : Int) : Shop := { s with tpl := a, tph := b, apl := c, aph := d }
end Go.Flong
namespace Go.Flong
open Go Go.Eng
structure Wider (s t : Shop) : Prop where
  len : t.pigs.length = s.pigs.length
  pot : t.pounds = s.pounds ∧ t.tl = s.tl ∧ t.th = s.th ∧ t.al = s.al ∧ t.ah = s.ah
  part : t.tpl = s.tpl ∧ t.tph = s.tph ∧ t.apl = s.apl ∧ t.aph = s.aph
  room : s.room ≤ t.room
  many : ∀ j : Nat, j < s.pigs.length → (nth s.pigs (j : Int)).many ≤ (nth t.pigs (j : Int)).many
  sum : ∀ l : List Int, sumOf Pig.pounds t.pigs l = sumOf Pig.pounds s.pigs l ∧ sumOf Pig.tin t.pigs l = sumOf Pig.tin s.pigs l ∧ sumOf Pig.ant t.pigs l = sumOf Pig.ant s.pigs l
theorem Wider.add {s t : Shop} (h : Wider s t) {l : List Int} (hl : isAdd s l = true) : isAdd t l = true := by
  simp only [isAdd, Bool.and_eq_true, decide_eq_true_eq] at hl ⊢
  obtain ⟨⟨h1, h2⟩, h3⟩ := hl
  rw [h.len, (h.sum l).1, h.pot.1]
  have hr := h.room
  refine ⟨⟨h1, allI_iff.2 fun j hj => ?_⟩, by omega⟩
  have h4 := allI_iff.1 h2 j hj
  have h5 := h.many j (by omega)
  simp only [fitsMany, within, Bool.and_eq_true, decide_eq_true_eq] at h4 ⊢
  omega
theorem Wider.aft {s t : Shop} (h : Wider s t) (l : List Int) : t.aft l = s.aft l := by
  obtain ⟨h1, h2, h3, h4, h5⟩ := h.pot
  obtain ⟨g1, g2, g3⟩ := h.sum l
  simp only [Shop.aft, h1, h2, h3, h4, h5, g1, g2, g3]
theorem Wider.ok {s t : Shop} (h : Wider s t) {l : List Int} (hl : s.okM l = true) : t.okM l = true := by
  unfold Shop.okM at hl ⊢
  rw [Bool.and_eq_true] at hl ⊢
  refine ⟨h.add hl.1, ?_⟩
  have h2 := hl.2
  obtain ⟨g1, g2, g3, g4⟩ := h.part
  rw [safeP_iff] at h2 ⊢
  rw [h.aft, g1, g2, g3, g4]; exact h2
end Go.Flong
namespace Go.Flong
open Go Go.Eng
def Shop.inTr (s : Shop) (t a : Int) : Shop := { s with tl := t, th := t, al := a, ah := a }
def Shop.InT (s : Shop) (t a : Int) : Prop := (s.tl ≤ t ∧ t ≤ s.th) ∧ s.al ≤ a ∧ a ≤ s.ah
theorem Shop.InT.ins {s : Shop} {t a : Int} (h : s.InT t a) : insideS t t s.tl s.th = true ∧ insideS a a s.al s.ah = true := by
  obtain ⟨h1, h2⟩ := h
  simp only [insideS, Bool.and_eq_true, decide_eq_true_eq]; omega
theorem Shop.InT.chk {s : Shop} {t a : Int} (hs : s.chk = true) (h : s.InT t a) : (s.inTr t a).chk = true := spans_chk (p := ⟨0, t, t, a, a⟩) hs h.ins.1 h.ins.2
theorem offer_hit {s : Shop} {t a : Int} {l : List Int} (hs : s.chk = true) (hv : isAdd s l = true) : (s.offer l).hit t a = (s.inTr t a).safeP ((s.inTr t a).aft l) := by
  have htb := tl_bnd hs
  have hx := isAddB (Shop.pigsOK hs) hv
  have hb := aft_bnd hs (l := l) (by omega) hx.2.2
  unfold PoB at hb
  have e : (s.aft l).pounds = s.pounds + sumOf Pig.pounds s.pigs l := rfl
  have k := mSafe_in hs hv
  have hp0 : 0 ≤ s.pounds + sumOf Pig.pounds s.pigs l := by omega
  have a1 := justL_iff (part := s.tpl) (all := s.pounds + sumOf Pig.pounds s.pigs l) (T := t + sumOf Pig.tin s.pigs l) (by omega) hp0
  have a2 := justH_iff (part := s.tph) (all := s.pounds + sumOf Pig.pounds s.pigs l) (T := t + sumOf Pig.tin s.pigs l) (by omega) hp0
  have a3 := justL_iff (part := s.apl) (all := s.pounds + sumOf Pig.pounds s.pigs l) (T := a + sumOf Pig.ant s.pigs l) (by omega) hp0
  have a4 := justH_iff (part := s.aph) (all := s.pounds + sumOf Pig.pounds s.pigs l) (T := a + sumOf Pig.ant s.pigs l) (by omega) hp0
  rw [Bool.eq_iff_iff, safeP_iff]
  unfold Offer.hit within
  simp only [Bool.and_eq_true, decide_eq_true_eq]
  simp only [Shop.offer, Shop.inTr, Shop.aft]
  omega
theorem offS_of {s : Shop} {l : List Int} (hs : s.chk = true) (hv : isAdd s l = true) : s.offer l ∈ s.offS := by
  rw [Shop.offS, (sortL_perm offSwo (s.offTo s.adL.length)).mem_iff, offTo_eq s _ (Nat.le_refl _), List.take_length]
  exact List.mem_map.2 ⟨l, (mem_adL (Shop.pigsOK hs)).2 hv, rfl⟩
theorem offCf_lt {a b : Offer} : offCf a b < 0 ↔ a.pence < b.pence := by
  unfold offCf Lib.compareInt
  split
  · omega
  · split <;> omega
theorem offS_le {s : Shop} {i j : Nat} (hij : i ≤ j) (hj : j < s.offS.length) : (nth s.offS (i : Int)).pence ≤ (nth s.offS (j : Int)).pence := by
  by_cases e : i = j
  · subst e; exact Int.le_refl _
  · have h := sortL_sorted offSwo (s.offTo s.adL.length) (i := i) (j := j) (by omega) hj
    rw [nthN hj, nthN (by omega)]
    exact Int.not_lt.1 fun g => h (offCf_lt.2 g)
theorem idxF_spec (h : Offer → Bool) (l : List Offer) : (idxF h l = -1 ∧ ∀ x ∈ l, h x = false) ∨ ∃ i : Nat, i < l.length ∧ idxF h l = i ∧ h (nth l (i : Int)) = true ∧ ∀ j : Nat, j < i → h (nth l (j : Int)) = false := by
  cases e : l.findIdx? h with
  | none =>
    left
    refine ⟨by unfold idxF; rw [e]; rfl, fun x hx => by simpa using List.findIdx?_eq_none_iff.1 e x hx⟩
  | some i =>
    right
    obtain ⟨h1, h2, h3⟩ := List.findIdx?_eq_some_iff_getElem.1 e
    refine ⟨i, h1, by unfold idxF; rw [e]; rfl, by rw [nthN h1]; exact h2, fun j hj => ?_⟩
    rw [nthN (by omega)]
    simpa using h3 j hj
theorem pen_spec {s : Shop} (hs : s.chk = true) {i j : Nat} (hT : s.InT (s.tl + i) (s.al + j)) :
    (s.hitAt i j = false ∧ (s.inTr (s.tl + i) (s.al + j)).mE (priceG (s.inTr (s.tl + i) (s.al + j))) = 3) ∨
    (s.hitAt i j = true ∧ (s.inTr (s.tl + i) (s.al + j)).mE (priceG (s.inTr (s.tl + i) (s.al + j))) = 0 ∧ s.penAt i j = (s.inTr (s.tl + i) (s.al + j)).mCheap) := by
  have ho := hT.chk hs
  have hmem : ∀ x ∈ s.offS, x.hit (s.tl + i) (s.al + j) = true → ∃ l, (s.inTr (s.tl + i) (s.al + j)).okM l = true ∧ x.pence = sumOf Pig.pence s.pigs l := fun x hx hh => by
    obtain ⟨l, h1, h2⟩ := offS_mem hx
    have hv := (mem_adL (Shop.pigsOK hs)).1 h1
    subst h2
    refine ⟨l, ?_, rfl⟩
    unfold Shop.okM
    rw [← offer_hit hs hv, hh, Bool.and_true]; exact hv
  have hok : ∀ l, (s.inTr (s.tl + i) (s.al + j)).okM l = true → s.offer l ∈ s.offS ∧ (s.offer l).hit (s.tl + i) (s.al + j) = true := fun l hl => by
    unfold Shop.okM at hl
    rw [Bool.and_eq_true] at hl
    have hv : isAdd s l = true := hl.1
    exact ⟨offS_of hs hv, by rw [offer_hit hs hv]; exact hl.2⟩
  rcases cheap_spec ho with ⟨h1, _, h3⟩ | ⟨h1, h2, h3, h4⟩
  · left
    refine ⟨?_, h1⟩
    unfold Shop.hitAt Shop.idxAt
    rcases idxF_spec (fun o => o.hit (s.tl + (i : Int)) (s.al + (j : Int))) s.offS with ⟨g1, _⟩ | ⟨k, g1, _, g3, _⟩
    · rw [g1]; rfl
    · obtain ⟨l, g4, _⟩ := hmem _ (by rw [nthN g1]; exact List.getElem_mem g1) g3
      rw [h3 l] at g4; cases g4
  · right
    obtain ⟨k1, k2⟩ := hok _ h2
    rcases idxF_spec (fun o => o.hit (s.tl + (i : Int)) (s.al + (j : Int))) s.offS with ⟨_, g2⟩ | ⟨k, g1, g2, g3, g4⟩
    · rw [g2 _ k1] at k2; cases k2
    · have hx : s.idxAt i j = k := g2
      refine ⟨by unfold Shop.hitAt; rw [hx]; simp, h1, ?_⟩
      unfold Shop.penAt
      rw [hx]
      obtain ⟨l, m1, m2⟩ := hmem _ (by rw [nthN g1]; exact List.getElem_mem g1) g3
      have m3 := h4 l m1
      obtain ⟨n, n1, n2⟩ := List.mem_iff_getElem.1 k1
      have n3 : k ≤ n := by
        by_cases g : k ≤ n
        · exact g
        · have := g4 n (by omega)
          rw [nthN n1, n2, k2] at this; cases this
      have n4 := offS_le n3 n1
      rw [nthN n1, n2] at n4
      have n5 : (s.offer ((s.inTr (s.tl + i) (s.al + j)).mAdd (priceG (s.inTr (s.tl + i) (s.al + j))))).pence = (s.inTr (s.tl + i) (s.al + j)).mCheap := h3.symm
      have m4 : (nth s.offS (k : Int)).pence = sumOf Pig.pence (s.inTr (s.tl + i) (s.al + j)).pigs l := m2
      omega
def KIn (P : Int → Prop) (p : Int × Int) : Prop := ((∀ n, ¬ P n) ∧ p.1 < 0) ∨ (0 ≤ p.1 ∧ P p.1 ∧ P p.2 ∧ ∀ n, P n → p.1 ≤ n ∧ n ≤ p.2)
theorem KIn.congr {P Q : Int → Prop} {p : Int × Int} (h : KIn P p) (e : ∀ n, P n ↔ Q n) : KIn Q p := by
  have : P = Q := funext fun n => propext (e n)
  rwa [this] at h
theorem KIn.step {P : Int → Prop} {p : Int × Int} (h : KIn P p) {n : Int} (hn : 0 ≤ n) : KIn (fun m => P m ∨ m = n) (stepK p n) := by
  unfold stepK
  rcases h with ⟨h1, h2⟩ | ⟨h1, h2, h3, h4⟩
  · rw [if_pos h2]
    exact .inr ⟨hn, .inr rfl, .inr rfl, fun m hm => hm.elim (fun g => absurd g (h1 m)) fun g => by subst g; exact ⟨Int.le_refl _, Int.le_refl _⟩⟩
  · rw [if_neg (by omega)]
    have := h4 _ h2
    refine .inr ⟨by simp only []; omega, ?_, ?_, fun m hm => ?_⟩
    · simp only []
      by_cases g : p.1 ≤ n
      · rw [Int.min_eq_left g]; exact .inl h2
      · rw [Int.min_eq_right (by omega)]; exact .inr rfl
    · simp only []
      by_cases g : p.2 ≤ n
      · rw [Int.max_eq_right g]; exact .inr rfl
      · rw [Int.max_eq_left (by omega)]; exact .inl h3
    · simp only []
      rcases hm with hm | rfl
      · have := h4 m hm; omega
      · omega
theorem knIn_in {s : Shop} (hs : s.chk = true) {i : Nat} {P : Int → Prop} {p : Int × Int} (h : KIn P p) : ∀ {j : Nat}, allI (s.hitAt i) j = true → KIn (fun m => P m ∨ ∃ k : Nat, k < j ∧ m = s.penAt i k) (s.knIn i p j)
  | 0, _ => h.congr fun n => ⟨.inl, fun g => g.elim id fun ⟨k, hk, _⟩ => absurd hk (by omega)⟩
  | j + 1, ha => by
    simp only [allI, Bool.and_eq_true] at ha
    refine ((knIn_in hs h ha.1).step (penAt_bnd hs ha.2).1).congr fun n => ?_
    constructor
    · rintro ((g | ⟨k, hk, e⟩) | e)
      · exact .inl g
      · exact .inr ⟨k, by omega, e⟩
      · exact .inr ⟨j, by omega, e⟩
    · rintro (g | ⟨k, hk, e⟩)
      · exact .inl (.inl g)
      · by_cases hkj : k = j
        · subst hkj; exact .inr e
        · exact .inl (.inr ⟨k, by omega, e⟩)
theorem knOut_in {s : Shop} (hs : s.chk = true) : ∀ {i : Nat}, allI s.knRow i = true → KIn (fun m => ∃ k : Nat, k < i ∧ ∃ j : Nat, j < s.nA ∧ m = s.penAt k j) (s.knOut i)
  | 0, _ => .inl ⟨fun n ⟨k, hk, _⟩ => absurd hk (by omega), by simp [Shop.knOut]⟩
  | i + 1, ha => by
    simp only [allI, Bool.and_eq_true] at ha
    refine (knIn_in hs (knOut_in hs ha.1) ha.2).congr fun n => ?_
    constructor
    · rintro (⟨k, hk, g⟩ | ⟨j, hj, e⟩)
      · exact ⟨k, by omega, g⟩
      · exact ⟨i, by omega, j, hj, e⟩
    · rintro ⟨k, hk, j, hj, e⟩
      by_cases hki : k = i
      · subst hki; exact .inr ⟨j, hj, e⟩
      · exact .inl ⟨k, by omega, j, hj, e⟩
def Shop.CostIn (s : Shop) (m : Int) : Prop := ∃ t a, s.InT t a ∧ m = (s.inTr t a).mCheap
theorem InT_at {s : Shop} {t a : Int} (h : s.InT t a) : ∃ i j : Nat, i < s.nT ∧ j < s.nA ∧ t = s.tl + i ∧ a = s.al + j := by
  obtain ⟨h1, h2⟩ := h
  refine ⟨(t - s.tl).toNat, (a - s.al).toNat, ?_, ?_, by omega, by omega⟩
  · unfold Shop.nT; omega
  · unfold Shop.nA; omega
theorem InT_of {s : Shop} {i j : Nat} (hi : i < s.nT) (hj : j < s.nA) : s.InT (s.tl + i) (s.al + j) := by
  unfold Shop.nT at hi
  unfold Shop.nA at hj
  unfold Shop.InT
  omega
theorem known_spec {s : Shop} (hs : s.chk = true) : (s.kE = 3 ∧ s.mKnown = (0, 0) ∧ ∃ t a, s.InT t a ∧ (s.inTr t a).mE (priceG (s.inTr t a)) = 3) ∨
    (s.kE = 0 ∧ (∀ t a, s.InT t a → (s.inTr t a).mE (priceG (s.inTr t a)) = 0) ∧ KIn s.CostIn s.mKnown) := by
  have hE : s.kE = if allI s.knRow s.nT then 0 else 3 := by unfold Shop.kE; rw [hs]; rfl
  cases hk : allI s.knRow s.nT with
  | false =>
    left
    have e3 : s.kE = 3 := by rw [hE, hk]; rfl
    refine ⟨e3, by unfold Shop.mKnown; rw [if_neg (by omega)], ?_⟩
    obtain ⟨i, hi, h1⟩ := not_allI_iff.1 (show (!allI s.knRow s.nT) = true by rw [hk]; rfl)
    obtain ⟨j, hj, h2⟩ := not_allI_iff.1 (show (!allI (s.hitAt i) s.nA) = true by rw [show allI (s.hitAt i) s.nA = false from h1]; rfl)
    refine ⟨_, _, InT_of hi hj, ?_⟩
    rcases pen_spec hs (InT_of hi hj) with ⟨_, g⟩ | ⟨g, _⟩
    · exact g
    · rw [h2] at g; cases g
  | true =>
    right
    have e0 : s.kE = 0 := by rw [hE, hk]; rfl
    have hall : ∀ i j : Nat, i < s.nT → j < s.nA → s.hitAt i j = true := fun i j hi hj => allI_iff.1 (show allI (s.hitAt i) s.nA = true from allI_iff.1 hk i hi) j hj
    refine ⟨e0, fun t a hT => ?_, ?_⟩
    · obtain ⟨i, j, hi, hj, rfl, rfl⟩ := InT_at hT
      rcases pen_spec hs hT with ⟨g, _⟩ | ⟨_, g, _⟩
      · rw [hall i j hi hj] at g; cases g
      · exact g
    · have e : s.mKnown = s.knOut s.nT := by unfold Shop.mKnown; rw [if_pos e0]
      rw [e]
      refine (knOut_in hs hk).congr fun m => ?_
      constructor
      · rintro ⟨i, hi, j, hj, rfl⟩
        refine ⟨_, _, InT_of hi hj, ?_⟩
        rcases pen_spec hs (InT_of hi hj) with ⟨g, _⟩ | ⟨_, _, g⟩
        · rw [hall i j hi hj] at g; cases g
        · exact g
      · rintro ⟨t, a, hT, rfl⟩
        obtain ⟨i, j, hi, hj, rfl, rfl⟩ := InT_at hT
        refine ⟨i, hi, j, hj, ?_⟩
        rcases pen_spec hs hT with ⟨g, _⟩ | ⟨_, _, g⟩
        · rw [hall i j hi hj] at g; cases g
        · exact g.symm
theorem InT_ex {s : Shop} (hs : s.chk = true) : s.InT s.tl s.al := by
  have h := hs
  simp only [Shop.chk, Shop.head, isPot, isSpan, within, Bool.and_eq_true, decide_eq_true_eq] at h
  unfold Shop.InT; omega
def Shop.farN (s : Shop) : Nat → Int
  | 0 => (s.th - s.tl + 1) * (s.ah - s.al + 1)
  | i + 1 => Shop.farN s i * ((nth s.pigs (i : Int)).many + 1)
def Shop.far (s : Shop) : Bool := hugeS s || (s.chk && decide (2000 < s.farN s.pigs.length))
end Go.Flong
namespace Go.Flong
open Go Go.Eng
def oneF (s : Shop) : Fnd := ⟨s, [⟨0, 0, 0⟩]⟩
theorem oneF_chk {s : Shop} (hs : s.chk = true) : (oneF s).chk = true := by
  have hb := tl_bnd hs
  refine chk_of hs (by simp [oneF]) (fun i hi => ?_) ?_
  · have : i = 0 := by simp [oneF] at hi; exact hi
    subst this
    show (⟨0, 0, 0⟩ : Night).chk = true
    rfl
  · show (0 : Int) + 0 ≤ s.tl
    omega
theorem one_best {f : Fnd} (h : f.nights.length = 1) (g : Int → List Int → Int) : f.bestF g = (oneF f.shop).bestF g := by
  unfold Fnd.bestF
  rw [h]; rfl
theorem oneF_cheap {s : Shop} (hs : s.chk = true) : (oneF s).leastE costG = s.mE (priceG s) ∧ (oneF s).leastV costG = s.mCheap :=
  have L := calmLaw (f := oneF s) (add := []) (oneF_chk hs) (show 0 < 1 by omega)
  ⟨L.e, L.c⟩
theorem one_cheap {f : Fnd} (h : f.nights.length = 1) (hf : f.chk = true) : f.leastE costG = f.shop.mE (priceG f.shop) ∧ f.leastV costG = f.shop.mCheap := by
  have hs := Fnd.shopOK hf
  have L := oneF_cheap hs
  have hE : f.leastE costG = (oneF f.shop).leastE costG := by unfold Fnd.leastE; rw [hf, oneF_chk hs, one_best h]
  have hV : f.leastV costG = (oneF f.shop).leastV costG := by unfold Fnd.leastV; rw [hE, one_best h]
  exact ⟨hE.trans L.1, hV.trans L.2⟩
theorem one_now {f : Fnd} (h : f.nights.length = 1) (t a : Int) : f.chW 1 0 (f.pt0.one t a 0) (left0 f.shop.pigs) = (oneF (f.shop.inTr t a)).wKnownN := by
  have e : f.pt0.one t a 0 = (oneF (f.shop.inTr t a)).pt0 := by
    show (⟨f.shop.pounds - 0, t - 0, t - 0, a, a, 0, 0⟩ : Pt) = ⟨f.shop.pounds, t, t, a, a, 0, 0⟩
    rw [Int.sub_zero, Int.sub_zero]
  have e2 : (oneF (f.shop.inTr t a)).wKnownN = (oneF (f.shop.inTr t a)).chW 1 0 (oneF (f.shop.inTr t a)).pt0 (left0 f.shop.pigs) := by
    show (oneF (f.shop.inTr t a)).aheadOf _ 0 _ = _
    unfold Fnd.aheadOf
    rw [if_pos (.inr rfl)]; rfl
  have e3 : ∀ (g : Fnd), g.nights.length = 1 → ∀ p left, g.chW 1 0 p left = min (chRows g.shop.pigs (fun _ => 0) (g.chL p left) (g.chL p left).length) neverC := fun g hg p left => by
    have : (fun r => g.aheadOf (fun q => g.chW 0 (0 + 1) q (takeL left r)) (0 + 1) ((p.addL g.shop.pigs r).lose (nth g.nights 0))) = fun _ => (0 : Int) := by
      funext r
      unfold Fnd.aheadOf
      rw [if_pos (.inl (by rw [hg]; rfl))]; rfl
    show min (chRows g.shop.pigs (fun r => g.aheadOf (fun q => g.chW 0 (0 + 1) q (takeL left r)) (0 + 1) ((p.addL g.shop.pigs r).lose (nth g.nights 0))) (g.chL p left) (g.chL p left).length) neverC = _
    rw [this]
  rw [e2, e3 f h, e3 _ rfl, e]; rfl
theorem one_at {s : Shop} (hs : s.chk = true) {t a : Int} (hc : (s.inTr t a).chk = true) : ((s.inTr t a).mE (priceG (s.inTr t a)) = 3 ∧ (oneF (s.inTr t a)).wKnownN = neverC) ∨
    ((s.inTr t a).mE (priceG (s.inTr t a)) = 0 ∧ (oneF (s.inTr t a)).wKnownN = (s.inTr t a).mCheap ∧ 0 ≤ (s.inTr t a).mCheap ∧ (s.inTr t a).mCheap ≤ 8000) := by
  have ho := oneF_chk hc
  have L := oneF_cheap hc
  have hn : neverC = 1073741824 := rfl
  have K := known_eq_cheap ho fun i hi => by
    have : i = 0 := by simp [oneF] at hi; exact hi
    subst this; rfl
  rw [wKnownN_eq ho]
  unfold Fnd.cheapC at K
  rcases leastC_eq ho costG_b with ⟨_, h1, h2⟩ | ⟨_, h1, h2, h3, h4, _⟩
  · left
    refine ⟨L.1.symm.trans h1, ?_⟩
    rcases knownC_eq ho with ⟨g1, _, g⟩ | ⟨_, g2, _, _, g⟩
    · exact g1
    · omega
  · right
    refine ⟨L.1.symm.trans h1, ?_, by rw [← L.2]; exact h3, by rw [← L.2]; exact h4⟩
    rw [← L.2]
    rcases knownC_eq ho with ⟨g1, _, g⟩ | ⟨_, g2, _, _, g⟩ <;> omega
theorem one_known {f : Fnd} (h : f.nights.length = 1) (hf : f.chk = true) (ht : (nth f.nights 0).test ≠ 0) : f.wKnownE = f.shop.kE ∧ f.wKnownV = f.shop.mKnown.2 := by
  have hs := Fnd.shopOK hf
  have hn : neverC = 1073741824 := rfl
  have hW : f.wKnownN = worst3 (fun t a d => f.chW 1 0 (f.pt0.one t a d) (left0 f.shop.pigs)) ⟨f.shop.tl, f.shop.th, f.shop.al, f.shop.ah, 0, 0⟩ := by
    unfold Fnd.wKnownN Fnd.ahW Fnd.aheadOf
    rw [if_neg (fun g => g.elim (fun e => by omega) ht), h]; rfl
  have hat : ∀ t a, f.shop.InT t a → ((f.shop.inTr t a).mE (priceG (f.shop.inTr t a)) = 3 ∧ f.chW 1 0 (f.pt0.one t a 0) (left0 f.shop.pigs) = neverC) ∨
    ((f.shop.inTr t a).mE (priceG (f.shop.inTr t a)) = 0 ∧ f.chW 1 0 (f.pt0.one t a 0) (left0 f.shop.pigs) = (f.shop.inTr t a).mCheap ∧ 0 ≤ (f.shop.inTr t a).mCheap ∧ (f.shop.inTr t a).mCheap ≤ 8000) := fun t a hT => by
    rw [one_now h]; exact one_at hs (Shop.InT.chk hs hT)
  have hE : f.wKnownE = if f.wKnownN ≥ neverC then 3 else 0 := by unfold Fnd.wKnownE; rw [hf]; rfl
  have hge : ∀ t a, f.shop.InT t a → f.chW 1 0 (f.pt0.one t a 0) (left0 f.shop.pigs) ≤ f.wKnownN := fun t a hT => by
    rw [hW]
    exact worst3_ge (g := fun t a d => f.chW 1 0 (f.pt0.one t a d) (left0 f.shop.pigs)) (s := ⟨f.shop.tl, f.shop.th, f.shop.al, f.shop.ah, 0, 0⟩) hT.1.1 hT.1.2 hT.2.1 hT.2.2 (Int.le_refl 0) (Int.le_refl 0)
  rcases known_spec hs with ⟨h1, h2, t, a, hT, h3⟩ | ⟨h1, h2, h3⟩
  · have : f.wKnownN ≥ neverC := by
      have := hge t a hT
      rcases hat t a hT with ⟨_, g⟩ | ⟨g, _⟩
      · omega
      · rw [h3] at g; cases g
    rw [if_pos this] at hE
    refine ⟨hE.trans h1.symm, ?_⟩
    unfold Fnd.wKnownV; rw [hE, h2]; rfl
  · have hc : ∀ t a, f.shop.InT t a → f.chW 1 0 (f.pt0.one t a 0) (left0 f.shop.pigs) = (f.shop.inTr t a).mCheap ∧ (f.shop.inTr t a).mCheap ≤ 8000 := fun t a hT => by
      rcases hat t a hT with ⟨g, _⟩ | ⟨_, g1, _, g2⟩
      · rw [h2 t a hT] at g; cases g
      · exact ⟨g1, g2⟩
    rcases h3 with ⟨g, _⟩ | ⟨g0, g1, ⟨t, a, hT, g2⟩, g3⟩
    · exact absurd ⟨_, _, InT_ex hs, rfl⟩ (g _)
    · have hm := hc t a hT
      have h4 := hge t a hT
      have h5 : f.wKnownN ≤ f.shop.mKnown.2 := by
        rw [hW]
        have h0 := (g3 _ g1).2
        refine worst3_le (by omega) fun t a d k1 k2 k3 k4 k5 k6 => ?_
        have hd : d = 0 := by
          have k7 : (0 : Int) ≤ d := k5
          have k8 : d ≤ 0 := k6
          omega
        subst hd
        have hT2 : f.shop.InT t a := ⟨⟨k1, k2⟩, k3, k4⟩
        show f.chW 1 0 (f.pt0.one t a 0) (left0 f.shop.pigs) ≤ _
        rw [(hc t a hT2).1]
        exact (g3 _ ⟨t, a, hT2, rfl⟩).2
      rw [if_neg (by omega)] at hE
      refine ⟨hE.trans h1.symm, ?_⟩
      unfold Fnd.wKnownV; rw [if_pos hE]; omega
def Fnd.first (f : Fnd) : Fnd := { f with nights := (f.nights.take (1 : Int).toNat).drop (0 : Int).toNat }
structure OneLaw (f : Fnd) : Prop where
  o : f.first.chk = true
  l : f.first.nights.length = 1
  e : f.first.leastE costG = f.shop.mE (priceG f.shop)
  c : f.first.leastV costG = f.shop.mCheap
  k : (f.first.tested 0).wKnownE = f.shop.kE
  n : (f.first.tested 0).wKnownV = f.shop.mKnown.2
theorem first_nights {f : Fnd} (h0 : 0 < f.nights.length) : f.first.nights = [nth f.nights 0] := by
  unfold Fnd.first
  match h : f.nights, h0 with
  | n :: l, _ => rfl
theorem oneLaw {f : Fnd} (hf : f.chk = true) (h0 : 0 < f.nights.length) : OneLaw f := by
  have e := first_nights h0
  have hl : f.first.nights.length = 1 := by rw [e]; rfl
  have hc : f.first.chk = true := by
    refine chk_of (show f.shop.chk = true from Fnd.shopOK hf) (by omega) (fun i hi => ?_) ?_
    · have : i = 0 := by omega
      subst this
      rw [e]
      exact (Fnd.nightsOK hf).at (j := 0) h0
    · rw [hl, hiTo_congr (l' := f.nights) (fun i hi => by
        have : i = 0 := by omega
        subst this
        rw [e]; rfl)]
      exact Fnd.hi_le hf (by omega)
  have hT := tested_chk hc (i := 0) (by omega)
  have hTl : (f.first.tested ((0 : Nat) : Int)).nights.length = 1 := by rw [tested_len]; exact hl
  have h1 := one_cheap hl hc
  have h2 := one_known hTl hT (by
    show (nth (lset f.first.nights _ _) 0).test ≠ 0
    rw [e]; show (1 : Int) ≠ 0; omega)
  exact ⟨hc, hl, h1.1, h1.2, h2.1, h2.2⟩
end Go.Flong
namespace Go.Flong
open Go Go.Eng Go.Proofs
theorem e66 : Enters' Tryz.prog 66 := Tryz.call66
theorem F23_1 : Fld Tryz.prog 23 1 1 := .mk Tryz.underlying23 rfl rfl rfl Tryz.sizeOf3 rfl
theorem S3 : TyS Tryz.prog 3 := ⟨Tryz.isAgg3, Tryz.sizeOf3⟩
theorem F23_0 : Fld Tryz.prog 23 0 0 := .mk Tryz.underlying23 rfl rfl rfl Tryz.sizeOf3 rfl
theorem e33 : Enters' Tryz.prog 33 := Tryz.call33
theorem F25_0 : Fld Tryz.prog 25 0 0 := .mk Tryz.underlying25 rfl rfl rfl Tryz.sizeOf3 rfl
theorem F25_1 : Fld Tryz.prog 25 1 1 := .mk Tryz.underlying25 rfl rfl rfl Tryz.sizeOf23 rfl
theorem G23 : TyG Tryz.prog 23 2 := ⟨Tryz.isAgg23, Tryz.sizeOf23⟩
theorem e36 : Enters' Tryz.prog 36 := Tryz.call36
theorem F25_2 : Fld Tryz.prog 25 2 3 := .mk Tryz.underlying25 rfl rfl rfl Tryz.sizeOf23 rfl
theorem e84 : Enters' Tryz.prog 84 := Tryz.call84
theorem F84_0 : Fld Tryz.prog 84 0 0 := .mk Tryz.underlying84 rfl rfl rfl Tryz.sizeOf3 rfl
theorem F84_1 : Fld Tryz.prog 84 1 1 := .mk Tryz.underlying84 rfl rfl rfl Tryz.sizeOf3 rfl
theorem F84_2 : Fld Tryz.prog 84 2 2 := .mk Tryz.underlying84 rfl rfl rfl Tryz.sizeOf3 rfl
theorem F84_3 : Fld Tryz.prog 84 3 3 := .mk Tryz.underlying84 rfl rfl rfl Tryz.sizeOf3 rfl
theorem F84_4 : Fld Tryz.prog 84 4 4 := .mk Tryz.underlying84 rfl rfl rfl Tryz.sizeOf3 rfl
theorem F28_0 : Fld Tryz.prog 28 0 0 := .mk Tryz.underlying28 rfl rfl rfl Tryz.sizeOf25 rfl
theorem G25 : TyG Tryz.prog 25 5 := ⟨Tryz.isAgg25, Tryz.sizeOf25⟩
theorem e65 : Enters' Tryz.prog 65 := Tryz.call65
theorem F28_1 : Fld Tryz.prog 28 1 5 := .mk Tryz.underlying28 rfl rfl rfl Tryz.sizeOf3 rfl
theorem F28_2 : Fld Tryz.prog 28 2 6 := .mk Tryz.underlying28 rfl rfl rfl Tryz.sizeOf23 rfl
theorem F28_3 : Fld Tryz.prog 28 3 8 := .mk Tryz.underlying28 rfl rfl rfl Tryz.sizeOf23 rfl
theorem F28_4 : Fld Tryz.prog 28 4 10 := .mk Tryz.underlying28 rfl rfl rfl Tryz.sizeOf26 rfl
theorem S26 : TyS Tryz.prog 26 := ⟨Tryz.isAgg26, Tryz.sizeOf26⟩
theorem L26 : IsSl Tryz.prog 26 84 5 := ⟨Tryz.underlying26, Tryz.sizeOf84⟩
theorem G84 : TyG Tryz.prog 84 5 := ⟨Tryz.isAgg84, Tryz.sizeOf84⟩
theorem e67 : Enters' Tryz.prog 67 := Tryz.call67
theorem e83 : Enters' Tryz.prog 83 := Tryz.call83
theorem Z84 : Zero Tryz.prog 84 [ai (0), ai (0), ai (0), ai (0), ai (0)] := .mk Tryz.zeroValue84 rfl rfl
theorem F31_0 : Fld Tryz.prog 31 0 0 := .mk Tryz.underlying31 rfl rfl rfl Tryz.sizeOf28 rfl
theorem G28 : TyG Tryz.prog 28 11 := ⟨Tryz.isAgg28, Tryz.sizeOf28⟩
theorem e35 : Enters' Tryz.prog 35 := Tryz.call35
theorem F31_1 : Fld Tryz.prog 31 1 11 := .mk Tryz.underlying31 rfl rfl rfl Tryz.sizeOf29 rfl
theorem S29 : TyS Tryz.prog 29 := ⟨Tryz.isAgg29, Tryz.sizeOf29⟩
theorem L29 : IsSl Tryz.prog 29 71 3 := ⟨Tryz.underlying29, Tryz.sizeOf71⟩
theorem F71_0 : Fld Tryz.prog 71 0 0 := .mk Tryz.underlying71 rfl rfl rfl Tryz.sizeOf23 rfl
theorem F71_1 : Fld Tryz.prog 71 1 2 := .mk Tryz.underlying71 rfl rfl rfl Tryz.sizeOf3 rfl
theorem e37 : Enters' Tryz.prog 37 := Tryz.call37
theorem L45 : IsSl Tryz.prog 45 3 1 := ⟨Tryz.underlying45, Tryz.sizeOf3⟩
theorem Z28 : Zero Tryz.prog 28 [ai (0), ai (0), ai (0), ai (0), ai (0), ai (0), ai (0), ai (0), ai (0), ai (0), .v (.slice none 0 0)] := .mk Tryz.zeroValue28 rfl rfl
theorem R26 : RowT Tryz.prog 26 84 5 40 [.int .i64 0, .int .i64 0, .int .i64 0, .int .i64 0, .int .i64 0] := ⟨Tryz.underlying26, ⟨Tryz.t84, _, by kernel_rfl, rfl, rfl, rfl, rfl⟩, rfl, by decide⟩
theorem Z31 : Zero Tryz.prog 31 [ai (0), ai (0), ai (0), ai (0), ai (0), ai (0), ai (0), ai (0), ai (0), ai (0), .v (.slice none 0 0), .v (.slice none 0 0)] := .mk Tryz.zeroValue31 rfl rfl
theorem e21 : Enters' Tryz.prog 21 := Tryz.call21
theorem R29 : RowT Tryz.prog 29 71 3 24 [.int .i64 0, .int .i64 0, .int .i64 0] := ⟨Tryz.underlying29, ⟨Tryz.t71, _, by kernel_rfl, rfl, rfl, rfl, rfl⟩, rfl, by decide⟩
theorem B31 : BldT Tryz.prog 31 [(0, 11), (11, 1)] [.int .i64 0, .int .i64 0, .int .i64 0, .int .i64 0, .int .i64 0, .int .i64 0, .int .i64 0, .int .i64 0, .int .i64 0, .int .i64 0, .slice none 0 0, .slice none 0 0] := BldT.mk (ns := [11, 1]) Tryz.underlying31 ⟨Tryz.sizeOf28, Tryz.sizeOf29, trivial⟩ rfl Tryz.zeroValue31 rfl
theorem G31 : TyG Tryz.prog 31 12 := ⟨Tryz.isAgg31, Tryz.sizeOf31⟩
theorem w66 {n lo hi : Int} : ∀ x ∈ ([.i (n), .i (lo), .i (hi)] : List SV), x.res (keys (α := Pred) []) := by simp [SV.res, El.res, At.res, keys]
theorem r66 {n lo hi : Int} : SV.res (keys (α := Pred) []) (.b (within n lo hi)) := by simp [SV.res, El.res, At.res, keys]
set_option maxHeartbeats 4000000 in
theorem c66 (n lo hi : Int)  : Sig Tryz.prog 66 [.i (n), .i (lo), .i (hi)] [] (.b (within n lo hi)) [] := by
  refine Sig.intro Tryz.func66 rfl 0 [(0, .i (n)), (1, .i (lo)), (2, .i (hi))] rfl w66 rfl rfl fun I w => ?_
  refine WP.seq (WP.region ?_)
  refine WPl.v rfl (o_assign rfl) ?_
  refine WPl.nil (EX.then (WP.seq (WP.region ?_)))
  refine WPl.v rfl (o_move rfl) ?_
  refine WPl.v rfl (o_move rfl) ?_
  refine WPl.v rfl (o_leq rfl rfl) ?_
  refine WPl.v rfl (o_move rfl) ?_
  refine WPl.bit 0 1 (decide (lo ≤ n)) rfl rfl ?_
  refine WPl.gv 0 rfl rfl (.plain rfl Iff.rfl rfl) (fun hb => o_move rfl) ?_
  refine WPl.gv 0 rfl rfl (.plain rfl Iff.rfl rfl) (fun hb => o_move rfl) ?_
  refine WPl.gv 0 rfl rfl (.plain rfl Iff.rfl rfl) (fun hb => o_leq rfl rfl) ?_
  refine WPl.v rfl (o_and rfl rfl rfl id) ?_
  refine WPl.v rfl (o_assign rfl) ?_
  refine WPl.nil (EX.then (WP.ret ?_))
  exact EX.fin id (.inl rfl) rfl (.tmp rfl .nil) rfl r66 trivial (by simp) (by simp)
theorem w68 {n lo hi : Int} : ∀ x ∈ ([.i (n), .i (lo), .i (hi)] : List SV), x.res (keys (α := Pred) []) := by simp [SV.res, El.res, At.res, keys]
theorem r68 {n lo hi : Int} : SV.res (keys (α := Pred) []) (.b (within n lo hi)) := by simp [SV.res, El.res, At.res, keys]
set_option maxHeartbeats 4000000 in
theorem c68 (n lo hi : Int)  : Sig Tryz.prog 68 [.i (n), .i (lo), .i (hi)] [] (.b (within n lo hi)) [] := by
  refine Sig.intro Tryz.func68 rfl 0 [(0, .i (n)), (1, .i (lo)), (2, .i (hi))] rfl w68 rfl rfl fun I w => ?_
  refine WP.seq (WP.region ?_)
  refine WPl.v rfl (o_assign rfl) ?_
  refine WPl.nil (EX.then (WP.seq (WP.region ?_)))
  refine WPl.v rfl (o_move rfl) ?_
  refine WPl.v rfl (o_move rfl) ?_
  refine WPl.v rfl (o_geq rfl rfl) ?_
  refine WPl.v rfl (o_move rfl) ?_
  refine WPl.bit 0 1 (decide (lo ≤ n)) rfl rfl ?_
  refine WPl.gv 0 rfl rfl (.plain rfl Iff.rfl rfl) (fun hb => o_move rfl) ?_
  refine WPl.gv 0 rfl rfl (.plain rfl Iff.rfl rfl) (fun hb => o_move rfl) ?_
  refine WPl.gv 0 rfl rfl (.plain rfl Iff.rfl rfl) (fun hb => o_leq rfl rfl) ?_
  refine WPl.v rfl (o_and rfl rfl rfl id) ?_
  refine WPl.v rfl (o_assign rfl) ?_
  refine WPl.nil (EX.then (WP.ret ?_))
  exact EX.fin id (.inl rfl) rfl (.tmp rfl .nil) rfl r68 trivial (by simp) (by simp)
theorem w33 {n lo hi : Int} : ∀ x ∈ ([.i (n), .i (lo), .i (hi)] : List SV), x.res (keys (α := Pred) []) := by simp [SV.res, El.res, At.res, keys]
theorem r33 {n lo hi : Int} : SV.res (keys (α := Pred) []) (.b (within n lo hi)) := by simp [SV.res, El.res, At.res, keys]
set_option maxHeartbeats 4000000 in
theorem c33 (n lo hi : Int)  : Sig Tryz.prog 33 [.i (n), .i (lo), .i (hi)] [] (.b (within n lo hi)) [] := by
  refine Sig.intro Tryz.func33 rfl 0 [(0, .i (n)), (1, .i (lo)), (2, .i (hi))] rfl w33 rfl rfl fun I w => ?_
  refine WP.seq (WP.region ?_)
  refine WPl.v rfl (o_assign rfl) ?_
  refine WPl.nil (EX.then (WP.seq (WP.region ?_)))
  refine WPl.v rfl (o_move rfl) ?_
  refine WPl.v rfl (o_move rfl) ?_
  refine WPl.v rfl (o_geq rfl rfl) ?_
  refine WPl.v rfl (o_move rfl) ?_
  refine WPl.bit 0 1 (decide (lo ≤ n)) rfl rfl ?_
  refine WPl.gv 0 rfl rfl (.plain rfl Iff.rfl rfl) (fun hb => o_move rfl) ?_
  refine WPl.gv 0 rfl rfl (.plain rfl Iff.rfl rfl) (fun hb => o_move rfl) ?_
  refine WPl.gv 0 rfl rfl (.plain rfl Iff.rfl rfl) (fun hb => o_leq rfl rfl) ?_
  refine WPl.v rfl (o_and rfl rfl rfl id) ?_
  refine WPl.v rfl (o_assign rfl) ?_
  refine WPl.nil (EX.then (WP.ret ?_))
  exact EX.fin id (.inl rfl) rfl (.tmp rfl .nil) rfl r33 trivial (by simp) (by simp)
theorem w37 {n lo hi : Int} : ∀ x ∈ ([.i (n), .i (lo), .i (hi)] : List SV), x.res (keys (α := Pred) []) := by simp [SV.res, El.res, At.res, keys]
theorem r37 {n lo hi : Int} : SV.res (keys (α := Pred) []) (.b (within n lo hi)) := by simp [SV.res, El.res, At.res, keys]
set_option maxHeartbeats 4000000 in
theorem c37 (n lo hi : Int)  : Sig Tryz.prog 37 [.i (n), .i (lo), .i (hi)] [] (.b (within n lo hi)) [] := by
  refine Sig.intro Tryz.func37 rfl 0 [(0, .i (n)), (1, .i (lo)), (2, .i (hi))] rfl w37 rfl rfl fun I w => ?_
  refine WP.seq (WP.region ?_)
  refine WPl.v rfl (o_assign rfl) ?_
  refine WPl.nil (EX.then (WP.seq (WP.region ?_)))
  refine WPl.v rfl (o_move rfl) ?_
  refine WPl.v rfl (o_move rfl) ?_
  refine WPl.v rfl (o_move rfl) ?_
  refine WPl.cs 0 rfl rfl rfl rfl (o_sig 0 id (c66 n lo hi) e66 rfl rfl rfl w66 trivial r66) ?_
  refine WPl.v rfl (o_assign rfl) ?_
  refine WPl.nil (EX.then (WP.ret ?_))
  exact EX.fin id (.inl rfl) rfl (.tmp rfl .nil) rfl r37 trivial (by simp) (by simp)
theorem w36 {lo hi most : Int} : ∀ x ∈ ([.e (.g [ai (lo), ai (hi)]), .i (most)] : List SV), x.res (keys (α := Pred) []) := by simp [SV.res, El.res, At.res, keys]
theorem r36 {lo hi most : Int} : SV.res (keys (α := Pred) []) (.b (isSpan lo hi most)) := by simp [SV.res, El.res, At.res, keys]
set_option maxHeartbeats 4000000 in
theorem c36 (lo hi most : Int)  : Sig Tryz.prog 36 [.e (.g [ai (lo), ai (hi)]), .i (most)] [] (.b (isSpan lo hi most)) [] := by
  refine Sig.intro Tryz.func36 rfl 0 [(0, .e (.g [ai (lo), ai (hi)])), (1, .i (most))] rfl w36 rfl rfl fun I w => ?_
  refine WP.seq (WP.region ?_)
  refine WPl.l 0 1 rfl rfl rfl (o_boxg rfl) ?_
  refine WPl.v rfl (o_assign rfl) ?_
  refine WPl.nil (EX.then (WP.seq (WP.region ?_)))
  refine WPl.v rfl (o_fldp F23_1 rfl) ?_
  refine WPl.v rfl (o_ldp S3 rfl rfl rfl) ?_
  refine WPl.v rfl (o_move rfl) ?_
  refine WPl.cs 1 rfl rfl rfl rfl (o_sig 1 id (c66 hi 0 most) e66 rfl rfl rfl w66 trivial r66) ?_
  refine WPl.v rfl (o_move rfl) ?_
  refine WPl.bit 1 2 (within hi 0 most) rfl rfl ?_
  refine WPl.gv 1 rfl rfl (.plain rfl Iff.rfl rfl) (fun hb => o_fldp F23_0 rfl) ?_
  refine WPl.gv 1 rfl rfl (.plain rfl Iff.rfl rfl) (fun hb => o_ldp S3 rfl rfl rfl) ?_
  refine WPl.gv 1 rfl rfl (.plain rfl Iff.rfl rfl) (fun hb => o_fldp F23_1 rfl) ?_
  refine WPl.gv 1 rfl rfl (.plain rfl Iff.rfl rfl) (fun hb => o_ldp S3 rfl rfl rfl) ?_
  refine WPl.gc0 1 rfl rfl (.plain rfl Iff.rfl rfl) (fun hb => o_sig 2 id (c66 lo 0 hi) e66 rfl rfl rfl w66 trivial r66) ?_
  refine WPl.v rfl (o_and rfl rfl rfl id) ?_
  refine WPl.v rfl (o_assign rfl) ?_
  refine WPl.nil (EX.then (WP.ret ?_))
  exact EX.fin id (.inl rfl) rfl (.tmp rfl .nil) rfl r36 trivial (by simp) (by simp)
theorem w84 {lo hi most : Int} : ∀ x ∈ ([.e (.g [ai (lo), ai (hi)]), .i (most)] : List SV), x.res (keys (α := Pred) []) := by simp [SV.res, El.res, At.res, keys]
theorem r84 {lo hi most : Int} : SV.res (keys (α := Pred) []) (.b (isSpan lo hi most)) := by simp [SV.res, El.res, At.res, keys]
set_option maxHeartbeats 4000000 in
theorem c84 (lo hi most : Int)  : Sig Tryz.prog 84 [.e (.g [ai (lo), ai (hi)]), .i (most)] [] (.b (isSpan lo hi most)) [] := by
  refine Sig.intro Tryz.func84 rfl 0 [(0, .e (.g [ai (lo), ai (hi)])), (1, .i (most))] rfl w84 rfl rfl fun I w => ?_
  refine WP.seq (WP.region ?_)
  refine WPl.l 0 1 rfl rfl rfl (o_boxg rfl) ?_
  refine WPl.v rfl (o_assign rfl) ?_
  refine WPl.nil (EX.then (WP.seq (WP.region ?_)))
  refine WPl.v rfl (o_fldp F23_1 rfl) ?_
  refine WPl.v rfl (o_ldp S3 rfl rfl rfl) ?_
  refine WPl.v rfl (o_move rfl) ?_
  refine WPl.cs 1 rfl rfl rfl rfl (o_sig 1 id (c33 hi 0 most) e33 rfl rfl rfl w33 trivial r33) ?_
  refine WPl.v rfl (o_move rfl) ?_
  refine WPl.bit 1 2 (within hi 0 most) rfl rfl ?_
  refine WPl.gv 1 rfl rfl (.plain rfl Iff.rfl rfl) (fun hb => o_fldp F23_0 rfl) ?_
  refine WPl.gv 1 rfl rfl (.plain rfl Iff.rfl rfl) (fun hb => o_ldp S3 rfl rfl rfl) ?_
  refine WPl.gv 1 rfl rfl (.plain rfl Iff.rfl rfl) (fun hb => o_fldp F23_1 rfl) ?_
  refine WPl.gv 1 rfl rfl (.plain rfl Iff.rfl rfl) (fun hb => o_ldp S3 rfl rfl rfl) ?_
  refine WPl.gc0 1 rfl rfl (.plain rfl Iff.rfl rfl) (fun hb => o_sig 2 id (c33 lo 0 hi) e33 rfl rfl rfl w33 trivial r33) ?_
  refine WPl.v rfl (o_and rfl rfl rfl id) ?_
  refine WPl.v rfl (o_assign rfl) ?_
  refine WPl.nil (EX.then (WP.ret ?_))
  exact EX.fin id (.inl rfl) rfl (.tmp rfl .nil) rfl r84 trivial (by simp) (by simp)
theorem w65 {p tl th al ah : Int} : ∀ x ∈ ([.e (.g [ai (p), ai (tl), ai (th), ai (al), ai (ah)])] : List SV), x.res (keys (α := Pred) []) := by simp [SV.res, El.res, At.res, keys]
theorem r65 {p tl th al ah : Int} : SV.res (keys (α := Pred) []) (.b (isPot p tl th al ah)) := by simp [SV.res, El.res, At.res, keys]
set_option maxHeartbeats 4000000 in
theorem c65 (p tl th al ah : Int)  : Sig Tryz.prog 65 [.e (.g [ai (p), ai (tl), ai (th), ai (al), ai (ah)])] [] (.b (isPot p tl th al ah)) [] := by
  refine Sig.intro Tryz.func65 rfl 0 [(0, .e (.g [ai (p), ai (tl), ai (th), ai (al), ai (ah)]))] rfl w65 rfl rfl fun I w => ?_
  refine WP.seq (WP.region ?_)
  refine WPl.l 0 1 rfl rfl rfl (o_boxg rfl) ?_
  refine WPl.v rfl (o_assign rfl) ?_
  refine WPl.nil (EX.then (WP.seq (WP.region ?_)))
  refine WPl.v rfl (o_fldp F25_0 rfl) ?_
  refine WPl.v rfl (o_ldp S3 rfl rfl rfl) ?_
  refine WPl.cs 1 rfl rfl rfl rfl (o_sig 1 id (c66 p 0 400) e66 rfl rfl rfl w66 trivial r66) ?_
  refine WPl.v rfl (o_move rfl) ?_
  refine WPl.bit 1 2 (within p 0 400) rfl rfl ?_
  refine WPl.gv 1 rfl rfl (.plain rfl Iff.rfl rfl) (fun hb => o_fldp F25_1 rfl) ?_
  refine WPl.gv 1 rfl rfl (.plain rfl Iff.rfl rfl) (fun hb => o_ldpg G23 rfl rfl rfl) ?_
  refine WPl.gv 1 rfl rfl (.plain rfl Iff.rfl rfl) (fun hb => o_fldp F25_0 rfl) ?_
  refine WPl.gv 1 rfl rfl (.plain rfl Iff.rfl rfl) (fun hb => o_ldp S3 rfl rfl rfl) ?_
  refine WPl.gc0 1 rfl rfl (.plain rfl Iff.rfl rfl) (fun hb => o_sig 2 id (c36 tl th p) e36 rfl rfl rfl w36 trivial r36) ?_
  refine WPl.v rfl (o_and rfl rfl rfl id) ?_
  refine WPl.v rfl (o_move rfl) ?_
  refine WPl.bit 2 3 ((within p 0 400) && (isSpan tl th p)) rfl rfl ?_
  refine WPl.gv 2 rfl rfl (.plain rfl Iff.rfl rfl) (fun hb => o_fldp F25_2 rfl) ?_
  refine WPl.gv 2 rfl rfl (.plain rfl Iff.rfl rfl) (fun hb => o_ldpg G23 rfl rfl rfl) ?_
  refine WPl.gv 2 rfl rfl (.plain rfl Iff.rfl rfl) (fun hb => o_fldp F25_0 rfl) ?_
  refine WPl.gv 2 rfl rfl (.plain rfl Iff.rfl rfl) (fun hb => o_ldp S3 rfl rfl rfl) ?_
  refine WPl.gc0 2 rfl rfl (.plain rfl Iff.rfl rfl) (fun hb => o_sig 3 id (c36 al ah p) e36 rfl rfl rfl w36 trivial r36) ?_
  refine WPl.v rfl (o_and rfl rfl rfl id) ?_
  refine WPl.v rfl (o_move rfl) ?_
  refine WPl.bit 3 4 (((within p 0 400) && (isSpan tl th p)) && (isSpan al ah p)) rfl rfl ?_
  refine WPl.gv 3 rfl rfl (.plain rfl Iff.rfl rfl) (fun hb => o_fldp F25_1 rfl) ?_
  refine WPl.gv 3 rfl rfl (.plain rfl Iff.rfl rfl) (fun hb => o_fldp F23_1 rfl) ?_
  refine WPl.gv 3 rfl rfl (.plain rfl Iff.rfl rfl) (fun hb => o_ldp S3 rfl rfl rfl) ?_
  refine WPl.gv 3 rfl rfl (.plain rfl Iff.rfl rfl) (fun hb => o_fldp F25_2 rfl) ?_
  refine WPl.gv 3 rfl rfl (.plain rfl Iff.rfl rfl) (fun hb => o_fldp F23_1 rfl) ?_
  refine WPl.gv 3 rfl rfl (.plain rfl Iff.rfl rfl) (fun hb => o_ldp S3 rfl rfl rfl) ?_
  refine WPl.gv 3 rfl rfl (.plain rfl Iff.rfl rfl) (fun hb => o_add rfl rfl (by simp [within, isSpan] at hb; omega) (by simp [within, isSpan] at hb; omega)) ?_
  refine WPl.gv 3 rfl rfl (.plain rfl Iff.rfl rfl) (fun hb => o_fldp F25_0 rfl) ?_
  refine WPl.gv 3 rfl rfl (.plain rfl Iff.rfl rfl) (fun hb => o_ldp S3 rfl rfl rfl) ?_
  refine WPl.gv 3 rfl rfl (.plain rfl Iff.rfl rfl) (fun hb => o_leq rfl rfl) ?_
  refine WPl.v rfl (o_and rfl rfl rfl id) ?_
  refine WPl.v rfl (o_assign rfl) ?_
  refine WPl.nil (EX.then (WP.ret ?_))
  exact EX.fin id (.inl rfl) rfl (.tmp rfl .nil) rfl r65 trivial (by simp) (by simp)
theorem w83 {p tl th al ah : Int} : ∀ x ∈ ([.e (.g [ai (p), ai (tl), ai (th), ai (al), ai (ah)])] : List SV), x.res (keys (α := Pred) []) := by simp [SV.res, El.res, At.res, keys]
theorem r83 {p tl th al ah : Int} : SV.res (keys (α := Pred) []) (.b (isPot p tl th al ah)) := by simp [SV.res, El.res, At.res, keys]
set_option maxHeartbeats 4000000 in
theorem c83 (p tl th al ah : Int)  : Sig Tryz.prog 83 [.e (.g [ai (p), ai (tl), ai (th), ai (al), ai (ah)])] [] (.b (isPot p tl th al ah)) [] := by
  refine Sig.intro Tryz.func83 rfl 0 [(0, .e (.g [ai (p), ai (tl), ai (th), ai (al), ai (ah)]))] rfl w83 rfl rfl fun I w => ?_
  refine WP.seq (WP.region ?_)
  refine WPl.l 0 1 rfl rfl rfl (o_boxg rfl) ?_
  refine WPl.v rfl (o_assign rfl) ?_
  refine WPl.nil (EX.then (WP.seq (WP.region ?_)))
  refine WPl.v rfl (o_fldp F25_0 rfl) ?_
  refine WPl.v rfl (o_ldp S3 rfl rfl rfl) ?_
  refine WPl.cs 1 rfl rfl rfl rfl (o_sig 1 id (c33 p 0 400) e33 rfl rfl rfl w33 trivial r33) ?_
  refine WPl.v rfl (o_move rfl) ?_
  refine WPl.bit 1 2 (within p 0 400) rfl rfl ?_
  refine WPl.gv 1 rfl rfl (.plain rfl Iff.rfl rfl) (fun hb => o_fldp F25_1 rfl) ?_
  refine WPl.gv 1 rfl rfl (.plain rfl Iff.rfl rfl) (fun hb => o_ldpg G23 rfl rfl rfl) ?_
  refine WPl.gv 1 rfl rfl (.plain rfl Iff.rfl rfl) (fun hb => o_fldp F25_0 rfl) ?_
  refine WPl.gv 1 rfl rfl (.plain rfl Iff.rfl rfl) (fun hb => o_ldp S3 rfl rfl rfl) ?_
  refine WPl.gc0 1 rfl rfl (.plain rfl Iff.rfl rfl) (fun hb => o_sig 2 id (c84 tl th p) e84 rfl rfl rfl w84 trivial r84) ?_
  refine WPl.v rfl (o_and rfl rfl rfl id) ?_
  refine WPl.v rfl (o_move rfl) ?_
  refine WPl.bit 2 3 ((within p 0 400) && (isSpan tl th p)) rfl rfl ?_
  refine WPl.gv 2 rfl rfl (.plain rfl Iff.rfl rfl) (fun hb => o_fldp F25_2 rfl) ?_
  refine WPl.gv 2 rfl rfl (.plain rfl Iff.rfl rfl) (fun hb => o_ldpg G23 rfl rfl rfl) ?_
  refine WPl.gv 2 rfl rfl (.plain rfl Iff.rfl rfl) (fun hb => o_fldp F25_0 rfl) ?_
  refine WPl.gv 2 rfl rfl (.plain rfl Iff.rfl rfl) (fun hb => o_ldp S3 rfl rfl rfl) ?_
  refine WPl.gv 2 rfl rfl (.plain rfl Iff.rfl rfl) (fun hb => o_fldp F25_1 rfl) ?_
  refine WPl.gv 2 rfl rfl (.plain rfl Iff.rfl rfl) (fun hb => o_fldp F23_1 rfl) ?_
  refine WPl.gv 2 rfl rfl (.plain rfl Iff.rfl rfl) (fun hb => o_ldp S3 rfl rfl rfl) ?_
  refine WPl.gv 2 rfl rfl (.plain rfl Iff.rfl rfl) (fun hb => o_sub rfl rfl (by simp [within, isSpan] at hb; omega) (by simp [within, isSpan] at hb; omega)) ?_
  refine WPl.gc0 2 rfl rfl (.plain rfl Iff.rfl rfl) (fun hb => o_sig 3 id (c84 al ah (p - th)) e84 rfl rfl rfl w84 trivial r84) ?_
  refine WPl.v rfl (o_and rfl rfl rfl id) ?_
  refine WPl.v rfl (o_assign rfl) ?_
  refine WPl.nil (EX.then (WP.ret ?_))
  rw [← isPotP_eq]
  exact EX.fin id (.inl rfl) rfl (.tmp rfl .nil) rfl (by simp [SV.res, El.res, At.res, keys]) trivial (by simp) (by simp)
theorem w67 {p : Pig} : ∀ x ∈ ([.e (.g [ai (p.pounds), ai (p.tin), ai (p.ant), ai (p.pence), ai (p.many)])] : List SV), x.res (keys (α := Pred) []) := by simp [SV.res, El.res, At.res, keys]
theorem r67 {p : Pig} : SV.res (keys (α := Pred) []) (.b (p.chk)) := by simp [SV.res, El.res, At.res, keys]
set_option maxHeartbeats 4000000 in
theorem c67 (p : Pig)  : Sig Tryz.prog 67 [.e (.g [ai (p.pounds), ai (p.tin), ai (p.ant), ai (p.pence), ai (p.many)])] [] (.b (p.chk)) [] := by
  refine Sig.intro Tryz.func67 rfl 0 [(0, .e (.g [ai (p.pounds), ai (p.tin), ai (p.ant), ai (p.pence), ai (p.many)]))] rfl w67 rfl rfl fun I w => ?_
  refine WP.seq (WP.region ?_)
  refine WPl.l 0 1 rfl rfl rfl (o_boxg rfl) ?_
  refine WPl.v rfl (o_assign rfl) ?_
  refine WPl.nil (EX.then (WP.seq (WP.region ?_)))
  refine WPl.v rfl (o_fldp F84_0 rfl) ?_
  refine WPl.v rfl (o_ldp S3 rfl rfl rfl) ?_
  refine WPl.cs 1 rfl rfl rfl rfl (o_sig 1 id (c66 p.pounds 1 40) e66 rfl rfl rfl w66 trivial r66) ?_
  refine WPl.v rfl (o_move rfl) ?_
  refine WPl.bit 1 2 (within p.pounds 1 40) rfl rfl ?_
  refine WPl.gv 1 rfl rfl (.plain rfl Iff.rfl rfl) (fun hb => o_fldp F84_1 rfl) ?_
  refine WPl.gv 1 rfl rfl (.plain rfl Iff.rfl rfl) (fun hb => o_ldp S3 rfl rfl rfl) ?_
  refine WPl.gv 1 rfl rfl (.plain rfl Iff.rfl rfl) (fun hb => o_fldp F84_0 rfl) ?_
  refine WPl.gv 1 rfl rfl (.plain rfl Iff.rfl rfl) (fun hb => o_ldp S3 rfl rfl rfl) ?_
  refine WPl.gc0 1 rfl rfl (.plain rfl Iff.rfl rfl) (fun hb => o_sig 2 id (c66 p.tin 0 p.pounds) e66 rfl rfl rfl w66 trivial r66) ?_
  refine WPl.v rfl (o_and rfl rfl rfl id) ?_
  refine WPl.v rfl (o_move rfl) ?_
  refine WPl.bit 2 3 ((within p.pounds 1 40) && (within p.tin 0 p.pounds)) rfl rfl ?_
  refine WPl.gv 2 rfl rfl (.plain rfl Iff.rfl rfl) (fun hb => o_fldp F84_2 rfl) ?_
  refine WPl.gv 2 rfl rfl (.plain rfl Iff.rfl rfl) (fun hb => o_ldp S3 rfl rfl rfl) ?_
  refine WPl.gv 2 rfl rfl (.plain rfl Iff.rfl rfl) (fun hb => o_fldp F84_0 rfl) ?_
  refine WPl.gv 2 rfl rfl (.plain rfl Iff.rfl rfl) (fun hb => o_ldp S3 rfl rfl rfl) ?_
  refine WPl.gv 2 rfl rfl (.plain rfl Iff.rfl rfl) (fun hb => o_fldp F84_1 rfl) ?_
  refine WPl.gv 2 rfl rfl (.plain rfl Iff.rfl rfl) (fun hb => o_ldp S3 rfl rfl rfl) ?_
  refine WPl.gv 2 rfl rfl (.plain rfl Iff.rfl rfl) (fun hb => o_sub rfl rfl (by simp [within, isSpan] at hb; omega) (by simp [within, isSpan] at hb; omega)) ?_
  refine WPl.gc0 2 rfl rfl (.plain rfl Iff.rfl rfl) (fun hb => o_sig 3 id (c66 p.ant 0 (p.pounds - p.tin)) e66 rfl rfl rfl w66 trivial r66) ?_
  refine WPl.v rfl (o_and rfl rfl rfl id) ?_
  refine WPl.v rfl (o_move rfl) ?_
  refine WPl.bit 3 4 (((within p.pounds 1 40) && (within p.tin 0 p.pounds)) && (within p.ant 0 (p.pounds - p.tin))) rfl rfl ?_
  refine WPl.gv 3 rfl rfl (.plain rfl Iff.rfl rfl) (fun hb => o_fldp F84_3 rfl) ?_
  refine WPl.gv 3 rfl rfl (.plain rfl Iff.rfl rfl) (fun hb => o_ldp S3 rfl rfl rfl) ?_
  refine WPl.gc0 3 rfl rfl (.plain rfl Iff.rfl rfl) (fun hb => o_sig 4 id (c66 p.pence 0 99) e66 rfl rfl rfl w66 trivial r66) ?_
  refine WPl.v rfl (o_and rfl rfl rfl id) ?_
  refine WPl.v rfl (o_move rfl) ?_
  refine WPl.bit 4 5 ((((within p.pounds 1 40) && (within p.tin 0 p.pounds)) && (within p.ant 0 (p.pounds - p.tin))) && (within p.pence 0 99)) rfl rfl ?_
  refine WPl.gv 4 rfl rfl (.plain rfl Iff.rfl rfl) (fun hb => o_fldp F84_4 rfl) ?_
  refine WPl.gv 4 rfl rfl (.plain rfl Iff.rfl rfl) (fun hb => o_ldp S3 rfl rfl rfl) ?_
  refine WPl.gc0 4 rfl rfl (.plain rfl Iff.rfl rfl) (fun hb => o_sig 5 id (c66 p.many 0 5) e66 rfl rfl rfl w66 trivial r66) ?_
  refine WPl.v rfl (o_and rfl rfl rfl id) ?_
  refine WPl.v rfl (o_assign rfl) ?_
  refine WPl.nil (EX.then (WP.ret ?_))
  exact EX.fin id (.inl rfl) rfl (.tmp rfl .nil) rfl r67 trivial (by simp) (by simp)
theorem w35 {s : Shop} : ∀ x ∈ ([.e (.g [ai (s.pounds), ai (s.tl), ai (s.th), ai (s.al), ai (s.ah), ai (s.room), ai (s.tpl), ai (s.tph), ai (s.apl), ai (s.aph), .q 0])] : List SV), x.res (keys (α := Pred) [(0, PL EPig (s.pigs))]) := by simp [SV.res, El.res, At.res, keys]
theorem r35 {s : Shop} : SV.res (keys (α := Pred) []) (.i (errM s.chk)) := by simp [SV.res, El.res, At.res, keys]
set_option maxHeartbeats 4000000 in
theorem c35 (s : Shop)  : Sig Tryz.prog 35 [.e (.g [ai (s.pounds), ai (s.tl), ai (s.th), ai (s.al), ai (s.ah), ai (s.room), ai (s.tpl), ai (s.tph), ai (s.apl), ai (s.aph), .q 0])] [(0, PL EPig (s.pigs))] (.i (errM s.chk)) [] := by
  refine Sig.intro Tryz.func35 rfl 1 [(0, .e (.g [ai (s.pounds), ai (s.tl), ai (s.th), ai (s.al), ai (s.ah), ai (s.room), ai (s.tpl), ai (s.tph), ai (s.apl), ai (s.aph), .q 0]))] rfl w35 rfl rfl fun I w => ?_
  refine WP.seq (WP.region ?_)
  refine WPl.l 1 2 rfl rfl rfl (o_boxg rfl) ?_
  refine WPl.v rfl (o_assign rfl) ?_
  refine WPl.nil (EX.then (WP.seq (WP.seq (WP.region ?_))))
  refine WPl.v rfl (o_fldp F28_0 rfl) ?_
  refine WPl.v rfl (o_ldpg G25 rfl rfl rfl) ?_
  refine WPl.cs 2 rfl rfl rfl rfl (o_sig 2 id (c65 s.pounds s.tl s.th s.al s.ah) e65 rfl rfl rfl w65 trivial r65) ?_
  refine WPl.v rfl (o_not rfl) ?_
  refine WPl.v rfl (o_move rfl) ?_
  refine WPl.bit 2 3 (!(!(isPot s.pounds s.tl s.th s.al s.ah))) rfl rfl ?_
  refine WPl.gv 2 rfl rfl (.plain rfl (by simp) rfl) (fun hb => o_fldp F28_1 rfl) ?_
  refine WPl.gv 2 rfl rfl (.plain rfl (by simp) rfl) (fun hb => o_ldp S3 rfl rfl rfl) ?_
  refine WPl.gv 2 rfl rfl (.plain rfl (by simp) rfl) (fun hb => o_fldp F28_0 rfl) ?_
  refine WPl.gv 2 rfl rfl (.plain rfl (by simp) rfl) (fun hb => o_fldp F25_0 rfl) ?_
  refine WPl.gv 2 rfl rfl (.plain rfl (by simp) rfl) (fun hb => o_ldp S3 rfl rfl rfl) ?_
  refine WPl.gc0 2 rfl rfl (.plain rfl (by simp) rfl) (fun hb => o_sig 3 id (c66 s.room s.pounds 999) e66 rfl rfl rfl w66 trivial r66) ?_
  refine WPl.gv 2 rfl rfl (.plain rfl (by simp) rfl) (fun hb => o_not rfl) ?_
  refine WPl.v rfl (o_or rfl rfl rfl (by first | (simp; done) | simp_all)) ?_
  refine WPl.v rfl (o_move rfl) ?_
  refine WPl.bit 3 4 (!((!(isPot s.pounds s.tl s.th s.al s.ah)) || (!(within s.room s.pounds 999)))) rfl rfl ?_
  refine WPl.gv 3 rfl rfl (.plain rfl (by simp) rfl) (fun hb => o_fldp F28_2 rfl) ?_
  refine WPl.gv 3 rfl rfl (.plain rfl (by simp) rfl) (fun hb => o_ldpg G23 rfl rfl rfl) ?_
  refine WPl.gc0 3 rfl rfl (.plain rfl (by simp) rfl) (fun hb => o_sig 4 id (c36 s.tpl s.tph 1000) e36 rfl rfl rfl w36 trivial r36) ?_
  refine WPl.gv 3 rfl rfl (.plain rfl (by simp) rfl) (fun hb => o_not rfl) ?_
  refine WPl.v rfl (o_or rfl rfl rfl (by first | (simp; done) | simp_all)) ?_
  refine WPl.v rfl (o_move rfl) ?_
  refine WPl.bit 4 5 (!(((!(isPot s.pounds s.tl s.th s.al s.ah)) || (!(within s.room s.pounds 999))) || (!(isSpan s.tpl s.tph 1000)))) rfl rfl ?_
  refine WPl.gv 4 rfl rfl (.plain rfl (by simp) rfl) (fun hb => o_fldp F28_3 rfl) ?_
  refine WPl.gv 4 rfl rfl (.plain rfl (by simp) rfl) (fun hb => o_ldpg G23 rfl rfl rfl) ?_
  refine WPl.gc0 4 rfl rfl (.plain rfl (by simp) rfl) (fun hb => o_sig 5 id (c36 s.apl s.aph 1000) e36 rfl rfl rfl w36 trivial r36) ?_
  refine WPl.gv 4 rfl rfl (.plain rfl (by simp) rfl) (fun hb => o_not rfl) ?_
  refine WPl.v rfl (o_or rfl rfl rfl (by first | (simp; done) | simp_all)) ?_
  refine WPl.v rfl (o_move rfl) ?_
  refine WPl.bit 5 6 (!((((!(isPot s.pounds s.tl s.th s.al s.ah)) || (!(within s.room s.pounds 999))) || (!(isSpan s.tpl s.tph 1000))) || (!(isSpan s.apl s.aph 1000)))) rfl rfl ?_
  refine WPl.gv 5 rfl rfl (.plain rfl (by simp) rfl) (fun hb => o_fldp F28_4 rfl) ?_
  refine WPl.gv 5 rfl rfl (.plain rfl (by simp) rfl) (fun hb => o_ldp S26 rfl rfl rfl) ?_
  refine WPl.gv 5 rfl rfl (.plain rfl (by simp) rfl) (fun hb => o_lenq L26 rfl (lx rfl)) ?_
  refine WPl.gv 5 rfl rfl (.plain rfl (by simp) rfl) (fun hb => o_gtr rfl rfl) ?_
  refine WPl.v rfl (o_or rfl rfl rfl (by first | (simp; done) | simp_all)) ?_
  refine WPl.nil (EX.then ?_)
  refine WP.cond rfl (fun hc1 => ?_) (fun hc1 => ?_)
  · try simp only [cnd] at hc1
    refine WP.seq (WP.region ?_)
    refine WPl.v rfl (o_assign rfl) ?_
    refine WPl.nil (EX.then (WP.ret (EX.ret_then ?_)))
    have h0 : s.head = false := by simp [Shop.head]; (try simp at hc1); grind
    rw [show errM s.chk = 10 from by simp [errM, Shop.chk, h0]]
    exact EX.fin id (.inl rfl) rfl (.tmp rfl .nil) rfl (by simp [SV.res, El.res, At.res, keys]) trivial (by simp) (by simp)
  · try simp only [cnd] at hc1
    refine WP.skip (EX.then (WP.seq (WP.seq (WP.region ?_))))
    refine WPl.v rfl (o_assign rfl) ?_
    refine WPl.nil (EX.then (WP.block ?_))
    refine WP.loop (Gh := Nat) (fun i => ⟨6, [(1, .e (.a (.p 1 (0)))), (2, .i (0)), (3, .i ((i : Int)))], [(0, PL EPig (s.pigs))], [(1, .blk [ai (s.pounds), ai (s.tl), ai (s.th), ai (s.al), ai (s.ah), ai (s.room), ai (s.tpl), ai (s.tph), ai (s.apl), ai (s.aph), .q 0] 28)], [], []⟩) (fun i => (i : Int) ≤ s.pigs.length ∧ ∀ j : Nat, j < i → (nth s.pigs j).chk = true) (fun i => s.pigs.length - i) (0) id ?_ (LeR.of ⟨rfl, rfl, rfl, trivial⟩ ⟨(lx rfl), trivial⟩ ⟨rfl, trivial⟩ rfl rfl rfl rfl rfl) ?_
    · exact ⟨by omega, fun j hj => absurd hj (Nat.not_lt_zero j)⟩
    intro i hφ
    obtain ⟨hi, hall⟩ := hφ
    refine WP.seq (WP.seq (WP.region ?_))
    refine WPl.v rfl (o_move rfl) ?_
    refine WPl.v rfl (o_fldp F28_4 rfl) ?_
    refine WPl.v rfl (o_ldp S26 rfl rfl rfl) ?_
    refine WPl.v rfl (o_lenq L26 rfl (lx rfl)) ?_
    refine WPl.v rfl (o_lss rfl rfl) ?_
    refine WPl.nil (EX.then ?_)
    refine WP.cond rfl (fun hc2 => ?_) (fun hc2 => ?_)
    · try simp only [cnd] at hc2
      refine WP.skip (EX.then (WP.seq (WP.block (WP.seq (WP.region ?_)))))
      refine WPl.v rfl (o_fldp F28_4 rfl) ?_
      refine WPl.v rfl (o_ldp S26 rfl rfl rfl) ?_
      refine WPl.v rfl (o_move rfl) ?_
      refine WPl.x 6 7 rfl rfl rfl (o_idx L26 rfl (lx rfl) rfl (by first | omega | (simp; omega)) (by first | omega | (simp; omega))) ?_
      refine WPl.v rfl (o_ldqg G84 rfl (lx rfl) (strG rfl) rfl rfl) ?_
      refine WPl.cs 7 rfl rfl rfl rfl (o_sig 7 id (c67 (nth s.pigs (i : Int))) e67 rfl rfl rfl w67 trivial r67) ?_
      refine WPl.v rfl (o_not rfl) ?_
      refine WPl.nil (EX.then ?_)
      refine WP.cond rfl (fun hc3 => ?_) (fun hc3 => ?_)
      · try simp only [cnd] at hc3
        refine WP.seq (WP.region ?_)
        refine WPl.v rfl (o_assign rfl) ?_
        refine WPl.nil (EX.then (WP.ret (EX.ret_blk (EX.ret_then (EX.ret_then (EX.ret_blk (EX.ret_then ?_)))))))
        rw [show errM s.chk = 10 from by simp [errM, Shop.chk, not_all (show i < s.pigs.length by omega) (by simpa using hc3)]]
        exact EX.fin id (.inl rfl) rfl (.tmp rfl .nil) rfl (by simp [SV.res, El.res, At.res, keys]) trivial (by simp) (by simp)
      · try simp only [cnd] at hc3
        refine WP.skip (EX.blk (EX.then (WP.region ?_)))
        refine WPl.v rfl (o_move rfl) ?_
        refine WPl.v rfl (o_add rfl rfl (by first | omega | (simp; omega)) (by first | omega | (simp; omega))) ?_
        refine WPl.v rfl (o_assign rfl) ?_
        refine WPl.nil ?_
        refine EX.again (i + 1) id (by exact ⟨by omega, fun j hj => by rcases Nat.lt_succ_iff_lt_or_eq.1 hj with h | rfl; exact hall j h; simpa using hc3⟩) (by omega) (LeR.of ⟨rfl, rfl, rfl, trivial⟩ ⟨(lx rfl), trivial⟩ ⟨rfl, trivial⟩ rfl rfl rfl rfl rfl)
    · try simp only [cnd] at hc2
      refine WP.exit (EX.exit_then (EX.exit_then (EX.exit_blk (EX.then (WP.seq (WP.region ?_))))))
      refine WPl.v rfl (o_assign rfl) ?_
      refine WPl.nil (EX.then (WP.ret ?_))
      have h0 : s.head = true := by simp [Shop.head]; (try simp at hc1); grind
      rw [show errM s.chk = 0 from by simp [errM, Shop.chk, h0, all_of (fun j hj => hall j (by omega))]]
      exact EX.fin id (.inl rfl) rfl (.tmp rfl .nil) rfl (by simp [SV.res, El.res, At.res, keys]) trivial (by simp) (by simp)
theorem w56 {s : Shop} : ∀ x ∈ ([.e (.g [ai (s.pounds), ai (s.tl), ai (s.th), ai (s.al), ai (s.ah), ai (s.room), ai (s.tpl), ai (s.tph), ai (s.apl), ai (s.aph), .q 0])] : List SV), x.res (keys (α := Pred) [(0, PL EPig (s.pigs))]) := by simp [SV.res, El.res, At.res, keys]
theorem r56 {s : Shop} : SV.res (keys (α := Pred) []) (.i (errM s.chk)) := by simp [SV.res, El.res, At.res, keys]
set_option maxHeartbeats 4000000 in
theorem c56 (s : Shop) (hl : s.pigs.length ≤ 40) : Sig Tryz.prog 56 [.e (.g [ai (s.pounds), ai (s.tl), ai (s.th), ai (s.al), ai (s.ah), ai (s.room), ai (s.tpl), ai (s.tph), ai (s.apl), ai (s.aph), .q 0])] [(0, PL EPig (s.pigs))] (.i (errM s.chk)) [] := by
  refine Sig.intro Tryz.func56 rfl 1 [(0, .e (.g [ai (s.pounds), ai (s.tl), ai (s.th), ai (s.al), ai (s.ah), ai (s.room), ai (s.tpl), ai (s.tph), ai (s.apl), ai (s.aph), .q 0]))] rfl w56 rfl rfl fun I w => ?_
  refine WP.seq (WP.region ?_)
  refine WPl.l 1 2 rfl rfl rfl (o_boxg rfl) ?_
  refine WPl.v rfl (o_assign rfl) ?_
  refine WPl.nil (EX.then (WP.seq (WP.region ?_)))
  refine WPl.v rfl (o_fldp F28_0 rfl) ?_
  refine WPl.v rfl (o_ldpg G25 rfl rfl rfl) ?_
  refine WPl.cs 2 rfl rfl rfl rfl (o_sig 2 id (c83 s.pounds s.tl s.th s.al s.ah) e83 rfl rfl rfl w83 trivial r83) ?_
  refine WPl.v rfl (o_move rfl) ?_
  refine WPl.bit 2 3 (isPot s.pounds s.tl s.th s.al s.ah) rfl rfl ?_
  refine WPl.gv 2 rfl rfl (.plain rfl Iff.rfl rfl) (fun hb => o_fldp F28_1 rfl) ?_
  refine WPl.gv 2 rfl rfl (.plain rfl Iff.rfl rfl) (fun hb => o_ldp S3 rfl rfl rfl) ?_
  refine WPl.gv 2 rfl rfl (.plain rfl Iff.rfl rfl) (fun hb => o_fldp F28_0 rfl) ?_
  refine WPl.gv 2 rfl rfl (.plain rfl Iff.rfl rfl) (fun hb => o_fldp F25_0 rfl) ?_
  refine WPl.gv 2 rfl rfl (.plain rfl Iff.rfl rfl) (fun hb => o_ldp S3 rfl rfl rfl) ?_
  refine WPl.gc0 2 rfl rfl (.plain rfl Iff.rfl rfl) (fun hb => o_sig 3 id (c33 s.room s.pounds 999) e33 rfl rfl rfl w33 trivial r33) ?_
  refine WPl.v rfl (o_and rfl rfl rfl id) ?_
  refine WPl.v rfl (o_move rfl) ?_
  refine WPl.bit 3 4 ((isPot s.pounds s.tl s.th s.al s.ah) && (within s.room s.pounds 999)) rfl rfl ?_
  refine WPl.gv 3 rfl rfl (.plain rfl Iff.rfl rfl) (fun hb => o_fldp F28_2 rfl) ?_
  refine WPl.gv 3 rfl rfl (.plain rfl Iff.rfl rfl) (fun hb => o_ldpg G23 rfl rfl rfl) ?_
  refine WPl.gc0 3 rfl rfl (.plain rfl Iff.rfl rfl) (fun hb => o_sig 4 id (c84 s.tpl s.tph 1000) e84 rfl rfl rfl w84 trivial r84) ?_
  refine WPl.v rfl (o_and rfl rfl rfl id) ?_
  refine WPl.v rfl (o_move rfl) ?_
  refine WPl.bit 4 5 (((isPot s.pounds s.tl s.th s.al s.ah) && (within s.room s.pounds 999)) && (isSpan s.tpl s.tph 1000)) rfl rfl ?_
  refine WPl.gv 4 rfl rfl (.plain rfl Iff.rfl rfl) (fun hb => o_fldp F28_3 rfl) ?_
  refine WPl.gv 4 rfl rfl (.plain rfl Iff.rfl rfl) (fun hb => o_ldpg G23 rfl rfl rfl) ?_
  refine WPl.gc0 4 rfl rfl (.plain rfl Iff.rfl rfl) (fun hb => o_sig 5 id (c84 s.apl s.aph 1000) e84 rfl rfl rfl w84 trivial r84) ?_
  refine WPl.v rfl (o_and rfl rfl rfl id) ?_
  refine WPl.v rfl (o_move rfl) ?_
  refine WPl.bit 5 6 ((((isPot s.pounds s.tl s.th s.al s.ah) && (within s.room s.pounds 999)) && (isSpan s.tpl s.tph 1000)) && (isSpan s.apl s.aph 1000)) rfl rfl ?_
  refine WPl.gv 5 rfl rfl (.plain rfl Iff.rfl rfl) (fun hb => o_fldp F28_4 rfl) ?_
  refine WPl.gv 5 rfl rfl (.plain rfl Iff.rfl rfl) (fun hb => o_ldp S26 rfl rfl rfl) ?_
  refine WPl.gv 5 rfl rfl (.plain rfl Iff.rfl rfl) (fun hb => o_lenq L26 rfl (lx rfl)) ?_
  refine WPl.gv 5 rfl rfl (.plain rfl Iff.rfl rfl) (fun hb => o_leq rfl rfl) ?_
  refine WPl.v rfl (o_and rfl rfl rfl id) ?_
  refine WPl.v rfl (o_assign rfl) ?_
  refine WPl.nil (EX.then (WP.seq (WP.seq (WP.region ?_))))
  refine WPl.v rfl (o_fldp F28_4 rfl) ?_
  refine WPl.v rfl (o_ldp S26 rfl rfl rfl) ?_
  refine WPl.v rfl (o_lenq L26 rfl (lx rfl)) ?_
  refine WPl.v rfl (o_move rfl) ?_
  refine WPl.nil (EX.then (WP.block ?_))
  refine WP.loop (Gh := Nat) (fun i => ⟨6, [(2, .i (0)), (3, .b (s.head && allTo Pig.chk s.pigs i)), (34, .e (.a (.q 0))), (35, .i ((s.pigs.length : Int))), (36, .i ((i : Int)))], [(0, PL EPig (s.pigs))], [], [], []⟩) (fun i => i ≤ s.pigs.length) (fun i => s.pigs.length - i) (0) id ?_ (LeR.of ⟨rfl, (congrArg (fun z => some (SV.b z)) (show (((((isPot s.pounds s.tl s.th s.al s.ah) && (within s.room s.pounds 999)) && (isSpan s.tpl s.tph 1000)) && (isSpan s.apl s.aph 1000)) && (decide ((s.pigs.length : Int) ≤ 4))) = ((fun i => s.head && allTo Pig.chk s.pigs i) 0) from by simp [Shop.head, allTo])), rfl, rfl, rfl, trivial⟩ ⟨(lx rfl), trivial⟩ trivial rfl rfl rfl rfl rfl) ?_
  · first | trivial | omega | (constructor <;> omega) | simp
  intro i hφ
  try simp only [] at hφ
  refine WP.seq (WP.region ?_)
  refine WPl.v rfl (o_lss rfl rfl) ?_
  refine WPl.nil (EX.then (WP.seq ?_))
  refine WP.cond rfl (fun hc1 => ?_) (fun hc1 => ?_)
  · try simp only [cnd] at hc1
    refine WP.skip (EX.then (WP.seq (WP.block (WP.seq (WP.region ?_)))))
    refine WPl.x 6 7 rfl rfl rfl (o_idx L26 rfl (lx rfl) rfl (by first | omega | (simp; omega)) (by first | omega | (simp; omega))) ?_
    refine WPl.v rfl (o_ldqg G84 rfl (lx rfl) (strG rfl) rfl rfl) ?_
    refine WPl.l 7 8 rfl rfl rfl (o_alloc Z84) ?_
    refine WPl.s1 (o_stag G84 rfl rfl rfl ⟨rfl, rfl, rfl, rfl, rfl, trivial⟩ rfl rfl) ?_
    refine WPl.nil (EX.then (WP.region ?_))
    refine WPl.v rfl (o_move rfl) ?_
    refine WPl.v rfl (o_move rfl) ?_
    refine WPl.bit 8 9 (s.head && allTo Pig.chk s.pigs i) rfl rfl ?_
    refine WPl.gv 8 rfl rfl (.plain rfl Iff.rfl rfl) (fun hb => o_fldp F84_0 rfl) ?_
    refine WPl.gv 8 rfl rfl (.plain rfl Iff.rfl rfl) (fun hb => o_ldp S3 rfl rfl rfl) ?_
    refine WPl.gc0 8 rfl rfl (.plain rfl Iff.rfl rfl) (fun hb => o_sig 9 id (c33 ((nth s.pigs (i : Int)).pounds) 1 40) e33 rfl rfl rfl w33 trivial r33) ?_
    refine WPl.v rfl (o_and rfl rfl rfl id) ?_
    refine WPl.v rfl (o_move rfl) ?_
    refine WPl.bit 9 10 ((s.head && allTo Pig.chk s.pigs i) && (within ((nth s.pigs (i : Int)).pounds) 1 40)) rfl rfl ?_
    refine WPl.gv 9 rfl rfl (.plain rfl Iff.rfl rfl) (fun hb => o_fldp F84_1 rfl) ?_
    refine WPl.gv 9 rfl rfl (.plain rfl Iff.rfl rfl) (fun hb => o_ldp S3 rfl rfl rfl) ?_
    refine WPl.gv 9 rfl rfl (.plain rfl Iff.rfl rfl) (fun hb => o_fldp F84_0 rfl) ?_
    refine WPl.gv 9 rfl rfl (.plain rfl Iff.rfl rfl) (fun hb => o_ldp S3 rfl rfl rfl) ?_
    refine WPl.gc0 9 rfl rfl (.plain rfl Iff.rfl rfl) (fun hb => o_sig 10 id (c33 ((nth s.pigs (i : Int)).tin) 0 ((nth s.pigs (i : Int)).pounds)) e33 rfl rfl rfl w33 trivial r33) ?_
    refine WPl.v rfl (o_and rfl rfl rfl id) ?_
    refine WPl.v rfl (o_move rfl) ?_
    refine WPl.bit 10 11 (((s.head && allTo Pig.chk s.pigs i) && (within ((nth s.pigs (i : Int)).pounds) 1 40)) && (within ((nth s.pigs (i : Int)).tin) 0 ((nth s.pigs (i : Int)).pounds))) rfl rfl ?_
    refine WPl.gv 10 rfl rfl (.plain rfl Iff.rfl rfl) (fun hb => o_fldp F84_2 rfl) ?_
    refine WPl.gv 10 rfl rfl (.plain rfl Iff.rfl rfl) (fun hb => o_ldp S3 rfl rfl rfl) ?_
    refine WPl.gv 10 rfl rfl (.plain rfl Iff.rfl rfl) (fun hb => o_fldp F84_0 rfl) ?_
    refine WPl.gv 10 rfl rfl (.plain rfl Iff.rfl rfl) (fun hb => o_ldp S3 rfl rfl rfl) ?_
    refine WPl.gv 10 rfl rfl (.plain rfl Iff.rfl rfl) (fun hb => o_fldp F84_1 rfl) ?_
    refine WPl.gv 10 rfl rfl (.plain rfl Iff.rfl rfl) (fun hb => o_ldp S3 rfl rfl rfl) ?_
    refine WPl.gv 10 rfl rfl (.plain rfl Iff.rfl rfl) (fun hb => o_sub rfl rfl (by simp [within] at hb; omega) (by simp [within] at hb; omega)) ?_
    refine WPl.gc0 10 rfl rfl (.plain rfl Iff.rfl rfl) (fun hb => o_sig 11 id (c33 ((nth s.pigs (i : Int)).ant) 0 (((nth s.pigs (i : Int)).pounds) - ((nth s.pigs (i : Int)).tin))) e33 rfl rfl rfl w33 trivial r33) ?_
    refine WPl.v rfl (o_and rfl rfl rfl id) ?_
    refine WPl.v rfl (o_move rfl) ?_
    refine WPl.bit 11 12 ((((s.head && allTo Pig.chk s.pigs i) && (within ((nth s.pigs (i : Int)).pounds) 1 40)) && (within ((nth s.pigs (i : Int)).tin) 0 ((nth s.pigs (i : Int)).pounds))) && (within ((nth s.pigs (i : Int)).ant) 0 (((nth s.pigs (i : Int)).pounds) - ((nth s.pigs (i : Int)).tin)))) rfl rfl ?_
    refine WPl.gv 11 rfl rfl (.plain rfl Iff.rfl rfl) (fun hb => o_fldp F84_3 rfl) ?_
    refine WPl.gv 11 rfl rfl (.plain rfl Iff.rfl rfl) (fun hb => o_ldp S3 rfl rfl rfl) ?_
    refine WPl.gc0 11 rfl rfl (.plain rfl Iff.rfl rfl) (fun hb => o_sig 12 id (c33 ((nth s.pigs (i : Int)).pence) 0 99) e33 rfl rfl rfl w33 trivial r33) ?_
    refine WPl.v rfl (o_and rfl rfl rfl id) ?_
    refine WPl.v rfl (o_move rfl) ?_
    refine WPl.bit 12 13 (((((s.head && allTo Pig.chk s.pigs i) && (within ((nth s.pigs (i : Int)).pounds) 1 40)) && (within ((nth s.pigs (i : Int)).tin) 0 ((nth s.pigs (i : Int)).pounds))) && (within ((nth s.pigs (i : Int)).ant) 0 (((nth s.pigs (i : Int)).pounds) - ((nth s.pigs (i : Int)).tin)))) && (within ((nth s.pigs (i : Int)).pence) 0 99)) rfl rfl ?_
    refine WPl.gv 12 rfl rfl (.plain rfl Iff.rfl rfl) (fun hb => o_fldp F84_4 rfl) ?_
    refine WPl.gv 12 rfl rfl (.plain rfl Iff.rfl rfl) (fun hb => o_ldp S3 rfl rfl rfl) ?_
    refine WPl.gc0 12 rfl rfl (.plain rfl Iff.rfl rfl) (fun hb => o_sig 13 id (c33 ((nth s.pigs (i : Int)).many) 0 5) e33 rfl rfl rfl w33 trivial r33) ?_
    refine WPl.v rfl (o_and rfl rfl rfl id) ?_
    refine WPl.v rfl (o_assign rfl) ?_
    refine WPl.nil (EX.blk (EX.then (WP.region ?_)))
    refine WPl.v rfl (o_add rfl rfl (by first | omega | (simp; omega)) (by first | omega | (simp; omega))) ?_
    refine WPl.v rfl (o_move rfl) ?_
    refine WPl.nil ?_
    refine EX.again (i + 1) id (by first | omega | (constructor <;> omega)) (by omega) (LeR.of ⟨rfl, (congrArg (fun z => some (SV.b z)) (show ((((((s.head && allTo Pig.chk s.pigs i) && (within ((nth s.pigs (i : Int)).pounds) 1 40)) && (within ((nth s.pigs (i : Int)).tin) 0 ((nth s.pigs (i : Int)).pounds))) && (within ((nth s.pigs (i : Int)).ant) 0 (((nth s.pigs (i : Int)).pounds) - ((nth s.pigs (i : Int)).tin)))) && (within ((nth s.pigs (i : Int)).pence) 0 99)) && (within ((nth s.pigs (i : Int)).many) 0 5)) = ((fun i => s.head && allTo Pig.chk s.pigs i) (i + 1)) from by simp only [allTo, Pig.chk, Bool.and_assoc])), rfl, rfl, rfl, trivial⟩ ⟨(lx rfl), trivial⟩ trivial rfl rfl rfl rfl rfl)
  · try simp only [cnd] at hc1
    refine WP.exit (EX.exit_then (EX.exit_then (EX.exit_blk (EX.then (WP.seq (WP.seq (WP.region ?_)))))))
    refine WPl.v rfl (o_move rfl) ?_
    refine WPl.v rfl (o_not rfl) ?_
    refine WPl.nil (EX.then ?_)
    refine WP.cond rfl (fun hc2 => ?_) (fun hc2 => ?_)
    · try simp only [cnd] at hc2
      refine WP.seq (WP.region ?_)
      refine WPl.v rfl (o_assign rfl) ?_
      refine WPl.nil (EX.then (WP.ret (EX.ret_then ?_)))
      have hi : i = s.pigs.length := by omega
      rw [show errM s.chk = 10 from by subst hi; rw [allTo_len] at hc2; simp only [errM, Shop.chk]; rcases hc2 with h | h <;> simp [h]]
      exact EX.fin id (.inl rfl) rfl (.tmp rfl .nil) rfl (by simp [SV.res, El.res, At.res, keys]) trivial (by simp) (by simp)
    · try simp only [cnd] at hc2
      refine WP.skip (EX.then (WP.seq (WP.region ?_)))
      refine WPl.v rfl (o_assign rfl) ?_
      refine WPl.nil (EX.then (WP.ret ?_))
      have hi : i = s.pigs.length := by omega
      rw [show errM s.chk = 0 from by subst hi; rw [allTo_len] at hc2; simp [errM, Shop.chk]; simpa using hc2]
      exact EX.fin id (.inl rfl) rfl (.tmp rfl .nil) rfl (by simp [SV.res, El.res, At.res, keys]) trivial (by simp) (by simp)
theorem w13 {f : Fnd} : ∀ x ∈ ([.e (.g [ai (f.shop.pounds), ai (f.shop.tl), ai (f.shop.th), ai (f.shop.al), ai (f.shop.ah), ai (f.shop.room), ai (f.shop.tpl), ai (f.shop.tph), ai (f.shop.apl), ai (f.shop.aph), .q 0, .q 1])] : List SV), x.res (keys (α := Pred) [(0, PL EPig (f.shop.pigs)), (1, PL ENight (f.nights))]) := by simp [SV.res, El.res, At.res, keys]
theorem r13 {f : Fnd} : SV.res (keys (α := Pred) []) (.i (errW f.chk)) := by simp [SV.res, El.res, At.res, keys]
set_option maxHeartbeats 4000000 in
theorem c13 (f : Fnd)  : Sig Tryz.prog 13 [.e (.g [ai (f.shop.pounds), ai (f.shop.tl), ai (f.shop.th), ai (f.shop.al), ai (f.shop.ah), ai (f.shop.room), ai (f.shop.tpl), ai (f.shop.tph), ai (f.shop.apl), ai (f.shop.aph), .q 0, .q 1])] [(0, PL EPig (f.shop.pigs)), (1, PL ENight (f.nights))] (.i (errW f.chk)) [] := by
  refine Sig.intro Tryz.func13 rfl 2 [(0, .e (.g [ai (f.shop.pounds), ai (f.shop.tl), ai (f.shop.th), ai (f.shop.al), ai (f.shop.ah), ai (f.shop.room), ai (f.shop.tpl), ai (f.shop.tph), ai (f.shop.apl), ai (f.shop.aph), .q 0, .q 1]))] rfl w13 rfl rfl fun I w => ?_
  refine WP.seq (WP.region ?_)
  refine WPl.l 2 3 rfl rfl rfl (o_boxg rfl) ?_
  refine WPl.v rfl (o_assign rfl) ?_
  refine WPl.nil (EX.then (WP.seq (WP.seq (WP.region ?_))))
  refine WPl.v rfl (o_fldp F31_0 rfl) ?_
  refine WPl.v rfl (o_ldpg G28 rfl rfl rfl) ?_
  refine WPl.cs 3 rfl rfl rfl rfl (o_sig 3 (ren [(0, 0)]) (c35 f.shop) e35 rfl rfl rfl w35 ⟨(lx rfl), trivial⟩ r35) ?_
  refine WPl.v rfl (o_neq rfl rfl) ?_
  refine WPl.v rfl (o_move rfl) ?_
  refine WPl.bit 3 4 (!(decide ((errM f.shop.chk) ≠ 0))) rfl rfl ?_
  refine WPl.gv 3 rfl rfl (.plain rfl (by simp) rfl) (fun hb => o_fldp F31_1 rfl) ?_
  refine WPl.gv 3 rfl rfl (.plain rfl (by simp) rfl) (fun hb => o_ldp S29 rfl rfl rfl) ?_
  refine WPl.gv 3 rfl rfl (.plain rfl (by simp) rfl) (fun hb => o_lenq L29 rfl (lx rfl)) ?_
  refine WPl.gv 3 rfl rfl (.plain rfl (by simp) rfl) (fun hb => o_gtr rfl rfl) ?_
  refine WPl.v rfl (o_or rfl rfl rfl (by first | (simp; done) | simp_all)) ?_
  refine WPl.nil (EX.then ?_)
  refine WP.cond rfl (fun hc1 => ?_) (fun hc1 => ?_)
  · try simp only [cnd] at hc1
    refine WP.seq (WP.region ?_)
    refine WPl.v rfl (o_assign rfl) ?_
    refine WPl.nil (EX.then (WP.ret (EX.ret_then ?_)))
    rw [show errW f.chk = 130 from by simp [errM_eq] at hc1; simp only [errW, Fnd.chk]; rcases hc1 with h | h; simp [h]; simp [show ¬ ((f.nights.length : Int) ≤ 4) by omega]]
    exact EX.fin id (.inl rfl) rfl (.tmp rfl .nil) rfl (by simp [SV.res, El.res, At.res, keys]) trivial (by simp) (by simp)
  · try simp only [cnd] at hc1
    refine WP.skip (EX.then (WP.seq (WP.region ?_)))
    refine WPl.v rfl (o_assign rfl) ?_
    refine WPl.nil (EX.then (WP.seq (WP.seq (WP.region ?_))))
    refine WPl.v rfl (o_assign rfl) ?_
    refine WPl.nil (EX.then (WP.block ?_))
    refine WP.loop (Gh := Nat) (fun i => ⟨4, [(1, .e (.a (.p 2 (0)))), (2, .i (0)), (3, .i (hiTo f.nights i)), (4, .i ((i : Int)))], [(0, PL EPig (f.shop.pigs)), (1, PL ENight (f.nights))], [(2, .blk [ai (f.shop.pounds), ai (f.shop.tl), ai (f.shop.th), ai (f.shop.al), ai (f.shop.ah), ai (f.shop.room), ai (f.shop.tpl), ai (f.shop.tph), ai (f.shop.apl), ai (f.shop.aph), .q 0, .q 1] 31)], [], []⟩) (fun i => i ≤ f.nights.length ∧ allTo Night.chk f.nights i = true) (fun i => f.nights.length - i) (0) id ?_ (LeR.of ⟨rfl, rfl, rfl, rfl, trivial⟩ ⟨(lx rfl), (lx rfl), trivial⟩ ⟨rfl, trivial⟩ rfl rfl rfl rfl rfl) ?_
    · exact ⟨by omega, rfl⟩
    intro i hφ
    obtain ⟨hi, hall⟩ := hφ; have hb := hiTo_bnd hall; have hok : f.shop.chk = true ∧ (f.nights.length : Int) ≤ 4 := by (simp [errM_eq] at hc1); exact hc1
    refine WP.seq (WP.seq (WP.region ?_))
    refine WPl.v rfl (o_move rfl) ?_
    refine WPl.v rfl (o_fldp F31_1 rfl) ?_
    refine WPl.v rfl (o_ldp S29 rfl rfl rfl) ?_
    refine WPl.v rfl (o_lenq L29 rfl (lx rfl)) ?_
    refine WPl.v rfl (o_lss rfl rfl) ?_
    refine WPl.nil (EX.then ?_)
    refine WP.cond rfl (fun hc2 => ?_) (fun hc2 => ?_)
    · try simp only [cnd] at hc2
      refine WP.skip (EX.then (WP.seq (WP.block (WP.seq (WP.seq (WP.region ?_))))))
      refine WPl.v rfl (o_fldp F31_1 rfl) ?_
      refine WPl.v rfl (o_ldp S29 rfl rfl rfl) ?_
      refine WPl.v rfl (o_move rfl) ?_
      refine WPl.x 4 5 rfl rfl rfl (o_idx L29 rfl (lx rfl) rfl (by first | omega | (simp; omega)) (by first | omega | (simp; omega))) ?_
      refine WPl.v rfl (o_fldq F71_0 rfl (lx rfl)) ?_
      refine WPl.v rfl (o_ldeg G23 rfl (lx rfl) (strG rfl) rfl rfl) ?_
      refine WPl.cs 5 rfl rfl rfl rfl (o_sig 5 id (c36 ((nth f.nights (i : Int)).lo) ((nth f.nights (i : Int)).hi) 9) e36 rfl rfl rfl w36 trivial r36) ?_
      refine WPl.v rfl (o_not rfl) ?_
      refine WPl.v rfl (o_move rfl) ?_
      refine WPl.bit 5 6 (!(!(isSpan ((nth f.nights (i : Int)).lo) ((nth f.nights (i : Int)).hi) 9))) rfl rfl ?_
      refine WPl.gv 5 rfl rfl (.plain rfl (by simp) rfl) (fun hb => o_fldp F31_1 rfl) ?_
      refine WPl.gv 5 rfl rfl (.plain rfl (by simp) rfl) (fun hb => o_ldp S29 rfl rfl rfl) ?_
      refine WPl.gv 5 rfl rfl (.plain rfl (by simp) rfl) (fun hb => o_move rfl) ?_
      refine WPl.gx 5 6 7 rfl rfl rfl rfl (.plain rfl (by simp) rfl) (fun hb => o_idx L29 rfl (lx rfl) rfl (by first | omega | (simp; omega)) (by first | omega | (simp; omega))) ?_
      refine WPl.gv 5 rfl rfl (.plain rfl (by simp) rfl) (fun hb => o_fldq F71_1 rfl (lxi hb rfl)) ?_
      refine WPl.gv 5 rfl rfl (.plain rfl (by simp) rfl) (fun hb => o_lde S3 rfl (lxi hb rfl) (strI rfl)) ?_
      refine WPl.gc0 5 rfl rfl (.plain rfl (by simp) rfl) (fun hb => o_sig 7 id (c37 ((nth f.nights (i : Int)).test) 0 1) e37 rfl rfl rfl w37 trivial r37) ?_
      refine WPl.gv 5 rfl rfl (.plain rfl (by simp) rfl) (fun hb => o_not rfl) ?_
      refine WPl.v rfl (o_or rfl rfl rfl (by first | (simp; done) | simp_all)) ?_
      refine WPl.nil (EX.then ?_)
      refine WP.cond rfl (fun hc3 => ?_) (fun hc3 => ?_)
      · try simp only [cnd] at hc3
        refine WP.seq (WP.region ?_)
        refine WPl.v rfl (o_assign rfl) ?_
        refine WPl.nil (EX.then (WP.ret (EX.ret_then (EX.ret_blk (EX.ret_then (EX.ret_then (EX.ret_blk (EX.ret_then ?_))))))))
        have hn : (nth f.nights i).chk = false := by simp [Night.chk]; (try simp at hc3); grind
        rw [show errW f.chk = 130 from by simp [errW, Fnd.chk, not_all (show i < f.nights.length by omega) hn]]
        exact EX.fin id (.inl rfl) rfl (.tmp rfl .nil) rfl (by simp [SV.res, El.res, At.res, keys]) trivial (by simp) (by simp)
      · try simp only [cnd] at hc3
        refine WP.skip (EX.then (WP.region ?_))
        refine WPl.v rfl (o_move rfl) ?_
        refine WPl.v rfl (o_fldp F31_1 rfl) ?_
        refine WPl.v rfl (o_ldp S29 rfl rfl rfl) ?_
        refine WPl.v rfl (o_move rfl) ?_
        refine WPl.x 7 8 rfl rfl rfl (o_idx L29 rfl (lx rfl) rfl (by first | omega | (simp; omega)) (by first | omega | (simp; omega))) ?_
        refine WPl.v rfl (o_fldq F71_0 rfl (lx rfl)) ?_
        refine WPl.v rfl (o_flde F23_1 rfl (lx rfl)) ?_
        refine WPl.v rfl (o_lde S3 rfl (lx rfl) (strI rfl)) ?_
        have hn : (nth f.nights i).chk = true := by simp [Night.chk]; simpa using hc3
        have hnb := Night.bnds hn
        refine WPl.v rfl (o_add rfl rfl (by first | omega | (simp; omega)) (by first | omega | (simp; omega))) ?_
        refine WPl.v rfl (o_assign rfl) ?_
        refine WPl.nil (EX.blk (EX.then (WP.region ?_)))
        refine WPl.v rfl (o_move rfl) ?_
        refine WPl.v rfl (o_add rfl rfl (by first | omega | (simp; omega)) (by first | omega | (simp; omega))) ?_
        refine WPl.v rfl (o_assign rfl) ?_
        refine WPl.nil ?_
        have hn : (nth f.nights i).chk = true := by simp [Night.chk]; simpa using hc3
        refine EX.again (i + 1) id (by exact ⟨by omega, by simp [allTo, hall, hn]⟩) (by omega) (LeR.of ⟨rfl, rfl, rfl, rfl, trivial⟩ ⟨(lx rfl), (lx rfl), trivial⟩ ⟨rfl, trivial⟩ rfl rfl rfl rfl rfl)
    · try simp only [cnd] at hc2
      refine WP.exit (EX.exit_then (EX.exit_then (EX.exit_blk (EX.then (WP.seq (WP.seq (WP.region ?_)))))))
      refine WPl.v rfl (o_move rfl) ?_
      refine WPl.v rfl (o_fldp F31_0 rfl) ?_
      refine WPl.v rfl (o_fldp F28_0 rfl) ?_
      refine WPl.v rfl (o_fldp F25_1 rfl) ?_
      refine WPl.v rfl (o_fldp F23_0 rfl) ?_
      refine WPl.v rfl (o_ldp S3 rfl rfl rfl) ?_
      refine WPl.v rfl (o_gtr rfl rfl) ?_
      refine WPl.nil (EX.then ?_)
      refine WP.cond rfl (fun hc4 => ?_) (fun hc4 => ?_)
      · try simp only [cnd] at hc4
        refine WP.seq (WP.region ?_)
        refine WPl.v rfl (o_assign rfl) ?_
        refine WPl.nil (EX.then (WP.ret (EX.ret_then ?_)))
        have hi2 : i = f.nights.length := by omega
        subst hi2
        rw [show errW f.chk = 130 from by simp only [errW, Fnd.chk]; simp [show ¬ (hiTo f.nights f.nights.length ≤ f.shop.tl) by omega]]
        exact EX.fin id (.inl rfl) rfl (.tmp rfl .nil) rfl (by simp [SV.res, El.res, At.res, keys]) trivial (by simp) (by simp)
      · try simp only [cnd] at hc4
        refine WP.skip (EX.then (WP.seq (WP.region ?_)))
        refine WPl.v rfl (o_assign rfl) ?_
        refine WPl.nil (EX.then (WP.ret ?_))
        have hi2 : i = f.nights.length := by omega
        subst hi2
        rw [allTo_len] at hall
        rw [show errW f.chk = 0 from by simp only [errW, Fnd.chk]; simp [hok, hall, show hiTo f.nights f.nights.length ≤ f.shop.tl by omega]]
        exact EX.fin id (.inl rfl) rfl (.tmp rfl .nil) rfl (by simp [SV.res, El.res, At.res, keys]) trivial (by simp) (by simp)
theorem w19 {a b : List Int} : ∀ x ∈ ([.e (.a (.q 0)), .e (.a (.q 1))] : List SV), x.res (keys (α := Pred) [(0, PL EP.int (a)), (1, PL EP.int (b))]) := by simp [SV.res, El.res, At.res, keys]
theorem r19 {a b : List Int} : SV.res (keys (α := Pred) []) (.b (sameInts a b)) := by simp [SV.res, El.res, At.res, keys]
set_option maxHeartbeats 4000000 in
theorem c19 (a b : List Int) (hl : a.length ≤ 1000000) : Sig Tryz.prog 19 [.e (.a (.q 0)), .e (.a (.q 1))] [(0, PL EP.int (a)), (1, PL EP.int (b))] (.b (sameInts a b)) [] := by
  refine Sig.intro Tryz.func19 rfl 2 [(0, .e (.a (.q 0))), (1, .e (.a (.q 1)))] rfl w19 rfl rfl fun I w => ?_
  refine WP.seq (WP.region ?_)
  refine WPl.v rfl (o_assign rfl) ?_
  refine WPl.nil (EX.then (WP.seq (WP.seq (WP.region ?_))))
  refine WPl.v rfl (o_move rfl) ?_
  refine WPl.v rfl (o_lenq L45 rfl (lx rfl)) ?_
  refine WPl.v rfl (o_move rfl) ?_
  refine WPl.v rfl (o_lenq L45 rfl (lx rfl)) ?_
  refine WPl.v rfl (o_neq rfl rfl) ?_
  refine WPl.nil (EX.then ?_)
  refine WP.cond rfl (fun hc1 => ?_) (fun hc1 => ?_)
  · try simp only [cnd] at hc1
    refine WP.seq (WP.region ?_)
    refine WPl.v rfl (o_assign rfl) ?_
    refine WPl.nil (EX.then (WP.ret (EX.ret_then ?_)))
    rw [show sameInts a b = false from by simp [sameInts]; (try simp at hc1); grind]
    exact EX.fin id (.inl rfl) rfl (.tmp rfl .nil) rfl (by simp [SV.res, El.res, At.res, keys]) trivial (by simp) (by simp)
  · try simp only [cnd] at hc1
    refine WP.skip (EX.then (WP.seq (WP.seq (WP.region ?_))))
    refine WPl.v rfl (o_assign rfl) ?_
    refine WPl.nil (EX.then (WP.block ?_))
    refine WP.loop (Gh := Nat) (fun i => ⟨2, [(0, .e (.a (.q 0))), (1, .e (.a (.q 1))), (4, .b (false)), (5, .i ((i : Int)))], [(0, PL EP.int (a)), (1, PL EP.int (b))], [], [], []⟩) (fun i => i ≤ a.length ∧ allI (sameAt a b) i = true) (fun i => a.length - i) (0) id ?_ (LeR.of ⟨rfl, rfl, rfl, rfl, trivial⟩ ⟨(lx rfl), (lx rfl), trivial⟩ trivial rfl rfl rfl rfl rfl) ?_
    · exact ⟨by omega, rfl⟩
    intro i hφ
    obtain ⟨hi, hall⟩ := hφ; have hlen : (a.length : Int) = b.length := by simpa using hc1
    refine WP.seq (WP.seq (WP.region ?_))
    refine WPl.v rfl (o_move rfl) ?_
    refine WPl.v rfl (o_move rfl) ?_
    refine WPl.v rfl (o_lenq L45 rfl (lx rfl)) ?_
    refine WPl.v rfl (o_lss rfl rfl) ?_
    refine WPl.nil (EX.then ?_)
    refine WP.cond rfl (fun hc2 => ?_) (fun hc2 => ?_)
    · try simp only [cnd] at hc2
      refine WP.skip (EX.then (WP.seq (WP.block (WP.seq ?_))))
      refine WP.draw (nf := 4) [⟨[18, 21, 22, 23, 24], [3], [], [], []⟩, ⟨[17, 21, 22, 23, 24], [3], [], [], []⟩, ⟨[21, 22, 23, 24], [3], [2], [2], [0, 1]⟩, ⟨[21, 22, 23, 24], [3], [], [], [0, 1, 2]⟩, ⟨[17, 18, 19, 20, 22], [2], [], [], []⟩, ⟨[17, 18, 19, 20, 21], [2], [], [], []⟩, ⟨[17, 18, 19, 20], [2], [3], [3], [4, 5]⟩, ⟨[17, 18, 19, 20], [2], [], [], [4, 5, 6]⟩, ⟨[], [], [], [], [0, 1, 2, 3, 4, 5, 6, 7]⟩] (by kernel_rfl) (by kernel_rfl) ?_
      refine DRQ.v rfl rfl rfl (o_move rfl) ?_
      refine DRQ.v rfl rfl rfl (o_move rfl) ?_
      refine DRQ.x 2 rfl rfl rfl rfl (o_idx L45 rfl (lx rfl) rfl (by first | omega | (simp; omega)) (by first | omega | (simp; omega))) ?_
      refine DRQ.v rfl rfl rfl (o_ldq S3 rfl (lx rfl) intc) ?_
      refine DRQ.v rfl rfl rfl (o_move rfl) ?_
      refine DRQ.v rfl rfl rfl (o_move rfl) ?_
      refine DRQ.x 3 rfl rfl rfl rfl (o_idx L45 rfl (lx rfl) rfl (by first | omega | (simp; omega)) (by first | omega | (simp; omega))) ?_
      refine DRQ.v rfl rfl rfl (o_ldq S3 rfl (lx rfl) intc) ?_
      refine DRQ.v rfl rfl rfl (o_neq rfl rfl) ?_
      refine DRQ.nil' ?_
      refine EX.then ?_
      refine WP.cond rfl (fun hc3 => ?_) (fun hc3 => ?_)
      · try simp only [cnd] at hc3
        refine WP.seq (WP.region ?_)
        refine WPl.v rfl (o_assign rfl) ?_
        refine WPl.nil (EX.then (WP.ret (EX.ret_blk (EX.ret_then (EX.ret_then (EX.ret_blk (EX.ret_then ?_)))))))
        rw [show sameInts a b = false from by simp [sameInts, allI_false (show i < a.length by omega) (show sameAt a b i = false by simpa [sameAt] using hc3)]]
        exact EX.fin id (.inl rfl) rfl (.tmp rfl .nil) rfl (by simp [SV.res, El.res, At.res, keys]) trivial (by simp) (by simp)
      · try simp only [cnd] at hc3
        refine WP.skip (EX.blk (EX.then (WP.region ?_)))
        refine WPl.v rfl (o_move rfl) ?_
        refine WPl.v rfl (o_add rfl rfl (by first | omega | (simp; omega)) (by first | omega | (simp; omega))) ?_
        refine WPl.v rfl (o_assign rfl) ?_
        refine WPl.nil ?_
        refine EX.again (i + 1) id (by exact ⟨by omega, by simp [allI, hall, sameAt]; simpa using hc3⟩) (by omega) (LeR.of ⟨rfl, rfl, rfl, rfl, trivial⟩ ⟨(lx rfl), (lx rfl), trivial⟩ trivial rfl rfl rfl rfl rfl)
    · try simp only [cnd] at hc2
      refine WP.exit (EX.exit_then (EX.exit_then (EX.exit_blk (EX.then (WP.seq (WP.region ?_))))))
      refine WPl.v rfl (o_assign rfl) ?_
      refine WPl.nil (EX.then (WP.ret ?_))
      have hi2 : i = a.length := by omega
      subst hi2
      rw [show sameInts a b = true from by simp [sameInts, hall, hlen]]
      exact EX.fin id (.inl rfl) rfl (.tmp rfl .nil) rfl (by simp [SV.res, El.res, At.res, keys]) trivial (by simp) (by simp)
theorem w21 {s : Shop} : ∀ x ∈ ([.e (.g [ai (s.pounds), ai (s.tl), ai (s.th), ai (s.al), ai (s.ah), ai (s.room), ai (s.tpl), ai (s.tph), ai (s.apl), ai (s.aph), .q 0])] : List SV), x.res (keys (α := Pred) [(0, PL EPig (s.pigs))]) := by simp [SV.res, El.res, At.res, keys]
theorem r21 {s : Shop} : SV.res (keys (α := Pred) [(0, PL EPig (s.pigs))]) (.e (.g [ai (s.pounds), ai (s.tl), ai (s.th), ai (s.al), ai (s.ah), ai (s.room), ai (s.tpl), ai (s.tph), ai (s.apl), ai (s.aph), .q 0])) := by simp [SV.res, El.res, At.res, keys]
set_option maxHeartbeats 4000000 in
theorem c21 (s : Shop) (hl : s.pigs.length ≤ 40) : Sig Tryz.prog 21 [.e (.g [ai (s.pounds), ai (s.tl), ai (s.th), ai (s.al), ai (s.ah), ai (s.room), ai (s.tpl), ai (s.tph), ai (s.apl), ai (s.aph), .q 0])] [(0, PL EPig (s.pigs))] (.e (.g [ai (s.pounds), ai (s.tl), ai (s.th), ai (s.al), ai (s.ah), ai (s.room), ai (s.tpl), ai (s.tph), ai (s.apl), ai (s.aph), .q 0])) [(0, PL EPig (s.pigs))] := by
  refine Sig.intro Tryz.func21 rfl 1 [(0, .e (.g [ai (s.pounds), ai (s.tl), ai (s.th), ai (s.al), ai (s.ah), ai (s.room), ai (s.tpl), ai (s.tph), ai (s.apl), ai (s.aph), .q 0]))] rfl w21 rfl rfl fun I w => ?_
  refine WP.seq (WP.region ?_)
  refine WPl.l 1 2 rfl rfl rfl (o_boxg rfl) ?_
  refine WPl.l 2 3 rfl rfl rfl (o_alloc Z28) ?_
  refine WPl.nil (EX.then (WP.seq (WP.region ?_)))
  refine WPl.v rfl (o_ldpa G28 rfl rfl rfl) ?_
  refine WPl.l 3 4 rfl rfl rfl (o_alloc Z28) ?_
  refine WPl.s1 (o_stag G28 rfl rfl rfl ⟨rfl, rfl, rfl, rfl, rfl, rfl, rfl, rfl, rfl, rfl, (.inl ⟨_, (lx rfl), PL.one⟩), trivial⟩ rfl rfl) ?_
  refine WPl.nil (EX.then (WP.seq (WP.region ?_)))
  refine WPl.l 4 5 rfl rfl rfl (o_bsl (E := EPig) (l := []) R26 rfl rfl (.nil) rfl rfl) ?_
  refine WPl.v rfl (o_fldp F28_4 rfl) ?_
  refine WPl.v rfl (o_ldp S26 rfl rfl rfl) ?_
  refine WPl.u1 (k := 5) (m := 6) rfl rfl rfl (o_apps R26 EP.str_one rfl rfl rfl (lx rfl) (by simp; omega) (by simp; omega)) ?_
  refine WPl.v rfl (o_fldp F28_4 rfl) ?_
  refine WPl.s1 (o_sta S26 rfl rfl rfl (.inr ⟨_, _, _, _, rfl⟩) rfl) ?_
  refine WPl.nil (EX.then (WP.seq (WP.region ?_)))
  refine WPl.v rfl (o_ldpa G28 rfl rfl rfl) ?_
  refine WPl.s1 (o_stag G28 rfl rfl rfl ⟨rfl, rfl, rfl, rfl, rfl, rfl, rfl, rfl, rfl, rfl, (.inr ⟨_, _, _, _, rfl⟩), trivial⟩ rfl rfl) ?_
  refine WPl.nil (EX.then (WP.ret ?_))
  refine EX.imp (Imp.frz (E := EPig) (l := [] ++ s.pigs) 5 rfl rfl) ?_
  exact EX.fin (ren [(0, 5)]) (.inl rfl) rfl (.cellg G28 rfl rfl rfl (.nil)) rfl r21 ⟨(lx rfl), trivial⟩ (by simp) (by simp)
theorem w6 {f : Fnd} : ∀ x ∈ ([.e (.g [ai (f.shop.pounds), ai (f.shop.tl), ai (f.shop.th), ai (f.shop.al), ai (f.shop.ah), ai (f.shop.room), ai (f.shop.tpl), ai (f.shop.tph), ai (f.shop.apl), ai (f.shop.aph), .q 0, .q 1])] : List SV), x.res (keys (α := Pred) [(0, PL EPig (f.shop.pigs)), (1, PL ENight (f.nights))]) := by simp [SV.res, El.res, At.res, keys]
theorem r6 {f : Fnd} : SV.res (keys (α := Pred) [(0, PL EPig (f.shop.pigs)), (1, PL ENight (f.nights))]) (.e (.g [ai (f.shop.pounds), ai (f.shop.tl), ai (f.shop.th), ai (f.shop.al), ai (f.shop.ah), ai (f.shop.room), ai (f.shop.tpl), ai (f.shop.tph), ai (f.shop.apl), ai (f.shop.aph), .q 0, .q 1])) := by simp [SV.res, El.res, At.res, keys]
set_option maxHeartbeats 4000000 in
theorem c6 (f : Fnd) (hl : f.shop.pigs.length ≤ 40) (hn : f.nights.length ≤ 40) : Sig Tryz.prog 6 [.e (.g [ai (f.shop.pounds), ai (f.shop.tl), ai (f.shop.th), ai (f.shop.al), ai (f.shop.ah), ai (f.shop.room), ai (f.shop.tpl), ai (f.shop.tph), ai (f.shop.apl), ai (f.shop.aph), .q 0, .q 1])] [(0, PL EPig (f.shop.pigs)), (1, PL ENight (f.nights))] (.e (.g [ai (f.shop.pounds), ai (f.shop.tl), ai (f.shop.th), ai (f.shop.al), ai (f.shop.ah), ai (f.shop.room), ai (f.shop.tpl), ai (f.shop.tph), ai (f.shop.apl), ai (f.shop.aph), .q 0, .q 1])) [(0, PL EPig (f.shop.pigs)), (1, PL ENight (f.nights))] := by
  refine Sig.intro Tryz.func6 rfl 2 [(0, .e (.g [ai (f.shop.pounds), ai (f.shop.tl), ai (f.shop.th), ai (f.shop.al), ai (f.shop.ah), ai (f.shop.room), ai (f.shop.tpl), ai (f.shop.tph), ai (f.shop.apl), ai (f.shop.aph), .q 0, .q 1]))] rfl w6 rfl rfl fun I w => ?_
  refine WP.seq (WP.region ?_)
  refine WPl.l 2 3 rfl rfl rfl (o_boxg rfl) ?_
  refine WPl.l 3 4 rfl rfl rfl (o_alloc Z31) ?_
  refine WPl.nil (EX.then (WP.seq ?_))
  refine WP.draw (nf := 7) [⟨[6, 7, 8], [5], [], [], []⟩, ⟨[6, 7, 8], [5], [], [], [0]⟩, ⟨[6, 7, 8], [5], [4], [4], [0, 1]⟩, ⟨[3, 4, 5, 7, 8], [4], [5], [5], []⟩, ⟨[3, 4, 5, 6], [4, 5], [], [], []⟩, ⟨[3, 4, 5, 6], [4, 5], [], [], [4]⟩, ⟨[], [], [6], [6, 5], [0, 1, 2, 3, 4, 5]⟩, ⟨[], [], [], [], [0, 1, 2, 3, 4, 5, 6]⟩, ⟨[], [], [], [3], [0, 1, 2, 3, 4, 5, 6, 7]⟩] (by kernel_rfl) (by kernel_rfl) ?_
  refine DRQ.v rfl rfl rfl (o_fldp F31_0 rfl) ?_
  refine DRQ.v rfl rfl rfl (o_ldpg G28 rfl rfl rfl) ?_
  refine DRQ.cs rfl rfl rfl rfl (o_sig 4 (ren [(0, 0)]) (c21 f.shop (by omega)) e21 rfl rfl rfl w21 ⟨(lx rfl), trivial⟩ r21) ?_
  refine DRQ.l 5 rfl rfl rfl rfl (o_bsl (E := ENight) (l := []) R29 rfl rfl (.nil) rfl rfl) ?_
  refine DRQ.v rfl rfl rfl (o_fldp F31_1 rfl) ?_
  refine DRQ.v rfl rfl rfl (o_ldp S29 rfl rfl rfl) ?_
  refine DRQ.l2 6 5 rfl rfl rfl rfl (o_apps R29 EP.str_one rfl rfl rfl (lx rfl) (by simp; omega) (by simp; omega)) ?_
  refine DRQ.v rfl rfl rfl (o_build B31 rfl ⟨(.inr ⟨_, _, _, _, rfl⟩), trivial⟩ rfl rfl) ?_
  refine DRQ.s 3 rfl rfl rfl (o_stag G31 rfl rfl rfl ⟨rfl, rfl, rfl, rfl, rfl, rfl, rfl, rfl, rfl, rfl, (.inl ⟨_, (lx rfl), PL.one⟩), (.inr ⟨_, _, _, _, rfl⟩), trivial⟩ rfl rfl) ?_
  refine DRQ.nil' ?_
  refine EX.then (WP.ret ?_)
  refine EX.imp (Imp.frz (E := ENight) (l := [] ++ f.nights) 6 rfl rfl) ?_
  exact EX.fin (ren [(0, 4), (1, 6)]) (.inl rfl) rfl (.cellg G31 rfl rfl rfl (.nil)) rfl r6 ⟨(lx rfl), (lx rfl), trivial⟩ (by simp) (by simp)
end Go.Flong
namespace Go.Flong
open Go Go.Eng Go.Proofs
theorem e6 : Enters' Tryz.prog 6 := Tryz.call6
theorem G71 : TyG Tryz.prog 71 3 := ⟨Tryz.isAgg71, Tryz.sizeOf71⟩
theorem Z71 : Zero Tryz.prog 71 [ai (0), ai (0), ai (0)] := .mk Tryz.zeroValue71 rfl rfl
theorem w21O {s : Shop} : ∀ x ∈ ([.e (.g [ai (s.pounds), ai (s.tl), ai (s.th), ai (s.al), ai (s.ah), ai (s.room), ai (s.tpl), ai (s.tph), ai (s.apl), ai (s.aph), .q 0])] : List SV), x.res (keys (α := Pred) [(0, PL EPig (s.pigs))]) := by simp [SV.res, El.res, At.res, keys]
theorem r21O {s : Shop} : SV.res (keys (α := Pred) [(0, Pred.top)]) (.e (.g [ai (s.pounds), ai (s.tl), ai (s.th), ai (s.al), ai (s.ah), ai (s.room), ai (s.tpl), ai (s.tph), ai (s.apl), ai (s.aph), .q 0])) := by simp [SV.res, El.res, At.res, keys]
set_option maxHeartbeats 4000000 in
theorem c21O (s : Shop) (hl : s.pigs.length ≤ 40) : SigO Tryz.prog 21 [.e (.g [ai (s.pounds), ai (s.tl), ai (s.th), ai (s.al), ai (s.ah), ai (s.room), ai (s.tpl), ai (s.tph), ai (s.apl), ai (s.aph), .q 0])] [(0, PL EPig (s.pigs))] (.e (.g [ai (s.pounds), ai (s.tl), ai (s.th), ai (s.al), ai (s.ah), ai (s.room), ai (s.tpl), ai (s.tph), ai (s.apl), ai (s.aph), .q 0])) [(0, Pred.top)] [(0, .own 84 EPig.size ([] ++ s.pigs).length (RP EPig ([] ++ s.pigs)))] := by
  refine SigO.intro Tryz.func21 rfl 1 [(0, .e (.g [ai (s.pounds), ai (s.tl), ai (s.th), ai (s.al), ai (s.ah), ai (s.room), ai (s.tpl), ai (s.tph), ai (s.apl), ai (s.aph), .q 0]))] rfl w21O rfl rfl fun I w => ?_
  refine WP.seq (WP.region ?_)
  refine WPl.l 1 2 rfl rfl rfl (o_boxg rfl) ?_
  refine WPl.l 2 3 rfl rfl rfl (o_alloc Z28) ?_
  refine WPl.nil (EX.then (WP.seq (WP.region ?_)))
  refine WPl.v rfl (o_ldpa G28 rfl rfl rfl) ?_
  refine WPl.l 3 4 rfl rfl rfl (o_alloc Z28) ?_
  refine WPl.s1 (o_stag G28 rfl rfl rfl ⟨rfl, rfl, rfl, rfl, rfl, rfl, rfl, rfl, rfl, rfl, (.inl ⟨_, (lx rfl), PL.one⟩), trivial⟩ rfl rfl) ?_
  refine WPl.nil (EX.then (WP.seq (WP.region ?_)))
  refine WPl.l 4 5 rfl rfl rfl (o_bsl (E := EPig) (l := []) R26 rfl rfl (.nil) rfl rfl) ?_
  refine WPl.v rfl (o_fldp F28_4 rfl) ?_
  refine WPl.v rfl (o_ldp S26 rfl rfl rfl) ?_
  refine WPl.u1 (k := 5) (m := 6) rfl rfl rfl (o_apps R26 EP.str_one rfl rfl rfl (lx rfl) (by first | omega | (simp; omega) | (simp at *; omega)) (by first | omega | (simp; omega) | (simp at *; omega))) ?_
  refine WPl.v rfl (o_fldp F28_4 rfl) ?_
  refine WPl.s1 (o_sta S26 rfl rfl rfl (.inr ⟨_, _, _, _, rfl⟩) rfl) ?_
  refine WPl.nil (EX.then (WP.seq (WP.region ?_)))
  refine WPl.v rfl (o_ldpa G28 rfl rfl rfl) ?_
  refine WPl.s1 (o_stag G28 rfl rfl rfl ⟨rfl, rfl, rfl, rfl, rfl, rfl, rfl, rfl, rfl, rfl, (.inr ⟨_, _, _, _, rfl⟩), trivial⟩ rfl rfl) ?_
  refine WPl.nil (EX.then (WP.ret ?_))
  refine EX.imp (Imp.topX 5 rfl) ?_
  exact EX.finO (ren [(0, 5)]) rfl (.inl rfl) rfl (.cellg G28 rfl rfl rfl (.nil)) rfl r21O ⟨lx rfl, trivial⟩ ⟨rfl, trivial⟩ rfl rfl (by simp) (by simp)
theorem w6O {f : Fnd} : ∀ x ∈ ([.e (.g [ai (f.shop.pounds), ai (f.shop.tl), ai (f.shop.th), ai (f.shop.al), ai (f.shop.ah), ai (f.shop.room), ai (f.shop.tpl), ai (f.shop.tph), ai (f.shop.apl), ai (f.shop.aph), .q 0, .q 1])] : List SV), x.res (keys (α := Pred) [(0, PL EPig (f.shop.pigs)), (1, PL ENight (f.nights))]) := by simp [SV.res, El.res, At.res, keys]
theorem r6O {f : Fnd} : SV.res (keys (α := Pred) [(0, Pred.top), (1, Pred.top)]) (.e (.g [ai (f.shop.pounds), ai (f.shop.tl), ai (f.shop.th), ai (f.shop.al), ai (f.shop.ah), ai (f.shop.room), ai (f.shop.tpl), ai (f.shop.tph), ai (f.shop.apl), ai (f.shop.aph), .q 0, .q 1])) := by simp [SV.res, El.res, At.res, keys]
set_option maxHeartbeats 4000000 in
theorem c6O (f : Fnd) (hl : f.shop.pigs.length ≤ 40) (hn : f.nights.length ≤ 40) : SigO Tryz.prog 6 [.e (.g [ai (f.shop.pounds), ai (f.shop.tl), ai (f.shop.th), ai (f.shop.al), ai (f.shop.ah), ai (f.shop.room), ai (f.shop.tpl), ai (f.shop.tph), ai (f.shop.apl), ai (f.shop.aph), .q 0, .q 1])] [(0, PL EPig (f.shop.pigs)), (1, PL ENight (f.nights))] (.e (.g [ai (f.shop.pounds), ai (f.shop.tl), ai (f.shop.th), ai (f.shop.al), ai (f.shop.ah), ai (f.shop.room), ai (f.shop.tpl), ai (f.shop.tph), ai (f.shop.apl), ai (f.shop.aph), .q 0, .q 1])) [(0, Pred.top), (1, Pred.top)] [(0, .own 84 EPig.size ([] ++ f.shop.pigs).length (RP EPig ([] ++ f.shop.pigs))), (1, .own 71 ENight.size ([] ++ f.nights).length (RP ENight ([] ++ f.nights)))] := by
  refine SigO.intro Tryz.func6 rfl 2 [(0, .e (.g [ai (f.shop.pounds), ai (f.shop.tl), ai (f.shop.th), ai (f.shop.al), ai (f.shop.ah), ai (f.shop.room), ai (f.shop.tpl), ai (f.shop.tph), ai (f.shop.apl), ai (f.shop.aph), .q 0, .q 1]))] rfl w6O rfl rfl fun I w => ?_
  refine WP.seq (WP.region ?_)
  refine WPl.l 2 3 rfl rfl rfl (o_boxg rfl) ?_
  refine WPl.l 3 4 rfl rfl rfl (o_alloc Z31) ?_
  refine WPl.nil (EX.then (WP.seq ?_))
  refine WP.draw (nf := 7) [⟨[6, 7, 8], [5], [], [], []⟩, ⟨[6, 7, 8], [5], [], [], [0]⟩, ⟨[6, 7, 8], [5], [4], [4, 4], [0, 1]⟩, ⟨[3, 4, 5, 7, 8], [4], [5], [5], []⟩, ⟨[3, 4, 5, 6], [4, 5], [], [], []⟩, ⟨[3, 4, 5, 6], [4, 5], [], [], [4]⟩, ⟨[], [], [6], [6, 5], [0, 1, 2, 3, 4, 5]⟩, ⟨[], [], [], [], [0, 1, 2, 3, 4, 5, 6]⟩, ⟨[], [], [], [3], [0, 1, 2, 3, 4, 5, 6, 7]⟩] (by kernel_rfl) (by kernel_rfl) ?_
  refine DRQ.v rfl rfl rfl (o_fldp F31_0 rfl) ?_
  refine DRQ.v rfl rfl rfl (o_ldpg G28 rfl rfl rfl) ?_
  refine DRQ.cL rfl rfl rfl rfl (o_sigo 4 (ren [(0, 0)]) (c21O f.shop (by omega)) e21 rfl rfl SvsOK.rf w21O ⟨(lx rfl), trivial⟩ r21O rfl rfl) ?_
  refine DRQ.l 5 rfl rfl rfl rfl (o_bsl (E := ENight) (l := []) R29 rfl rfl (.nil) rfl rfl) ?_
  refine DRQ.v rfl rfl rfl (o_fldp F31_1 rfl) ?_
  refine DRQ.v rfl rfl rfl (o_ldp S29 rfl rfl rfl) ?_
  refine DRQ.l2 6 5 rfl rfl rfl rfl (o_apps R29 EP.str_one rfl rfl rfl (lx rfl) (by first | omega | (simp; omega) | (simp at *; omega)) (by first | omega | (simp; omega) | (simp at *; omega))) ?_
  refine DRQ.v rfl rfl rfl (o_build B31 rfl ⟨(.inr ⟨_, _, _, _, rfl⟩), trivial⟩ rfl rfl) ?_
  refine DRQ.s 3 rfl rfl rfl (o_stag G31 rfl rfl rfl ⟨rfl, rfl, rfl, rfl, rfl, rfl, rfl, rfl, rfl, rfl, (.inr ⟨_, _, _, _, rfl⟩), (.inr ⟨_, _, _, _, rfl⟩), trivial⟩ rfl rfl) ?_
  refine DRQ.nil' ?_
  refine EX.then (WP.ret ?_)
  refine EX.imp (Imp.topX 6 rfl) ?_
  exact EX.finO (ren [(0, 4), (1, 6)]) rfl (.inl rfl) rfl (.cellg G31 rfl rfl rfl (.nil)) rfl r6O ⟨lx rfl, lx rfl, trivial⟩ ⟨rfl, rfl, trivial⟩ rfl rfl (by simp) (by simp)
theorem w10 {f : Fnd} {i : Int} : ∀ x ∈ ([.e (.g [ai (f.shop.pounds), ai (f.shop.tl), ai (f.shop.th), ai (f.shop.al), ai (f.shop.ah), ai (f.shop.room), ai (f.shop.tpl), ai (f.shop.tph), ai (f.shop.apl), ai (f.shop.aph), .q 0, .q 1]), .i (i)] : List SV), x.res (keys (α := Pred) [(0, PL EPig (f.shop.pigs)), (1, PL ENight (f.nights))]) := by simp [SV.res, El.res, At.res, keys]
theorem r10 {f : Fnd} {i : Int} : SV.res (keys (α := Pred) [(0, PL EPig ((f.tested i).shop.pigs)), (1, PL ENight ((f.tested i).nights))]) (.e (.g [ai ((f.tested i).shop.pounds), ai ((f.tested i).shop.tl), ai ((f.tested i).shop.th), ai ((f.tested i).shop.al), ai ((f.tested i).shop.ah), ai ((f.tested i).shop.room), ai ((f.tested i).shop.tpl), ai ((f.tested i).shop.tph), ai ((f.tested i).shop.apl), ai ((f.tested i).shop.aph), .q 0, .q 1])) := by simp [SV.res, El.res, At.res, keys]
set_option maxHeartbeats 4000000 in
theorem c10 (f : Fnd) (i : Int) (hf : f.chk = true) (hi : 0 ≤ i ∧ i < f.nights.length) : Sig Tryz.prog 10 [.e (.g [ai (f.shop.pounds), ai (f.shop.tl), ai (f.shop.th), ai (f.shop.al), ai (f.shop.ah), ai (f.shop.room), ai (f.shop.tpl), ai (f.shop.tph), ai (f.shop.apl), ai (f.shop.aph), .q 0, .q 1]), .i (i)] [(0, PL EPig (f.shop.pigs)), (1, PL ENight (f.nights))] (.e (.g [ai ((f.tested i).shop.pounds), ai ((f.tested i).shop.tl), ai ((f.tested i).shop.th), ai ((f.tested i).shop.al), ai ((f.tested i).shop.ah), ai ((f.tested i).shop.room), ai ((f.tested i).shop.tpl), ai ((f.tested i).shop.tph), ai ((f.tested i).shop.apl), ai ((f.tested i).shop.aph), .q 0, .q 1])) [(0, PL EPig ((f.tested i).shop.pigs)), (1, PL ENight ((f.tested i).nights))] := by
  have hcb := Fnd.chkB hf
  refine Sig.intro Tryz.func10 rfl 2 [(0, .e (.g [ai (f.shop.pounds), ai (f.shop.tl), ai (f.shop.th), ai (f.shop.al), ai (f.shop.ah), ai (f.shop.room), ai (f.shop.tpl), ai (f.shop.tph), ai (f.shop.apl), ai (f.shop.aph), .q 0, .q 1])), (1, .i (i))] rfl w10 rfl rfl fun I w => ?_
  refine WP.seq (WP.region ?_)
  refine WPl.l 2 3 rfl rfl rfl (o_boxg rfl) ?_
  refine WPl.l 3 4 rfl rfl rfl (o_alloc Z31) ?_
  refine WPl.nil (EX.then (WP.seq (WP.region ?_)))
  refine WPl.v rfl (o_ldpa G31 rfl rfl rfl) ?_
  refine WPl.cL 6 rfl rfl rfl rfl rfl (o_sigo 4 (ren [(0, 0), (1, 1)]) (c6O f (by omega) (by omega)) e6 rfl rfl SvsOK.rf w6O ⟨(lx rfl), (lx rfl), trivial⟩ r6O rfl rfl) ?_
  refine WPl.l 6 7 rfl rfl rfl (o_alloc Z31) ?_
  refine WPl.s1 (o_stag G31 rfl rfl rfl ⟨rfl, rfl, rfl, rfl, rfl, rfl, rfl, rfl, rfl, rfl, (.inr ⟨_, _, _, _, rfl⟩), (.inr ⟨_, _, _, _, rfl⟩), trivial⟩ rfl rfl) ?_
  refine WPl.nil (EX.then (WP.seq (WP.region ?_)))
  refine WPl.v rfl (o_fldp F31_1 rfl) ?_
  refine WPl.v rfl (o_ldp S29 rfl rfl rfl) ?_
  refine WPl.v rfl (o_move rfl) ?_
  refine WPl.v rfl (o_idxo L29 rfl rfl rfl (by first | omega | (simp; omega)) (by first | omega | (simp; omega))) ?_
  refine WPl.v rfl (o_ldoG G71 rfl rfl rfl rfl (by first | omega | (simp; omega)) (by first | omega | (simp; omega)) (strG rfl) rfl rfl) ?_
  refine WPl.l 7 8 rfl rfl rfl (o_alloc Z71) ?_
  refine WPl.s1 (o_stag G71 rfl rfl rfl ⟨rfl, rfl, rfl, trivial⟩ rfl rfl) ?_
  refine WPl.nil (EX.then (WP.seq (WP.region ?_)))
  refine WPl.v rfl (o_fldp F71_1 rfl) ?_
  refine WPl.s1 (o_sta S3 rfl rfl rfl rfl rfl) ?_
  refine WPl.nil (EX.then (WP.seq (WP.region ?_)))
  refine WPl.v rfl (o_fldp F31_1 rfl) ?_
  refine WPl.v rfl (o_ldp S29 rfl rfl rfl) ?_
  refine WPl.v rfl (o_move rfl) ?_
  refine WPl.v rfl (o_ldpa G71 rfl rfl rfl) ?_
  refine WPl.v rfl (o_idxo L29 rfl rfl rfl (by first | omega | (simp; omega)) (by first | omega | (simp; omega))) ?_
  refine WPl.s1 (o_steE2 (z := ({ nth f.nights i with test := 1 } : Night)) Tryz.sizeOf71 rfl rfl rfl ⟨rfl, rfl, rfl, trivial⟩ (eok_str ⟨rfl, rfl, rfl, trivial⟩) rfl rfl rfl (by first | omega | (simp; omega)) (by first | omega | (simp; omega))) ?_
  refine WPl.nil (EX.then (WP.seq (WP.region ?_)))
  refine WPl.v rfl (o_ldpa G31 rfl rfl rfl) ?_
  refine WPl.s1 (o_stag G31 rfl rfl rfl ⟨rfl, rfl, rfl, rfl, rfl, rfl, rfl, rfl, rfl, rfl, (.inr ⟨_, _, _, _, rfl⟩), (.inr ⟨_, _, _, _, rfl⟩), trivial⟩ rfl rfl) ?_
  refine WPl.nil (EX.then (WP.ret ?_))
  refine EX.imp (Imp.frz (E := EPig) (l := [] ++ f.shop.pigs) 4 rfl rfl) ?_
  refine EX.imp (Imp.frz (E := ENight) (l := lset ([] ++ f.nights) i ({ nth f.nights i with test := 1 } : Night)) 5 rfl rfl) ?_
  exact EX.fin (ren [(0, 4), (1, 5)]) (.inl rfl) rfl (.cellg G31 rfl rfl rfl (.nil)) rfl r10 ⟨(lx rfl), (lx rfl), trivial⟩ (by simp) (by simp)
end Go.Flong
