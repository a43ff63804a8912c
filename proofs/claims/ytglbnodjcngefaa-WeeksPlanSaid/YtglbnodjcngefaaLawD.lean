/- Laws of layer 13 in plain terms, part 9: a night less, more pigs, clearer metal. -/
import Derived.Test.YtglbnodjcngefaaLawC
import Derived.Test.YtglbnodjcngefaaBase11
set_option linter.unusedSimpArgs false
set_option linter.unusedVariables false
namespace Go.Flong
open Go Go.Eng
theorem shop_chk_iff {s : Shop} : s.chk = true ↔ (0 ≤ s.pounds ∧ s.pounds ≤ 400 ∧ 0 ≤ s.tl ∧ s.tl ≤ s.th ∧ s.th ≤ s.pounds ∧ 0 ≤ s.al ∧ s.al ≤ s.ah ∧ s.ah ≤ s.pounds ∧ s.th + s.ah ≤ s.pounds ∧ s.pounds ≤ s.room ∧ s.room ≤ 999 ∧ 0 ≤ s.tpl ∧ s.tpl ≤ s.tph ∧ s.tph ≤ 1000 ∧ 0 ≤ s.apl ∧ s.apl ≤ s.aph ∧ s.aph ≤ 1000 ∧ s.pigs.length ≤ 4) ∧ s.pigs.all Pig.chk = true := by
  simp only [Shop.chk, Shop.head, isPot, isSpan, within, Bool.and_eq_true, decide_eq_true_eq]
  constructor
  · rintro ⟨h1, h2⟩; exact ⟨by omega, h2⟩
  · rintro ⟨h1, h2⟩; exact ⟨by omega, h2⟩
theorem hiTo_congr {l l' : List Night} : ∀ {n : Nat}, (∀ i : Nat, i < n → (nth l i).hi = (nth l' i).hi) → hiTo l n = hiTo l' n
  | 0, _ => rfl
  | n + 1, h => by simp only [hiTo]; rw [hiTo_congr (l := l) (l' := l') (n := n) (fun i hi => h i (by omega)), h n (by omega)]
theorem hiTo_le {l l' : List Night} : ∀ {n : Nat}, (∀ i : Nat, i < n → (nth l i).hi ≤ (nth l' i).hi) → hiTo l n ≤ hiTo l' n
  | 0, _ => Int.le_refl _
  | n + 1, h => by
    have h1 := hiTo_le (l := l) (l' := l') (n := n) (fun i hi => h i (by omega))
    have h2 := h n (by omega)
    simp only [hiTo]; omega
theorem loTo_congr {l l' : List Night} : ∀ {n : Nat}, (∀ i : Nat, i < n → (nth l i).lo = (nth l' i).lo) → loTo l n = loTo l' n
  | 0, _ => rfl
  | n + 1, h => by simp only [loTo]; rw [loTo_congr (l := l) (l' := l') (n := n) (fun i hi => h i (by omega)), h n (by omega)]
theorem chk_of {f : Fnd} (h1 : f.shop.chk = true) (h2 : f.nights.length ≤ 4) (h3 : ∀ i : Nat, i < f.nights.length → (nth f.nights i).chk = true) (h4 : hiTo f.nights f.nights.length ≤ f.shop.tl) : f.chk = true := by
  simp only [Fnd.chk, Bool.and_eq_true, decide_eq_true_eq]
  exact ⟨⟨⟨h1, by omega⟩, all_of h3⟩, h4⟩
/-! ### For how many nights nothing need be added -/
theorem lastTo_spec {f : Fnd} : ∀ n : Nat, ∃ i : Nat, i ≤ n ∧ f.lastTo n = i ∧ allI f.calmAt i = true ∧ (i = n ∨ f.calmAt i = false)
  | 0 => ⟨0, Nat.le_refl _, rfl, rfl, .inl rfl⟩
  | n + 1 => by
    obtain ⟨i, h1, h2, h3, h4⟩ := lastTo_spec (f := f) n
    rcases h4 with h4 | h4
    · subst h4
      cases hc : f.calmAt i with
      | true =>
        have : allI f.calmAt (i + 1) = true := by simp only [allI, h3, hc, Bool.and_self]
        exact ⟨i + 1, Nat.le_refl _, Fnd.lastTo_all (Nat.le_refl _) this (.inl rfl), this, .inl rfl⟩
      | false => exact ⟨i, by omega, Fnd.lastTo_all (by omega) h3 (.inr hc), h3, .inr hc⟩
    · exact ⟨i, by omega, Fnd.lastTo_all (by omega) h3 (.inr h4), h3, .inr h4⟩
theorem wLast_eq {f : Fnd} (hf : f.chk = true) : f.wLastV = (f.lastTo f.nights.length : Int) := by
  rw [wLastV_eq, Fnd.lastN, if_pos hf]
section
variable {f o : Fnd}
theorem Better.zeros (B : Better f o) : o.zeros = f.zeros := by unfold Fnd.zeros; rw [B.k]
theorem Better.calm (B : Better f o) {i : Nat} (hi : i < o.nights.length) (h : f.calmAt i = true) : o.calmAt i = true := by
  unfold Fnd.calmAt at *
  rw [B.safe, B.k]
  have := B.sp i (by omega)
  unfold spOf at this
  simp only [Int.toNat_natCast] at this
  exact safe_sub this h
theorem Better.last (B : Better f o) (hn : o.nights.length = f.nights.length) (hf : f.chk = true) (ho : o.chk = true) : f.wLastV ≤ o.wLastV := by
  rw [wLast_eq hf, wLast_eq ho]
  obtain ⟨i, h1, h2, h3, h4⟩ := lastTo_spec (f := f) f.nights.length
  obtain ⟨j, g1, g2, g3, g4⟩ := lastTo_spec (f := o) o.nights.length
  rw [h2, g2]
  by_cases h : i ≤ j
  · omega
  · rcases g4 with g4 | g4
    · omega
    · have := B.calm (i := j) (by omega) (allI_iff.1 h3 j (by omega))
      rw [this] at g4; cases g4
theorem same_rows (h1 : o.shop = f.shop) {n : Nat} (h2 : ∀ i : Nat, i < n → nth o.nights i = nth f.nights i) {i : Nat} (hi : i < n) : o.calmAt i = f.calmAt i := by
  unfold Fnd.calmAt
  have e1 : loTo o.nights i = loTo f.nights i := loTo_congr fun k hk => by rw [h2 k (by omega)]
  have e2 : hiTo o.nights i = hiTo f.nights i := hiTo_congr fun k hk => by rw [h2 k (by omega)]
  have e3 : ∀ tl th al ah dl dh add, o.safeOn tl th al ah dl dh add = f.safeOn tl th al ah dl dh add := fun tl th al ah dl dh add => by
    unfold Fnd.safeOn Fnd.keeps; rw [h1]
  rw [e1, e2, e3, h1]
end
/-! ### A night less -/
theorem cut_nth (f : Fnd) {i : Nat} (hi : i < f.nights.length - 1) : nth f.cut.nights i = nth f.nights i := by
  have e : f.cut.nights = f.nights.take (f.nights.length - 1) := by
    show (f.nights.take ((f.nights.length : Int) - 1).toNat).drop 0 = _
    rw [List.drop_zero]; congr 1; omega
  rw [e, nthN (by rw [List.length_take]; omega), nthN (by omega), List.getElem_take]
theorem cut_better {f : Fnd} (hf : f.chk = true) : Better f f.cut := by
  have hb := tl_bnd (Fnd.shopOK hf)
  refine ⟨by rw [cut_len]; omega, rfl, fun j => ⟨rfl, rfl, rfl, rfl, Int.le_refl _⟩, ⟨rfl, Int.le_refl _⟩, ⟨rfl, rfl, rfl, rfl⟩, fun i hi => ?_, ?_⟩
  · rw [cut_len] at hi
    rw [cut_nth f hi]
    have := Night.bnds ((Fnd.nightsOK hf).at (show i < f.nights.length by omega))
    omega
  · exact ⟨⟨Int.le_refl _, show f.shop.tl ≤ f.shop.th by omega, Int.le_refl _⟩, ⟨Int.le_refl _, show f.shop.al ≤ f.shop.ah by omega, Int.le_refl _⟩⟩
theorem cut_chk {f : Fnd} (hf : f.chk = true) : f.cut.chk = true := by
  have hl := cut_len f
  refine chk_of (show f.shop.chk = true from Fnd.shopOK hf) (by rw [hl]; have := (Fnd.chkB hf).2; omega) (fun i hi => ?_) ?_
  · rw [cut_nth f (by omega)]
    exact (Fnd.nightsOK hf).at (by omega)
  · rw [hl, hiTo_congr (l' := f.nights) (fun i hi => by rw [cut_nth f hi])]
    exact Fnd.hi_le hf (by omega)
theorem cutLaw {f : Fnd} (hf : f.chk = true) (h0 : 0 < f.nights.length) : CutLaw f := by
  have hc := cut_chk hf
  have hl := cut_len f
  refine ⟨hc, (cut_better hf).less hf hc fun i hi => .inl (by rw [cut_nth f (by omega)]), ?_⟩
  rw [wLast_eq hf, wLast_eq hc]
  obtain ⟨i, h1, h2, h3, h4⟩ := lastTo_spec (f := f) f.nights.length
  have hs := fun k (hk : k < f.nights.length - 1) => same_rows (f := f) (o := f.cut) rfl (n := f.nights.length - 1) (fun i hi => cut_nth f hi) hk
  have hm : f.cut.lastTo f.cut.nights.length = min i (f.nights.length - 1) := by
    refine Fnd.lastTo_all (by rw [hl]; omega) (allI_iff.2 fun j hj => ?_) ?_
    · rw [hs j (by omega)]; exact allI_iff.1 h3 j (by omega)
    · rw [hl]
      by_cases h : i < f.nights.length - 1
      · rcases h4 with h4 | h4
        · omega
        · right
          rw [show min i (f.nights.length - 1) = i by omega, hs i h]; exact h4
      · left; omega
  rw [hm, h2, hl]; omega
/-! ### More pigs, more room -/
theorem roomed_better {f : Fnd} (hf : f.chk = true) {b : Int} (hb : f.shop.room < b) : Better f (f.roomed b) := by
  have ht := tl_bnd (Fnd.shopOK hf)
  refine ⟨Nat.le_refl _, rfl, fun j => ⟨rfl, rfl, rfl, rfl, Int.le_refl _⟩, ⟨rfl, by show f.shop.room ≤ b; omega⟩, ⟨rfl, rfl, rfl, rfl⟩, fun i hi => ?_, ?_⟩
  · have := Night.bnds ((Fnd.nightsOK hf).at (show i < f.nights.length from hi))
    show (nth f.nights i).lo ≤ (nth f.nights i).lo ∧ (nth f.nights i).lo ≤ (nth f.nights i).hi ∧ (nth f.nights i).hi ≤ (nth f.nights i).hi
    omega
  · exact ⟨⟨Int.le_refl _, show f.shop.tl ≤ f.shop.th by omega, Int.le_refl _⟩, ⟨Int.le_refl _, show f.shop.al ≤ f.shop.ah by omega, Int.le_refl _⟩⟩
theorem nth_lsetI {α : Type} [Inhabited α] {l : List α} {k : Int} {x : α} (h0 : 0 ≤ k) (hk : k < l.length) (j : Nat) : nth (lset l k x) j = if (j : Int) = k then x else nth l j := by
  have := nth_lset' (l := l) (i := k.toNat) (x := x) (by omega) j
  rw [show ((k.toNat : Nat) : Int) = k by omega] at this
  rw [this]
  by_cases h : j = k.toNat
  · rw [if_pos h, if_pos (by omega)]
  · rw [if_neg h, if_neg (by omega)]
theorem pigged_better {f : Fnd} (hf : f.chk = true) {k : Int} (h0 : 0 ≤ k) (hk : k < f.shop.pigs.length) : Better f (f.pigged k) := by
  have ht := tl_bnd (Fnd.shopOK hf)
  have hn := fun j : Nat => nth_lsetI (l := f.shop.pigs) (k := k) (x := { nth f.shop.pigs k with many := (nth f.shop.pigs k).many + 1 }) h0 hk j
  refine ⟨Nat.le_refl _, pigged_len f k, fun j => ?_, ⟨rfl, Int.le_refl _⟩, ⟨rfl, rfl, rfl, rfl⟩, fun i hi => ?_, ?_⟩
  · show (nth (lset f.shop.pigs k _) (j : Int)).pounds = _ ∧ (nth (lset f.shop.pigs k _) (j : Int)).tin = _ ∧ (nth (lset f.shop.pigs k _) (j : Int)).ant = _ ∧ (nth (lset f.shop.pigs k _) (j : Int)).pence = _ ∧ _ ≤ (nth (lset f.shop.pigs k _) (j : Int)).many
    rw [hn j]
    by_cases h : (j : Int) = k
    · rw [if_pos h, ← h]
      refine ⟨rfl, rfl, rfl, rfl, ?_⟩
      show _ ≤ (nth f.shop.pigs (j : Int)).many + 1
      omega
    · rw [if_neg h]; exact ⟨rfl, rfl, rfl, rfl, Int.le_refl _⟩
  · have := Night.bnds ((Fnd.nightsOK hf).at (show i < f.nights.length from hi))
    show (nth f.nights i).lo ≤ (nth f.nights i).lo ∧ (nth f.nights i).lo ≤ (nth f.nights i).hi ∧ (nth f.nights i).hi ≤ (nth f.nights i).hi
    omega
  · exact ⟨⟨Int.le_refl _, show f.shop.tl ≤ f.shop.th by omega, Int.le_refl _⟩, ⟨Int.le_refl _, show f.shop.al ≤ f.shop.ah by omega, Int.le_refl _⟩⟩
theorem moreLaw {f : Fnd} (hf : f.chk = true) (k b : Int) : MoreLaw f k b := by
  refine ⟨fun h1 h2 => (roomed_better hf h1).less hf (rdy_parts h2).2 fun i _ => .inl rfl, fun h1 h2 => ?_⟩
  simp only [within, Bool.and_eq_true, decide_eq_true_eq] at h1
  exact (pigged_better hf h1.1 (by omega)).less hf (rdy_parts h2).2 fun i _ => .inl rfl
/-! ### Clearer metal -/
section
variable {f : Fnd} {c : Clr}
theorem cleared_nth (h1 : 0 ≤ c.night ∧ c.night < f.nights.length) (j : Nat) : nth (f.cleared c).nights j = if (j : Int) = c.night then { nth f.nights c.night with lo := c.dl, hi := c.dh } else nth f.nights j := nth_lsetI h1.1 h1.2 j
theorem cleared_better (hf : f.chk = true) (h1 : 0 ≤ c.night ∧ c.night < f.nights.length) (h2 : f.shop.tl ≤ c.tl ∧ c.tl ≤ c.th ∧ c.th ≤ f.shop.th) (h3 : f.shop.al ≤ c.al ∧ c.al ≤ c.ah ∧ c.ah ≤ f.shop.ah) (h4 : (nth f.nights c.night).lo ≤ c.dl ∧ c.dl ≤ c.dh ∧ c.dh ≤ (nth f.nights c.night).hi) : Better f (f.cleared c) := by
  refine ⟨by rw [cleared_len]; exact Nat.le_refl _, rfl, fun j => ⟨rfl, rfl, rfl, rfl, Int.le_refl _⟩, ⟨rfl, Int.le_refl _⟩, ⟨rfl, rfl, rfl, rfl⟩, fun i hi => ?_, h2, h3⟩
  rw [cleared_len] at hi
  rw [cleared_nth h1]
  by_cases h : (i : Int) = c.night
  · rw [if_pos h, h]; exact h4
  · rw [if_neg h]
    have := Night.bnds ((Fnd.nightsOK hf).at hi)
    omega
theorem cleared_chk (hf : f.chk = true) (h1 : 0 ≤ c.night ∧ c.night < f.nights.length) (h2 : f.shop.tl ≤ c.tl ∧ c.tl ≤ c.th ∧ c.th ≤ f.shop.th) (h3 : f.shop.al ≤ c.al ∧ c.al ≤ c.ah ∧ c.ah ≤ f.shop.ah) (h4 : (nth f.nights c.night).lo ≤ c.dl ∧ c.dl ≤ c.dh ∧ c.dh ≤ (nth f.nights c.night).hi) : (f.cleared c).chk = true := by
  have hs := Fnd.shopOK hf
  have hb := tl_bnd hs
  have B := cleared_better hf h1 h2 h3 h4
  refine chk_of ?_ (by rw [cleared_len]; exact (Fnd.chkB hf).2) (fun i hi => ?_) ?_
  · have h5 := shop_chk_iff.1 hs
    refine shop_chk_iff.2 ⟨?_, h5.2⟩
    have h6 := h5.1
    show 0 ≤ f.shop.pounds ∧ f.shop.pounds ≤ 400 ∧ 0 ≤ c.tl ∧ c.tl ≤ c.th ∧ c.th ≤ f.shop.pounds ∧ 0 ≤ c.al ∧ c.al ≤ c.ah ∧ c.ah ≤ f.shop.pounds ∧ c.th + c.ah ≤ f.shop.pounds ∧ f.shop.pounds ≤ f.shop.room ∧ f.shop.room ≤ 999 ∧ 0 ≤ f.shop.tpl ∧ f.shop.tpl ≤ f.shop.tph ∧ f.shop.tph ≤ 1000 ∧ 0 ≤ f.shop.apl ∧ f.shop.apl ≤ f.shop.aph ∧ f.shop.aph ≤ 1000 ∧ f.shop.pigs.length ≤ 4
    omega
  · rw [cleared_len] at hi
    have hn := (Fnd.nightsOK hf).at hi
    rw [cleared_nth h1]
    by_cases h : (i : Int) = c.night
    · rw [if_pos h]
      rw [h] at hn
      have := Night.bnds hn
      simp only [Night.chk, isSpan, within, Bool.and_eq_true, decide_eq_true_eq]
      omega
    · rw [if_neg h]; exact hn
  · rw [cleared_len]
    have := hiTo_le (l := (f.cleared c).nights) (l' := f.nights) (n := f.nights.length) (fun i hi => (B.d i (by rw [cleared_len]; exact hi)).2.2)
    have h5 := Fnd.hi_le hf (Nat.le_refl f.nights.length)
    have h6 : (f.cleared c).shop.tl = c.tl := rfl
    rw [h6]; omega
end
section
variable {f o : Fnd} {plan : List (List Int)}
theorem Better.isPlan (B : Better f o) (hn : o.nights.length = f.nights.length) (hf : f.chk = true) (h : f.isPlan plan = true) : o.isPlan plan = true := by
  simp only [Fnd.isPlan, Bool.and_eq_true, decide_eq_true_eq, allI_iff] at h ⊢
  obtain ⟨⟨h1, h2⟩, h3⟩ := h
  refine ⟨⟨by omega, fun i hi => ?_⟩, fun i hi => ?_⟩
  · have := h2 i hi
    simp only [rowOK, Bool.and_eq_true, decide_eq_true_eq, allI_iff, fitsMany, within] at this ⊢
    refine ⟨by rw [B.k]; exact this.1, fun j hj => ?_⟩
    have h4 := this.2 j hj
    have h5 := (B.g j).2.2.2.2
    omega
  · have h4 := fitsAt_iff.1 (h3 i hi)
    rw [fitsAt_iff, B.k]
    refine ⟨fun j hj => ?_, ?_⟩
    · have h5 := h4.1 j hj
      have h6 := (B.g j).2.2.2.2
      omega
    · have h5 := (B.sp i (by omega)).2.2.1
      simp only [spOf, Int.toNat_natCast] at h5
      have h6 := B.p
      rw [B.pounds]; omega
theorem Better.safeAt (B : Better f o) {i : Nat} (hi : i < o.nights.length) (h : f.safeAt plan i = true) : o.safeAt plan i = true := by
  unfold Fnd.safeAt at *
  rw [B.safe, B.k]
  have := B.sp i (by omega)
  unfold spOf at this
  simp only [Int.toNat_natCast] at this
  exact safe_sub this h
theorem Better.holds (B : Better f o) (hn : o.nights.length = f.nights.length) {t a : Int} : ∀ (n : Nat) (d : Int), n ≤ f.nights.length → o.holds plan t a n d = true → f.holds plan t a n d = true
  | 0, _, _, _ => rfl
  | n + 1, d, hle, h => by
    simp only [Fnd.holds, Bool.and_eq_true, not_allI_iff, Bool.not_eq_false'] at h ⊢
    rw [hn, B.keeps, B.k] at h
    obtain ⟨h1, i, h2, h3⟩ := h
    have hd := B.d (f.nights.length - (n + 1)) (by omega)
    refine ⟨h1, (i + ((nth o.nights ((f.nights.length - (n + 1) : Nat) : Int)).lo - (nth f.nights ((f.nights.length - (n + 1) : Nat) : Int)).lo).toNat), by omega, ?_⟩
    have := B.holds hn n _ (by omega) h3
    rw [← this]
    congr 1
    omega
theorem Better.safeV (B : Better f o) (hn : o.nights.length = f.nights.length) (hf : f.chk = true) (ho : o.chk = true) (h : f.isPlan plan = true) : f.wSafeV plan = 3 ∨ o.wSafeV plan = f.wSafeV plan := by
  have h1 := openE_ok hf h
  have h2 := openE_ok ho (B.isPlan hn hf h)
  have hpf := Fnd.planB hf h
  have hpo := Fnd.planB ho (B.isPlan hn hf h)
  rcases safeV_cases h1 with ⟨g1, g2⟩ | ⟨g1, _⟩ | ⟨g1, g2, g3⟩
  · right
    have hz : (failsTo o plan o.nights.length).length = 0 := by
      cases hl : failsTo o plan o.nights.length with
      | nil => rfl
      | cons x t =>
        have : x ∈ failsTo o plan o.nights.length := by rw [hl]; exact List.mem_cons_self
        obtain ⟨i, hi, _, hs⟩ := (mem_failsTo _).1 this
        rw [B.safeAt hi (fails_none g2 (by omega))] at hs; cases hs
    rcases safeV_cases h2 with ⟨k1, _⟩ | ⟨_, k2, _⟩ | ⟨_, k2, _⟩
    · rw [g1, k1]
    · exact absurd hz k2
    · exact absurd hz k2
  · exact .inl g1
  · right
    have hno : ∀ t a : Int, o.shop.tl ≤ t → t ≤ o.shop.th → o.shop.al ≤ a → a ≤ o.shop.ah → o.holds plan t a o.nights.length 0 = true → False := fun t a c1 c2 c3 c4 c5 => by
      have := B.s
      rw [hn] at c5
      have := B.holds hn f.nights.length 0 (Nat.le_refl _) c5
      rw [(wCan_iff hpf).2 ⟨t, a, by omega, by omega, by omega, by omega, this⟩] at g3
      cases g3
    rcases safeV_cases h2 with ⟨k1, k2⟩ | ⟨_, _, k3⟩ | ⟨k1, _⟩
    · exfalso
      have hl := lohi_bnd (Fnd.nightsOK ho)
      have hs := B.s
      -- the truth of the least spans
      let t : Tru := ⟨o.shop.tl, o.shop.al, (List.range o.nights.length).map fun i : Nat => (nth o.nights i).lo⟩
      have hd : ∀ i : Nat, i < o.nights.length → nth t.dross i = (nth o.nights i).lo := fun i hi => by
        show nth ((List.range o.nights.length).map fun i : Nat => (nth o.nights i).lo) i = _
        rw [nthN (by simpa using hi)]; simp
      have hlen : t.dross.length = o.nights.length := by simp [t]
      have ht : o.isTruth t = true := by
        simp only [Fnd.isTruth, within, Bool.and_eq_true, decide_eq_true_eq, allI_iff]
        refine ⟨⟨⟨⟨Int.le_refl _, hs.1.2.1⟩, ⟨Int.le_refl _, hs.2.2.1⟩⟩, by omega⟩, fun i hi => ?_⟩
        simp only [Fnd.truthAt, within, Bool.and_eq_true, decide_eq_true_eq]
        rw [hd i (by omega)]
        have := Night.bnds ((Fnd.nightsOK ho).at (show i < o.nights.length by omega))
        omega
      have := truth_holds hpo ht (fun i hi => safe_at_keeps ho ht hi (fails_none k2 hi)) o.nights.length 0 (by omega)
      exact hno _ _ (Int.le_refl _) hs.1.2.1 (Int.le_refl _) hs.2.2.1 this
    · obtain ⟨t, a, c1, c2, c3, c4, c5⟩ := (wCan_iff hpo).1 k3
      exact (hno t a c1 c2 c3 c4 c5).elim
    · rw [g1, k1]
theorem clearLaw {c : Clr} (hf : f.chk = true) (h1 : 0 ≤ c.night ∧ c.night < f.nights.length) (h2 : f.shop.tl ≤ c.tl ∧ c.tl ≤ c.th ∧ c.th ≤ f.shop.th) (h3 : f.shop.al ≤ c.al ∧ c.al ≤ c.ah ∧ c.ah ≤ f.shop.ah) (h4 : (nth f.nights c.night).lo ≤ c.dl ∧ c.dl ≤ c.dh ∧ c.dh ≤ (nth f.nights c.night).hi) : ClearLaw f c plan := by
  have B := cleared_better hf h1 h2 h3 h4
  have ho := cleared_chk hf h1 h2 h3 h4
  have hn := cleared_len f c
  refine ⟨ho, B.less hf ho fun i hi => .inl ?_, B.last hn hf ho, fun h => ?_, fun h => ?_, fun h => ?_, fun h => B.safeV hn hf ho h⟩
  · rw [cleared_nth h1]
    by_cases h : (i : Int) = c.night
    · rw [if_pos h, h]
    · rw [if_neg h]
  · rw [wOpen_eq]; exact openE_ok hf h
  · rw [wOpen_eq]; exact openE_ok ho (B.isPlan hn hf h)
  · rcases safeV_cases (openE_ok hf h) with ⟨g, _⟩ | ⟨g, _⟩ | ⟨g, _⟩ <;> rw [g] <;> rfl
end
end Go.Flong
