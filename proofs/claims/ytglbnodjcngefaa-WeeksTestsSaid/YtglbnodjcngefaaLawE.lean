/- Laws of layer 13 in plain terms, part 10: the analyses. -/
import Derived.Test.YtglbnodjcngefaaLawD
set_option linter.unusedSimpArgs false
set_option linter.unusedVariables false
namespace Go.Flong
open Go Go.Eng
section
variable {f : Fnd}
theorem bnd5_next (hf : f.chk = true) {before x : List Int} (hb : BefP f before) (hx : x ∈ boxS (remL f before)) : bnd (plus before x) 5 := by
  have hpg := Shop.pigsOK (Fnd.shopOK hf)
  obtain ⟨g1, g2⟩ := mem_boxS.1 hx
  rw [remL_len] at g1 g2
  intro j hj
  rw [plus_len] at hj
  have h3 := g2 j (by have := hb.len; omega)
  rw [remL_nth (by have := hb.len; omega)] at h3
  have h4 := hb.pos j hj
  have h5 := Pig.bnds (hpg.at (show j < f.shop.pigs.length by have := hb.len; omega))
  rw [nth_plus hj]; omega
theorem rows_sub {s s' : Sp} (hs : SpIn s s') {before x : List Int} (hb : BefP f before) (hx : x ∈ f.rowsS s' before) : x ∈ f.rowsS s before := by
  obtain ⟨h1, h2, h3⟩ := (mem_rowsS hb).1 hx
  exact (mem_rowsS hb).2 ⟨h1, by have := hs.2.2; omega, safe_sub hs h3⟩
theorem next_sub (hf : f.chk = true) {s s' : Sp} (hs : SpIn s s') {i : Nat} (hi : i < f.nights.length) : SpIn (nextS f i s) (nextS f i s') := by
  have := Night.bnds ((Fnd.nightsOK hf).at hi)
  unfold SpIn at *
  simp only [nextS]; omega
theorem next_spOf (i : Nat) : nextS f i (spOf f (i : Int)) = spOf f ((i + 1 : Nat) : Int) := by
  simp only [nextS, spOf, Int.toNat_natCast, loTo, hiTo]
/-- With whatever is known no more is paid than a safe plan costs. -/
theorem now_le_plan (hf : f.chk = true) : ∀ (n night : Nat) (s : Sp) (before : List Int) (p : List (List Int)), night + n = f.nights.length → BefP f before → SpIn s (spOf f night) → p ∈ f.plansR n night before → f.now n night s before ≤ gcost costG f.shop.pigs p
  | 0, night, s, before, p, hn, hb, hs, hp => by
    simp only [Fnd.plansR, List.mem_singleton] at hp
    subst hp
    simp [Fnd.now, gcost]
  | n + 1, night, s, before, p, hn, hb, hs, hp => by
    have e3 : ((night : Int) + 1) = ((night + 1 : Nat) : Int) := by omega
    rw [plansR_succ, List.mem_flatMap] at hp
    obtain ⟨x, hx, hp⟩ := hp
    obtain ⟨q, hq, rfl⟩ := List.mem_map.1 hp
    rw [e3] at hq
    have hbx := rowsS_box hx
    have hpe := pence_pos (Shop.pigsOK (Fnd.shopOK hf)) hb hbx
    have key : ∀ s : Sp, SpIn s (spOf f night) → f.beh (f.now n ((night : Int) + 1)) night s before ≤ gcost costG f.shop.pigs (x :: q) := fun s hs => by
      have h1 := (beh_le (nx := f.now n ((night : Int) + 1)) (night := (night : Int))).2 x (rows_sub hs hb hx)
      have h2 := next_sub hf hs (i := night) (by omega)
      rw [next_spOf] at h2
      have ih := now_le_plan hf n (night + 1) (nextS f night s) (plus before x) q (by omega) (hb.next hbx) h2 hq
      simp only [gcost, costG]
      rw [e3] at h1 ⊢
      omega
    simp only [Fnd.now]
    split
    · exact key s hs
    · have h0 : 0 ≤ gcost costG f.shop.pigs (x :: q) := by
        have h1 := (mem_plansR n (night + 1) (plus before x) q).1 hq
        have : ∀ (k : Nat) (b : List Int) (q : List (List Int)), BefP f b → q ∈ f.plansR k ((night + 1 + (n - k) : Nat) : Int) b → 0 ≤ gcost costG f.shop.pigs q := by
          intro k
          induction k with
          | zero => intro b q _ h; simp [Fnd.plansR] at h; subst h; simp [gcost]
          | succ k ih =>
            intro b q hb2 h
            rw [plansR_succ, List.mem_flatMap] at h
            obtain ⟨y, hy, h⟩ := h
            obtain ⟨z, hz, rfl⟩ := List.mem_map.1 h
            have hpy := pence_pos (Shop.pigsOK (Fnd.shopOK hf)) hb2 (rowsS_box hy)
            have hz0 : 0 ≤ gcost costG f.shop.pigs z := by
              clear ih
              have : ∀ (m : Nat) (nt : Int) (b : List Int) (z : List (List Int)), BefP f b → z ∈ f.plansR m nt b → 0 ≤ gcost costG f.shop.pigs z := by
                intro m
                induction m with
                | zero => intro nt b z _ h; simp [Fnd.plansR] at h; subst h; simp [gcost]
                | succ m ih =>
                  intro nt b z hb3 h
                  rw [plansR_succ, List.mem_flatMap] at h
                  obtain ⟨u, hu, h⟩ := h
                  obtain ⟨v, hv, rfl⟩ := List.mem_map.1 h
                  have h1 := pence_pos (Shop.pigsOK (Fnd.shopOK hf)) hb3 (rowsS_box hu)
                  have h2 := ih _ _ v (hb3.next (rowsS_box hu)) hv
                  simp only [gcost, costG]; omega
              exact this _ _ _ z (hb2.next (rowsS_box hy)) hz
            simp only [gcost, costG]; omega
        have h3 := this n (plus before x) q (hb.next hbx) (by rw [Nat.sub_self, Nat.add_zero]; exact hq)
        simp only [gcost, costG]; omega
      refine worst3_le h0 fun t a d _ _ _ _ _ _ => key _ ?_
      unfold SpIn at *
      simp only []; omega
/-- Without analyses a safe plan costs what is known. -/
theorem now_at_plan (hf : f.chk = true) (ht : ∀ i : Nat, i < f.nights.length → (nth f.nights i).test = 0) : ∀ (n night : Nat) (before : List Int), night + n = f.nights.length → BefP f before → f.now n night (spOf f night) before = neverC ∨ ∃ p ∈ f.plansR n night before, f.now n night (spOf f night) before = gcost costG f.shop.pigs p
  | 0, night, before, hn, hb => .inr ⟨[], by simp [Fnd.plansR], rfl⟩
  | n + 1, night, before, hn, hb => by
    have e3 : ((night : Int) + 1) = ((night + 1 : Nat) : Int) := by omega
    simp only [Fnd.now]
    rw [if_pos (ht night (by omega))]
    have h0 := (beh_le (f := f) (nx := f.now n ((night : Int) + 1)) (night := (night : Int)) (s := spOf f night) (before := before)).1
    rcases beh_at (f := f) (nx := f.now n ((night : Int) + 1)) (night := (night : Int)) (s := spOf f night) (before := before) with h | ⟨r, hr, h⟩
    · exact .inl h
    · have hbx := rowsS_box hr
      have hpe := pence_pos (Shop.pigsOK (Fnd.shopOK hf)) hb hbx
      rw [next_spOf, e3] at h
      rw [e3] at h0 ⊢
      rcases now_at_plan hf ht n (night + 1) (plus before r) (by omega) (hb.next hbx) with h2 | ⟨q, hq, h2⟩
      · rw [h2] at h; exact .inl (by omega)
      · refine .inr ⟨r :: q, ?_, by rw [h, h2]; simp only [gcost, costG]; omega⟩
        rw [plansR_succ, List.mem_flatMap]
        exact ⟨r, hr, List.mem_map.2 ⟨q, by rw [e3]; exact hq, rfl⟩⟩
theorem spOf0 (hf : f.chk = true) : SpIn (spOf f ((0 : Nat) : Int)) (spOf f ((0 : Nat) : Int)) := by
  have := tl_bnd (Fnd.shopOK hf)
  unfold SpIn spOf; simp only [Int.toNat_natCast, loTo, hiTo]; omega
theorem knownN_spOf : f.knownN = f.now f.nights.length ((0 : Nat) : Int) (spOf f ((0 : Nat) : Int)) f.zeros := rfl
theorem known_le_cheap (hf : f.chk = true) : f.knownC ≤ f.cheapC := by
  unfold Fnd.cheapC
  rcases leastC_eq hf costG_b with ⟨_, _, h1⟩ | ⟨_, _, h1, h2, h3, p, hp, _, h4, _⟩
  · rw [h1]
    rcases knownC_eq hf with ⟨_, _, g⟩ | ⟨_, g2, _, _, g⟩ <;> omega
  · have := now_le_plan hf f.nights.length 0 (spOf f ((0 : Nat) : Int)) f.zeros p (by omega) (bef_zeros f) (spOf0 hf) hp
    rw [← knownN_spOf] at this
    rw [h1]
    have hn : neverC = 1073741824 := rfl
    rcases knownC_eq hf with ⟨g1, _, g⟩ | ⟨_, g2, _, _, g⟩ <;> omega
theorem known_eq_cheap (hf : f.chk = true) (ht : ∀ i : Nat, i < f.nights.length → (nth f.nights i).test = 0) : f.knownC = f.cheapC := by
  have h0 := known_le_cheap hf
  have hn : neverC = 1073741824 := rfl
  have hk := now_at_plan hf ht f.nights.length 0 f.zeros (by omega) (bef_zeros f)
  rw [← knownN_spOf] at hk
  unfold Fnd.cheapC at *
  rcases hk with h | ⟨p, hp, h⟩
  · rcases knownC_eq hf with ⟨g1, _, g⟩ | ⟨_, g2, _, _, g⟩
    · rcases leastC_eq hf costG_b with ⟨_, _, h1⟩ | ⟨_, _, h1, h2, h3, _⟩ <;> omega
    · omega
  · have hp2 : p ∈ f.allPlans := hp
    rcases leastC_eq hf costG_b with ⟨h1, _, _⟩ | ⟨_, _, h1, h2, h3, q, _, _, _, h5⟩
    · rw [h1] at hp2; simp at hp2
    · have := h5 p hp2
      rcases knownC_eq hf with ⟨g1, _, g⟩ | ⟨_, g2, _, _, g⟩ <;> omega
theorem testsTo_zero (hf : f.chk = true) : ∀ n : Nat, n ≤ f.nights.length → f.testsTo n = 0 → ∀ i : Nat, i < n → (nth f.nights i).test = 0
  | 0, _, _, i, hi => absurd hi (by omega)
  | n + 1, hn, h, i, hi => by
    have h1 := testsTo_bnd hf n (by omega)
    have h2 := Night.bnds ((Fnd.nightsOK hf).at (show n < f.nights.length by omega))
    simp only [Fnd.testsTo] at h
    by_cases e : i = n
    · subst e; omega
    · exact testsTo_zero hf n (by omega) (by omega) i (by omega)
theorem tested_len (i : Int) : (f.tested i).nights.length = f.nights.length := lset_len _ _ _
theorem tested_better (hf : f.chk = true) {i : Nat} (hi : i < f.nights.length) : Better f (f.tested i) := by
  have ht := tl_bnd (Fnd.shopOK hf)
  refine ⟨by rw [tested_len]; exact Nat.le_refl _, rfl, fun j => ⟨rfl, rfl, rfl, rfl, Int.le_refl _⟩, ⟨rfl, Int.le_refl _⟩, ⟨rfl, rfl, rfl, rfl⟩, fun j hj => ?_, ?_⟩
  · rw [tested_len] at hj
    have := Night.bnds ((Fnd.nightsOK hf).at hj)
    have e : nth (f.tested i).nights j = if j = i then { nth f.nights i with test := 1 } else nth f.nights j := nth_lset' hi j
    rw [e]
    split
    · rename_i h; subst h
      show (nth f.nights (j : Int)).lo ≤ (nth f.nights (j : Int)).lo ∧ (nth f.nights (j : Int)).lo ≤ (nth f.nights (j : Int)).hi ∧ (nth f.nights (j : Int)).hi ≤ (nth f.nights (j : Int)).hi
      omega
    · omega
  · exact ⟨⟨Int.le_refl _, show f.shop.tl ≤ f.shop.th by omega, Int.le_refl _⟩, ⟨Int.le_refl _, show f.shop.al ≤ f.shop.ah by omega, Int.le_refl _⟩⟩
theorem tested_less (hf : f.chk = true) {i : Nat} (hi : i < f.nights.length) (h1 : (nth f.nights i).test ≠ 1) : LessLaw (f.tested i) f := by
  have hb := Night.bnds ((Fnd.nightsOK hf).at hi)
  refine (tested_better hf hi).less hf (tested_chk hf hi) fun j hj => ?_
  rw [tested_len] at hj
  have e : nth (f.tested i).nights j = if j = i then { nth f.nights i with test := 1 } else nth f.nights j := nth_lset' hi j
  by_cases h : j = i
  · subst h; exact .inr (by omega)
  · rw [e, if_neg h]; exact .inl rfl
theorem askTo_spec (hf : f.chk = true) : ∀ n : Nat, n ≤ f.nights.length → (∀ i : Nat, i < n → (nth f.nights i).test ≠ 1 → (f.askTo n).2 ≤ (f.tested i).knownN ∧ ((f.tested i).knownN = (f.askTo n).2 → (f.askTo n).2 = neverC ∨ (f.askTo n).1 ≤ i)) ∧
    ((f.askTo n).2 = neverC ∨ ∃ a : Nat, a < n ∧ (f.askTo n).1 = a ∧ (nth f.nights a).test ≠ 1 ∧ (f.tested a).knownN = (f.askTo n).2 ∧ (f.askTo n).2 < neverC)
  | 0, _ => ⟨fun i hi => absurd hi (by omega), .inl rfl⟩
  | n + 1, hn => by
    obtain ⟨h1, h2⟩ := askTo_spec hf n (by omega)
    have hle : (f.askTo n).2 ≤ neverC := (askTo_bnd hf n (by omega)).2.2.2
    simp only [Fnd.askTo]
    by_cases ht : (nth f.nights (n : Int)).test = 1
    · rw [if_pos ht]
      refine ⟨fun i hi hti => ?_, ?_⟩
      · by_cases e : i = n
        · subst e; exact absurd ht hti
        · exact h1 i (by omega) hti
      · rcases h2 with h2 | ⟨a, g1, g2⟩
        · exact .inl h2
        · exact .inr ⟨a, by omega, g2⟩
    · rw [if_neg ht]
      by_cases hl : (f.tested n).knownN < (f.askTo n).2
      · rw [if_pos hl]
        refine ⟨fun i hi hti => ?_, .inr ⟨n, by omega, rfl, ht, rfl, by show (f.tested n).knownN < neverC; omega⟩⟩
        show (f.tested n).knownN ≤ (f.tested i).knownN ∧ ((f.tested i).knownN = (f.tested n).knownN → (f.tested n).knownN = neverC ∨ (n : Int) ≤ i)
        by_cases e : i = n
        · subst e; exact ⟨Int.le_refl _, fun _ => .inr (Int.le_refl _)⟩
        · have := (h1 i (by omega) hti).1
          exact ⟨by omega, fun h => by omega⟩
      · rw [if_neg hl]
        refine ⟨fun i hi hti => ?_, ?_⟩
        · by_cases e : i = n
          · subst e
            refine ⟨by omega, fun _ => ?_⟩
            rcases h2 with h2 | ⟨a, g1, g2, _⟩
            · exact .inl h2
            · exact .inr (by rw [g2]; omega)
          · exact h1 i (by omega) hti
        · rcases h2 with h2 | ⟨a, g1, g2⟩
          · exact .inl h2
          · exact .inr ⟨a, by omega, g2⟩
theorem testsLaw (hf : f.chk = true) (night : Int) : TestsLaw f night := by
  have hc := costsLaw hf
  have hn : neverC = 1073741824 := rfl
  have hkc := knownC_eq hf
  have hle := known_le_cheap hf
  have hcb : 0 ≤ f.cheapC ∧ f.cheapC ≤ 1000000 := by
    unfold Fnd.cheapC
    rcases leastC_eq hf costG_b with ⟨_, _, h1⟩ | ⟨_, _, h1, h2, h3, _⟩ <;> omega
  have hE : (f.leastE costG = 3 ∧ f.cheapC = 1000000) ∨ (f.leastE costG = 0 ∧ f.cheapC < 1000000 ∧ f.cheapC = f.leastV costG) := by
    unfold Fnd.cheapC
    rcases leastC_eq hf costG_b with ⟨_, h0, h1⟩ | ⟨_, h0, h1, h2, h3, _⟩
    · exact .inl ⟨h0, h1⟩
    · exact .inr ⟨h0, by omega, h1⟩
  have hask : f.wAskE = if (f.askTo f.nights.length).2 = neverC then 3 else 0 := by
    rw [(knownLaw f).ae, Fnd.askE, hf]; rfl
  obtain ⟨ha1, ha2⟩ := askTo_spec hf f.nights.length (Nat.le_refl _)
  have hav : f.wAskE = 0 → f.wAskV = (f.askTo f.nights.length).1 := fun h => by
    rw [(knownLaw f).a, Fnd.askV, ← (knownLaw f).ae, if_pos h]
  have hq : f.wAskE = 0 → ∃ a : Nat, a < f.nights.length ∧ f.wAskV = a ∧ (nth f.nights a).test ≠ 1 ∧ (f.tested a).knownN = (f.askTo f.nights.length).2 ∧ (f.askTo f.nights.length).2 < neverC := fun h => by
    rcases ha2 with h2 | ⟨a, g1, g2, g3⟩
    · rw [hask, if_pos h2] at h; omega
    · exact ⟨a, g1, by rw [hav h, g2], g3⟩
  refine ⟨hc, hle, hcb, by rcases hkc with ⟨_, _, g⟩ | ⟨_, _, _, _, g⟩ <;> omega, fun h => known_eq_cheap hf (testsTo_zero hf _ (Nat.le_refl _) h), ?_, ?_, fun h => ?_, ?_, fun h => ?_, fun h => ?_, fun h1 h2 h3 => ?_⟩
  · unfold Fnd.wWorthE
    rcases hE with ⟨h1, _⟩ | ⟨h1, _⟩
    · rw [h1]; exact .inr rfl
    · rw [h1]
      rcases hkc with ⟨_, g, _⟩ | ⟨_, _, g, _⟩
      · rw [g]; exact .inr rfl
      · rw [g]; exact .inl rfl
  · unfold Fnd.wWorthE
    rcases hE with ⟨h1, h2⟩ | ⟨h1, h2, _⟩
    · rw [h1]; simp; omega
    · rw [h1]
      rcases hkc with ⟨_, g, g2⟩ | ⟨_, _, g, _⟩
      · omega
      · rw [g]; simp [h2]
  · unfold Fnd.wWorthV
    rw [if_pos h]
    unfold Fnd.wWorthE at h
    rcases hE with ⟨h1, h2⟩ | ⟨h1, h2, h3⟩
    · rw [h1] at h; simp at h
    · rcases hkc with ⟨_, g, g2⟩ | ⟨_, _, g, g2, g3⟩
      · omega
      · rw [h3, g3, g2]
  · rw [hask]; split <;> simp
  · obtain ⟨a, g1, g2, g3, _⟩ := hq h
    rw [g2]; exact ⟨by omega, by omega, g3⟩
  · obtain ⟨a, g1, g2, g3, g4, g5⟩ := hq h
    rw [g2]
    have hl := tested_less hf g1 g3
    refine ⟨hl.cf, ?_, hl.c⟩
    rcases knownC_eq (tested_chk hf g1) with ⟨k1, _, _⟩ | ⟨_, k2, _, _, k⟩ <;> omega
  · obtain ⟨i, rfl⟩ : ∃ i : Nat, night = i := ⟨night.toNat, by omega⟩
    have hi : i < f.nights.length := by omega
    have hl := tested_less hf hi h3
    have hs := ha1 i hi h3
    have hk := knownC_eq (tested_chk hf hi)
    refine ⟨hl.cf, hl.c, ?_⟩
    unfold Fnd.bestC
    by_cases h : f.wAskE = 0
    · rw [if_pos h]
      obtain ⟨a, g1, g2, g3, g4, g5⟩ := hq h
      have hka := knownC_eq (tested_chk hf g1)
      rw [g2]
      rw [← hav h, g2] at hs
      rcases hka with ⟨k1, _, _⟩ | ⟨_, k2, _, _, k⟩
      · omega
      · rcases hk with ⟨c1, _, c2⟩ | ⟨_, c2, _, _, c⟩
        · omega
        · refine ⟨by omega, ?_⟩
          by_cases e : (f.tested i).knownN = (f.askTo f.nights.length).2
          · rcases hs.2 e with h4 | h4
            · omega
            · exact .inr (.inr h4)
          · exact .inl (by omega)
    · rw [if_neg h]
      have h4 : (f.askTo f.nights.length).2 = neverC := by
        rw [hask] at h
        by_cases e : (f.askTo f.nights.length).2 = neverC
        · exact e
        · rw [if_neg e] at h; exact absurd rfl h
      rw [h4] at hs
      rcases hk with ⟨c1, _, c2⟩ | ⟨_, c2, _, _, c⟩ <;> omega
end
end Go.Flong
