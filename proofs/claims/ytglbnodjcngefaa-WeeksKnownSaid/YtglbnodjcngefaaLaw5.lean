/- Laws of layer 13 in plain terms, part 5: Known, Worth, Ask. -/
import Derived.Test.YtglbnodjcngefaaLaw4
set_option linter.unusedSimpArgs false
set_option linter.unusedVariables false
namespace Go.Flong
open Go Go.Eng
theorem iter_congr {σ : Type} {f g : Nat → σ → σ} {s : σ} : ∀ {n : Nat}, (∀ i x, i < n → f i x = g i x) → iter f s n = iter g s n
  | 0, _ => rfl
  | n + 1, h => by
    rw [show iter f s (n + 1) = f n (iter f s n) from rfl, show iter g s (n + 1) = g n (iter g s n) from rfl, iter_congr (fun i x hi => h i x (by omega)), h n _ (by omega)]
theorem worst3_congr {g h : Int → Int → Int → Int} {s s' : Sp} (ht : s'.th - s'.tl = s.th - s.tl) (ha : s'.ah - s'.al = s.ah - s.al) (hd : s'.dh - s'.dl = s.dh - s.dl)
    (H : ∀ i j k : Nat, (i : Int) ≤ s.th - s.tl → (j : Int) ≤ s.ah - s.al → (k : Int) ≤ s.dh - s.dl → g (s'.tl + i) (s'.al + j) (s'.dl + k) = h (s.tl + i) (s.al + j) (s.dl + k)) : worst3 g s' = worst3 h s := by
  unfold worst3
  rw [ht, ha, hd]
  refine iter_congr fun i x hi => iter_congr fun j y hj => iter_congr fun k z hk => ?_
  rw [H i j k (by omega) (by omega) (by omega)]
/-- Behind the analysis, out of the lists that can be added. -/
theorem beh_fold {f : Fnd} {nx : Sp → List Int → Int} {night : Int} {s : Sp} {before : List Int} : f.beh nx night s before =
    min ((f.rowsS s before).foldl (fun w r => min w (sumOf Pig.pence f.shop.pigs r + nx { s with dl := s.dl + (nth f.nights night).lo, dh := s.dh + (nth f.nights night).hi } (plus before r))) neverC) neverC := by
  unfold Fnd.beh Fnd.rowsS
  rw [List.foldl_filter]
  congr 1
  exact toFold (F := f.behTo nx night s before) (fun i _ => rfl)
theorem Rep.one {f : Fnd} {p : Pt} {s : Sp} {before : List Int} {c : Int} (h : Rep f p s before c) (i j k : Nat) : Rep f (p.one (p.tl + i) (p.al + j) (p.dl + k)) ⟨s.tl + i, s.tl + i, s.al + j, s.al + j, s.dl + k, s.dl + k⟩ before (c + (p.dl + k)) := by
  unfold Rep at *
  subst h
  simp only [Pt.mk.injEq]
  refine ⟨?_, ?_, ?_, ?_, ?_, ?_, ?_⟩ <;> omega
/-- Behind the analysis the program reckons as the document does, if it does so from the next night on. -/
theorem chW_beh {f : Fnd} (hf : f.chk = true) {n night : Nat} (hn : night < f.nights.length)
    (ih : ∀ (p : Pt) (s : Sp) (before left : List Int) (c : Int), left.length = 4 → BefOK f before left → Rep f p s before c → SpLe s → f.ahW n ((night : Int) + 1) p left = f.now n ((night : Int) + 1) s before)
    {p : Pt} {s : Sp} {before left : List Int} {c : Int} (hl : left.length = 4) (hb : BefOK f before left) (hr : Rep f p s before c) (hs : SpLe s) : f.chW (n + 1) night p left = f.beh (f.now n ((night : Int) + 1)) night s before := by
  have hp4 := (Shop.pigsOK (Fnd.shopOK hf)).2
  rw [beh_fold]
  simp only [Fnd.chW]
  rw [chL_eq hf hl hb hr hs]
  congr 1
  rw [toFold (F := chRows f.shop.pigs (fun r => f.aheadOf (fun q => f.chW n ((night : Int) + 1) q (takeL left r)) ((night : Int) + 1) ((p.addL f.shop.pigs r).lose (nth f.nights (night : Int)))) (f.rowsS s before)) (step := fun w r => min w (sumOf Pig.pence f.shop.pigs r + f.aheadOf (fun q => f.chW n ((night : Int) + 1) q (takeL left r)) ((night : Int) + 1) ((p.addL f.shop.pigs r).lose (nth f.nights (night : Int))))) (fun i _ => rfl)]
  show List.foldl _ neverC _ = _
  refine foldl_congr' fun x hx b => ?_
  have hbx := rowsS_box hx
  have hxl := (mem_boxS.1 hbx).1
  rw [remL_len] at hxl
  have hnb := Night.bnds ((Fnd.nightsOK hf).at hn)
  have := ih ((p.addL f.shop.pigs x).lose (nth f.nights (night : Int))) _ (plus before x) (takeL left x) c (by rw [takeL_len, hl]) (hb.next hl hp4 hbx) (Rep.next (n := nth f.nights (night : Int)) (by rw [hxl, hb.len]) hr) (by
    unfold SpLe at *; simp only []; omega)
  rw [← this]; rfl
theorem ahW_now {f : Fnd} (hf : f.chk = true) : ∀ (n night : Nat), night + n = f.nights.length → ∀ (p : Pt) (s : Sp) (before left : List Int) (c : Int), left.length = 4 → BefOK f before left → Rep f p s before c → SpLe s → f.ahW n night p left = f.now n night s before
  | 0, night, hn, p, s, before, left, c, hl, hb, hr, hs => by
    unfold Fnd.ahW Fnd.aheadOf
    rw [if_pos (.inl (by omega))]; rfl
  | n + 1, night, hn, p, s, before, left, c, hl, hb, hr, hs => by
    have ih : ∀ (p : Pt) (s : Sp) (before left : List Int) (c : Int), left.length = 4 → BefOK f before left → Rep f p s before c → SpLe s → f.ahW n ((night : Int) + 1) p left = f.now n ((night : Int) + 1) s before := fun p s before left c a1 a2 a3 a4 => by
      have := ahW_now hf n (night + 1) (by omega) p s before left c a1 a2 a3 a4
      rwa [show ((night + 1 : Nat) : Int) = (night : Int) + 1 by omega] at this
    unfold Fnd.ahW Fnd.aheadOf
    simp only [Fnd.now]
    by_cases ht : (nth f.nights (night : Int)).test = 0
    · rw [if_pos (.inr ht), if_pos ht]
      exact chW_beh hf (by omega) ih hl hb hr hs
    · rw [if_neg (by rintro (h | h); omega; exact ht h), if_neg ht]
      have hr2 := hr
      unfold Rep at hr2
      refine worst3_congr (by rw [hr2]; simp only []; omega) (by rw [hr2]; simp only []; omega) (by rw [hr2]; simp only []; omega) fun i j k _ _ _ => ?_
      exact chW_beh hf (by omega) ih hl hb (hr.one i j k) ⟨Int.le_refl _, Int.le_refl _, Int.le_refl _⟩
theorem wKnownN_eq {f : Fnd} (hf : f.chk = true) : f.wKnownN = f.knownN := by
  have hpg := Shop.pigsOK (Fnd.shopOK hf)
  have hb := tl_bnd (Fnd.shopOK hf)
  refine ahW_now hf f.nights.length 0 (by omega) f.pt0 _ f.zeros (left0 f.shop.pigs) 0 (left0_b hpg).1 (bef0 hpg.2) ?_ ?_
  · have := rep0 (f := f)
    unfold spOf at this
    exact this
  · unfold SpLe; simp only []; omega
theorem wKnownE_eq {f : Fnd} : f.wKnownE = f.knownE := by
  unfold Fnd.wKnownE Fnd.knownE
  cases hf : f.chk with
  | false => rfl
  | true => rw [wKnownN_eq hf]
theorem knownE_chk {f : Fnd} (h : f.knownE = 0) : f.chk = true := by
  unfold Fnd.knownE at h
  cases hc : f.chk with
  | true => rfl
  | false => rw [hc] at h; simp at h
theorem wKnownV_eq {f : Fnd} : f.wKnownV = f.knownV := by
  unfold Fnd.wKnownV Fnd.knownV
  rw [wKnownE_eq]
  split
  · rename_i h; exact wKnownN_eq (knownE_chk h)
  · rfl
theorem askTo_rel {f : Fnd} (hf : f.chk = true) : ∀ i : Nat, i ≤ f.nights.length → (f.wAskTo i = (-1, neverC) ∧ f.askTo i = (0, neverC)) ∨ (f.wAskTo i = f.askTo i ∧ 0 ≤ (f.askTo i).1 ∧ (f.askTo i).2 < neverC)
  | 0, _ => .inl ⟨rfl, rfl⟩
  | i + 1, hi => by
    have ih := askTo_rel hf i (by omega)
    have hc := tested_chk hf (show i < f.nights.length by omega)
    simp only [Fnd.wAskTo, Fnd.askTo]
    by_cases ht : (nth f.nights (i : Int)).test = 1
    · rw [if_pos ht, if_pos ht]; exact ih
    · rw [if_neg ht, if_neg ht]
      have e2 : (f.wAskTo i).2 = (f.askTo i).2 ∧ (f.askTo i).2 ≤ neverC := by
        rcases ih with ⟨h1, h2⟩ | ⟨h1, h2, h3⟩
        · rw [h1, h2]; exact ⟨rfl, Int.le_refl _⟩
        · rw [h1]; exact ⟨rfl, by omega⟩
      rw [wKnownE_eq, wKnownV_eq, e2.1]
      have key : ((f.tested i).knownE = 0 ∧ (f.tested i).knownV < (f.askTo i).2) ↔ (f.tested i).knownN < (f.askTo i).2 := by
        unfold Fnd.knownV Fnd.knownE
        rw [hc]
        simp only [if_true]
        by_cases hk : (f.tested i).knownN ≥ neverC
        · rw [if_pos hk]
          constructor
          · rintro ⟨h, _⟩; omega
          · intro h; omega
        · rw [if_neg hk]; simp
      by_cases hlt : (f.tested i).knownN < (f.askTo i).2
      · rw [if_pos (key.2 hlt), if_pos hlt]
        have hv : (f.tested i).knownV = (f.tested i).knownN := by
          have := (key.2 hlt).1
          unfold Fnd.knownV; rw [if_pos this]
        rw [hv]
        exact .inr ⟨rfl, by simp only []; omega, by simp only []; omega⟩
      · rw [if_neg (fun h => hlt (key.1 h)), if_neg hlt]; exact ih
/-- Known, Worth and Ask are as the document says. -/
theorem knownLaw (f : Fnd) : KnownLaw f := by
  have hwe : f.wWorthE = f.worthE := by unfold Fnd.wWorthE Fnd.worthE; rw [leastE_eq, wKnownE_eq]
  have hae : f.wAskE = f.askE := by
    unfold Fnd.wAskE Fnd.askE
    cases hf : f.chk with
    | false => rfl
    | true =>
      simp only [if_true]
      rcases askTo_rel hf f.nights.length (Nat.le_refl _) with ⟨h1, h2⟩ | ⟨h1, h2, h3⟩
      · rw [h1, h2]; simp
      · rw [h1, if_neg (by omega), if_neg (by omega)]
  refine ⟨wKnownE_eq, wKnownV_eq, hwe, ?_, hae, ?_⟩
  · unfold Fnd.wWorthV Fnd.worthV
    rw [hwe, wKnownV_eq, (cheapLaw f).c]
  · unfold Fnd.wAskV Fnd.askV
    rw [hae]
    split
    · rename_i h
      have hf : f.chk = true := by
        unfold Fnd.askE at h
        cases hc : f.chk with
        | true => rfl
        | false => rw [hc] at h; simp at h
      unfold Fnd.askE at h
      rw [hf] at h
      simp only [if_true] at h
      rcases askTo_rel hf f.nights.length (Nat.le_refl _) with ⟨h1, h2⟩ | ⟨h1, h2, h3⟩
      · rw [h2] at h; simp at h
      · rw [h1]
    · rfl
end Go.Flong
