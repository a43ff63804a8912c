/- The plain model of layer 13, part 7: what is known. -/
import Derived.Test.YtglbnodjcngefaaBase6
set_option linter.unusedSimpArgs false
set_option linter.unusedVariables false
namespace Go.Flong
open Go Go.Eng
abbrev Pt.sp (p : Pt) : Sp := ⟨p.tl, p.th, p.al, p.ah, p.dl, p.dh⟩
abbrev Pt.one (p : Pt) (t a d : Int) : Pt := ⟨p.pounds - d, t - d, t - d, a, a, 0, 0⟩
/-- Ahead of a night, out of what it costs behind its analysis. -/
def Fnd.aheadOf (f : Fnd) (ch : Pt → Int) (night : Int) (p : Pt) : Int := if night = f.nights.length ∨ (nth f.nights night).test = 0 then ch p else worst3 (fun t a d => ch (p.one t a d)) ⟨p.tl, p.th, p.al, p.ah, p.dl, p.dh⟩
def chRows (pigs : List Pig) (nx : List Int → Int) (rows : List (List Int)) : Nat → Int
  | 0 => neverC
  | i + 1 => min (chRows pigs nx rows i) (sumOf Pig.pence pigs (nth rows i) + nx (nth rows i))
def Fnd.chW (f : Fnd) : Nat → Int → Pt → List Int → Int
  | 0, _, _, _ => 0
  | n + 1, night, p, left => min (chRows f.shop.pigs (fun r => f.aheadOf (fun q => Fnd.chW f n (night + 1) q (takeL left r)) (night + 1) ((p.addL f.shop.pigs r).lose (nth f.nights night))) (f.chL p left) (f.chL p left).length) neverC
def Fnd.ahW (f : Fnd) (n : Nat) (night : Int) (p : Pt) (left : List Int) : Int := f.aheadOf (fun q => f.chW n night q left) night p
theorem aheadOf_bnd {f : Fnd} {ch : Pt → Int} {m : Int} (hm : 0 ≤ m) (h : ∀ q, 0 ≤ ch q ∧ ch q ≤ m) (night : Int) (p : Pt) : 0 ≤ f.aheadOf ch night p ∧ f.aheadOf ch night p ≤ m := by
  unfold Fnd.aheadOf
  split
  · exact h p
  · exact worst3_bnd hm fun _ _ _ _ _ _ _ _ _ => h _
theorem chRows_bnd {f : Fnd} (hp : PigsOK f.shop.pigs) {nx : List Int → Int} {rows : List (List Int)} (hr : ∀ i : Nat, i < rows.length → (nth rows i).length = f.shop.pigs.length ∧ bnd (nth rows i) 5) (hn : ∀ i : Nat, i < rows.length → 0 ≤ nx (nth rows i)) : ∀ i, i ≤ rows.length → 0 ≤ chRows f.shop.pigs nx rows i ∧ chRows f.shop.pigs nx rows i ≤ neverC
  | 0, _ => by simp [chRows, neverC]
  | i + 1, hi => by
    have h1 := chRows_bnd hp hr hn i (by omega)
    have h2 := hn i (by omega)
    have h3 := hr i (by omega)
    have h4 := pence_bnd hp h3.1 h3.2
    simp only [chRows]; omega
theorem chW_bnd {f : Fnd} (hp : PigsOK f.shop.pigs) : ∀ (n : Nat) (night : Int) (p : Pt) (left : List Int), bnd4 left → 0 ≤ f.chW n night p left ∧ f.chW n night p left ≤ neverC
  | 0, _, _, _, _ => by simp [Fnd.chW, neverC]
  | n + 1, night, p, left, hl => by
    have h := chRows_bnd hp (nx := fun r => f.aheadOf (fun q => f.chW n (night + 1) q (takeL left r)) (night + 1) ((p.addL f.shop.pigs r).lose (nth f.nights night))) (rows := f.chL p left)
      (fun i hi => by have := chL_at (p := p) hl hp.2 hi; exact ⟨this.1, this.2.1⟩)
      (fun i hi => (aheadOf_bnd (m := neverC) (by simp [neverC]) (fun q => chW_bnd hp n _ _ _ (chL_at (p := p) hl hp.2 hi).2.2) _ _).1) _ (Nat.le_refl _)
    simp only [Fnd.chW]; omega
theorem ahW_bnd {f : Fnd} (hp : PigsOK f.shop.pigs) (n : Nat) (night : Int) (p : Pt) {left : List Int} (hl : bnd4 left) : 0 ≤ f.ahW n night p left ∧ f.ahW n night p left ≤ neverC :=
  aheadOf_bnd (by simp [neverC]) (fun q => chW_bnd hp n night q left hl) night p
/-- What is asked of a pot ahead of an analysis, and behind it. -/
def AhB (p : Pt) (night : Int) : Prop := PtB p (1000 + 400100 * night) ∧ p.dl ≤ 9 * night ∧ p.dh ≤ 9 * night
def ChB (p : Pt) (night : Int) : Prop := PtB p (1040 + 400100 * night) ∧ p.dl ≤ 9 * night ∧ p.dh ≤ 9 * night
theorem AhB.ch {p : Pt} {night : Int} (h : AhB p night) : ChB p night := ⟨h.1.mono (by omega), h.2⟩
theorem AhB.one {p : Pt} {night : Int} (h : AhB p night) (h0 : 0 ≤ night) (h4 : night ≤ 4) {t a d : Int} (h1 : p.tl ≤ t) (h2 : t ≤ p.th) (h3 : p.al ≤ a) (h5 : a ≤ p.ah) (h6 : p.dl ≤ d) (h7 : d ≤ p.dh) : ChB (p.one t a d) night := by
  obtain ⟨h8, h9, h10⟩ := h
  unfold PtB at h8
  unfold ChB PtB
  simp only []; omega
theorem ChB.next {f : Fnd} {p : Pt} {night : Int} (h : ChB p night) (h0 : 0 ≤ night) (hp : PigsOK f.shop.pigs) {r : List Int} (hr : r.length = f.shop.pigs.length) (hb : bnd r 5) {n : Night} (hn : n.chk = true) : PtB (p.addL f.shop.pigs r) (1040 + 400100 * night + 400000) ∧ AhB ((p.addL f.shop.pigs r).lose n) (night + 1) := by
  have h1 : PtB (p.addL f.shop.pigs r) (1040 + 400100 * night + 400000) := addTo_bnd h.1 hp (by rw [hr]; exact Nat.le_refl _) (bnd_mono hb (by omega)) (Nat.le_refl _)
  have h2 := lose_bnd h1 hn
  have hnb := Night.bnds hn
  refine ⟨h1, h2.mono (by omega), ?_, ?_⟩
  · have := h.2.1
    show p.dl + n.lo ≤ _; omega
  · have := h.2.2
    show p.dh + n.hi ≤ _; omega
/-- A night, the pot ahead of it, and the pigs that are left, as a map's key. -/
def stKey (night : Int) (p : Pt) (left : List Int) : List Int := [night, p.pounds, p.tl, p.th, p.al, p.ah, p.dl, p.dh, nth left 0, nth left 1, nth left 2, nth left 3]
def MemoK (f : Fnd) (k : List Int) (v : Int) : Prop := ∃ (n : Nat) (night : Int) (p : Pt) (left : List Int), left.length = 4 ∧ night + n = f.nights.length ∧ k = stKey night p left ∧ v = f.chW n night p left
theorem four_ext {a b : List Int} (ha : a.length = 4) (hb : b.length = 4) (h0 : nth a 0 = nth b 0) (h1 : nth a 1 = nth b 1) (h2 : nth a 2 = nth b 2) (h3 : nth a 3 = nth b 3) : a = b := by
  match a, ha with
  | [x0, x1, x2, x3], _ =>
    match b, hb with
    | [y0, y1, y2, y3], _ =>
      simp only [nth] at h0 h1 h2 h3
      simp at h0 h1 h2 h3
      rw [h0, h1, h2, h3]
theorem MemoK.val {f : Fnd} {n : Nat} {night : Int} {p : Pt} {left : List Int} {v : Int} (hl : left.length = 4) (hn : night + n = f.nights.length) (h : MemoK f (stKey night p left) v) : v = f.chW n night p left := by
  obtain ⟨n', night', p', left', hl', hn', hk, rfl⟩ := h
  simp only [stKey, List.cons.injEq, and_true] at hk
  obtain ⟨rfl, h1, h2, h3, h4, h5, h6, h7, h8, h9, h10, h11⟩ := hk
  have hp : p' = p := by
    cases p; cases p'; simp only [Pt.mk.injEq]; exact ⟨h1.symm, h2.symm, h3.symm, h4.symm, h5.symm, h6.symm, h7.symm⟩
  have hL : left' = left := four_ext hl' hl h8.symm h9.symm h10.symm h11.symm
  have hN : n' = n := by omega
  rw [hp, hL, hN]
theorem memo_get {f : Fnd} {n : Nat} {night : Int} {p : Pt} {left : List Int} {l : MapL} (hl : left.length = 4) (hn : night + n = f.nights.length) (hm : ∀ p ∈ l, MemoK f p.1 p.2) (h : (mget l (stKey night p left)).isSome = true) : (mget l (stKey night p left)).getD 0 = f.chW n night p left := by
  cases hg : mget l (stKey night p left) with
  | none => rw [hg] at h; cases h
  | some v => exact MemoK.val hl hn (hm _ (mget_mem hg))
def Fnd.wKnownN (f : Fnd) : Int := f.ahW f.nights.length 0 f.pt0 (left0 f.shop.pigs)
def Fnd.wKnownE (f : Fnd) : Int := if f.chk then (if f.wKnownN ≥ neverC then 3 else 0) else 130
def Fnd.wKnownV (f : Fnd) : Int := if f.wKnownE = 0 then f.wKnownN else 0
def Fnd.wWorthE (f : Fnd) : Int := if f.leastE costG ≠ 0 then f.leastE costG else f.wKnownE
def Fnd.wWorthV (f : Fnd) : Int := if f.wWorthE = 0 then f.leastV costG - f.wKnownV else 0
/-- The best night for an analysis, of the first i ones, and what it costs then. -/
def Fnd.wAskTo (f : Fnd) : Nat → Int × Int
  | 0 => (-1, neverC)
  | i + 1 => if (nth f.nights i).test = 1 then Fnd.wAskTo f i else if (f.tested i).wKnownE = 0 ∧ (f.tested i).wKnownV < (Fnd.wAskTo f i).2 then ((i : Int), (f.tested i).wKnownV) else Fnd.wAskTo f i
def Fnd.wAskE (f : Fnd) : Int := if f.chk then (if (f.wAskTo f.nights.length).1 < 0 then 3 else 0) else 130
def Fnd.wAskV (f : Fnd) : Int := if f.wAskE = 0 then (f.wAskTo f.nights.length).1 else 0
end Go.Flong
namespace Go.Flong
open Go Go.Eng
theorem leastV_bnd (f : Fnd) {g : Int → List Int → Int} (hg : OfB g) : 0 ≤ f.leastV g ∧ f.leastV g ≤ 8000 := by
  unfold Fnd.leastV
  split
  · rename_i h
    have hf : f.chk = true := by
      unfold Fnd.leastE at h
      cases hc : f.chk with
      | true => rfl
      | false => rw [hc] at h; exact absurd h (by simp)
    have h1 := bestW_bnd hg (Shop.pigsOK (Fnd.shopOK hf)) f.nights.length 0 f.pt0 (left0 f.shop.pigs) (left0_b (Shop.pigsOK (Fnd.shopOK hf)))
    have h2 := (Fnd.nightsOK hf).2
    unfold Fnd.bestF
    omega
  · omega
theorem wKnownV_bnd (f : Fnd) : 0 ≤ f.wKnownV ∧ f.wKnownV ≤ neverC := by
  unfold Fnd.wKnownV
  split
  · rename_i h
    have hf : f.chk = true := by
      unfold Fnd.wKnownE at h
      cases hc : f.chk with
      | true => rfl
      | false => rw [hc] at h; exact absurd h (by simp)
    exact ahW_bnd (Shop.pigsOK (Fnd.shopOK hf)) _ _ _ (left0_b (Shop.pigsOK (Fnd.shopOK hf)))
  · simp [neverC]
end Go.Flong
