/- The plain model of layer 13, part 3: what the program computes. -/
import Derived.Test.YtglbnodjcngefaaBase2
set_option linter.unusedSimpArgs false
set_option linter.unusedVariables false
namespace Go.Flong
open Go Go.Eng
structure Pt where
  pounds : Int
  tl : Int
  th : Int
  al : Int
  ah : Int
  dl : Int
  dh : Int
abbrev EPt : EP Pt := .str [.i Pt.pounds, .i Pt.tl, .i Pt.th, .i Pt.al, .i Pt.ah, .i Pt.dl, .i Pt.dh]
abbrev EWk (r : Option Nat) : EP Fnd := .str [.i (·.shop.pounds), .i (·.shop.tl), .i (·.shop.th), .i (·.shop.al), .i (·.shop.ah), .i (·.shop.room), .i (·.shop.tpl), .i (·.shop.tph), .i (·.shop.apl), .i (·.shop.aph), .s EPig (·.shop.pigs), .s ENight (·.nights), .v (fun _ => .map r) (fun _ => rfl)]
def PtB (p : Pt) (m : Int) : Prop := -m ≤ p.pounds ∧ p.pounds ≤ m ∧ -m ≤ p.tl ∧ p.tl ≤ m ∧ -m ≤ p.th ∧ p.th ≤ m ∧ -m ≤ p.al ∧ p.al ≤ m ∧ -m ≤ p.ah ∧ p.ah ≤ m ∧ 0 ≤ p.dl ∧ p.dl ≤ m ∧ 0 ≤ p.dh ∧ p.dh ≤ m
def Pt.addTo (p : Pt) (pigs : List Pig) (l : List Int) (i : Nat) : Pt := ⟨p.pounds + sumTo Pig.pounds pigs l i, p.tl + sumTo Pig.tin pigs l i, p.th + sumTo Pig.tin pigs l i, p.al + sumTo Pig.ant pigs l i, p.ah + sumTo Pig.ant pigs l i, p.dl, p.dh⟩
def Pt.addL (p : Pt) (pigs : List Pig) (l : List Int) : Pt := p.addTo pigs l l.length
def Pt.lose (p : Pt) (n : Night) : Pt := { p with dl := p.dl + n.lo, dh := p.dh + n.hi }
theorem addTo_bnd {p : Pt} {m : Int} (h : PtB p m) {pigs : List Pig} {l : List Int} (hp : PigsOK pigs) (hl : l.length ≤ pigs.length) (hb : bnd l 1000) {i : Nat} (hi : i ≤ l.length) : PtB (p.addTo pigs l i) (m + 400000) := by
  have h1 := sumTo_bnd (f := Pig.pounds) (pigs := pigs) hb (fun j hj => by have := Pig.bnds (hp.at (show j < pigs.length by omega)); omega) i hi
  have h2 := sumTo_bnd (f := Pig.tin) (pigs := pigs) hb (fun j hj => by have := Pig.bnds (hp.at (show j < pigs.length by omega)); omega) i hi
  have h3 := sumTo_bnd (f := Pig.ant) (pigs := pigs) hb (fun j hj => by have := Pig.bnds (hp.at (show j < pigs.length by omega)); omega) i hi
  have h4 := hp.2
  unfold PtB at *
  simp only [Pt.addTo]; omega
def Fnd.pt0 (f : Fnd) : Pt := ⟨f.shop.pounds, f.shop.tl, f.shop.th, f.shop.al, f.shop.ah, 0, 0⟩
/-- The pot ahead of a night, before and behind what the plan adds. -/
def Fnd.pre (f : Fnd) (plan : List (List Int)) : Nat → Pt
  | 0 => f.pt0
  | i + 1 => ((Fnd.pre f plan i).addL f.shop.pigs (nth plan i)).lose (nth f.nights i)
def Fnd.at (f : Fnd) (plan : List (List Int)) (i : Nat) : Pt := (f.pre plan i).addL f.shop.pigs (nth plan i)
theorem pt0_bnd {f : Fnd} (hf : f.chk = true) : PtB f.pt0 1000 := by
  have := tl_bnd (Fnd.shopOK hf)
  unfold PtB Fnd.pt0; simp only []; omega
theorem PtB.mono {p : Pt} {a b : Int} (h : PtB p a) (hab : a ≤ b) : PtB p b := by unfold PtB at *; omega
theorem lose_bnd {p : Pt} {m : Int} (h : PtB p m) {n : Night} (hn : n.chk = true) : PtB (p.lose n) (m + 9) := by
  have := Night.bnds hn
  unfold PtB at *; simp only [Pt.lose]; omega
theorem pre_bnd {f : Fnd} (hf : f.chk = true) {plan : List (List Int)} (hp : PlanB f plan) : ∀ i : Nat, i ≤ plan.length → PtB (f.pre plan i) (1000 + 400009 * i)
  | 0, _ => by simpa [Fnd.pre] using pt0_bnd hf
  | i + 1, hi => by
    have h1 := pre_bnd hf hp i (by omega)
    obtain ⟨h2, h3⟩ := hp.2 i (by omega)
    have h4 := addTo_bnd h1 (Shop.pigsOK (Fnd.shopOK hf)) (by rw [h2]; exact Nat.le_refl _) (bnd_mono h3 (by omega)) (Nat.le_refl _)
    have h5 := lose_bnd h4 ((Fnd.nightsOK hf).at (show i < f.nights.length by have := hp.1; omega))
    refine PtB.mono h5 ?_
    omega
theorem at_bnd {f : Fnd} (hf : f.chk = true) {plan : List (List Int)} (hp : PlanB f plan) {i : Nat} (hi : i < plan.length) : PtB (f.at plan i) 2100000 := by
  obtain ⟨h2, h3⟩ := hp.2 i hi
  have h4 := addTo_bnd (pre_bnd hf hp i (by omega)) (Shop.pigsOK (Fnd.shopOK hf)) (by rw [h2]; exact Nat.le_refl _) (bnd_mono h3 (by omega)) (Nat.le_refl _)
  have := (Fnd.nightsOK hf).2
  have := hp.1
  exact PtB.mono h4 (by omega)
def nightItem (f : Fnd) (plan : List (List Int)) (i : Nat) : Eng.Item := ⟨[.i (i : Int), .e (.g [ai (f.at plan i).pounds, ai (f.at plan i).tl, ai (f.at plan i).th, ai (f.at plan i).al, ai (f.at plan i).ah, ai (f.at plan i).dl, ai (f.at plan i).dh])], [], []⟩
def nightItems (f : Fnd) (plan : List (List Int)) : List Eng.Item := (List.range f.nights.length).map (nightItem f plan)
theorem range_at {α : Type} {N : Nat} {g : Nat → α} {i : Nat} (h : i < N) : ((List.range N).map g)[i]? = some (g i) := by simp [h]
theorem range_at' {N : Nat} {g : Nat → Eng.Item} {i : Nat} (h : i < N) : ((List.range N).map g)[i]? = some (g i) := by simp [h]
def Fnd.sureP (f : Fnd) (p : Pt) : Bool :=
  decide ((p.pounds - p.dh) * f.shop.tpl ≤ 1000 * (p.tl - p.dh)) && decide (1000 * (p.th - p.dl) ≤ (p.pounds - p.dl) * f.shop.tph) && decide ((p.pounds - p.dl) * f.shop.apl ≤ 1000 * p.al) && decide (1000 * p.ah ≤ (p.pounds - p.dh) * f.shop.aph)
def Fnd.fitsP (f : Fnd) (p : Pt) : Bool := decide (p.pounds - p.dl ≤ f.shop.room)
theorem mulB {a b A B : Int} (h1 : -A ≤ a) (h2 : a ≤ A) (h3 : 0 ≤ b) (h4 : b ≤ B) (hA : 0 ≤ A) : -(A * B) ≤ a * b ∧ a * b ≤ A * B := by
  have h5 := Int.mul_le_mul_of_nonneg_right h2 h3
  have h6 := Int.mul_le_mul_of_nonneg_left h4 hA
  have h7 := Int.mul_le_mul_of_nonneg_right h1 h3
  rw [Int.neg_mul] at h7
  omega
/-- All pigs, kind by kind. -/
def leftTo (pigs : List Pig) : Nat → List Int
  | 0 => [0, 0, 0, 0]
  | i + 1 => lset (leftTo pigs i) i (nth pigs i).many
def left0 (pigs : List Pig) : List Int := leftTo pigs pigs.length
/-- What is left when the first j numbers of a row are taken. -/
def takeTo (left row : List Int) : Nat → List Int
  | 0 => left
  | j + 1 => lset (takeTo left row j) j (nth (takeTo left row j) j - nth row j)
def takeL (left row : List Int) : List Int := takeTo left row row.length
def leftAt (pigs : List Pig) (plan : List (List Int)) : Nat → List Int
  | 0 => left0 pigs
  | i + 1 => takeL (leftAt pigs plan i) (nth plan i)
theorem leftTo_len (pigs : List Pig) : ∀ i, (leftTo pigs i).length = 4
  | 0 => rfl
  | i + 1 => by rw [leftTo, lset_len, leftTo_len pigs i]
theorem takeTo_len (left row : List Int) : ∀ i, (takeTo left row i).length = left.length
  | 0 => rfl
  | i + 1 => by rw [takeTo, lset_len, takeTo_len left row i]
theorem leftAt_len (pigs : List Pig) (plan : List (List Int)) : ∀ i, (leftAt pigs plan i).length = 4
  | 0 => leftTo_len pigs _
  | i + 1 => by rw [leftAt, takeL, takeTo_len, leftAt_len pigs plan i]
def rowFits (left row : List Int) (j : Nat) : Bool := within (nth row j) 0 (nth (takeTo left row j) j)
def Fnd.rowW (f : Fnd) (plan : List (List Int)) (i : Nat) : Bool := decide (((nth plan i).length : Int) = f.shop.pigs.length) && allI (rowFits (leftAt f.shop.pigs plan i) (nth plan i)) (nth plan i).length
/-- What the program takes for a plan. -/
def Fnd.wPlan (f : Fnd) (plan : List (List Int)) : Bool := decide ((plan.length : Int) = f.nights.length) && allI (f.rowW plan) plan.length && allI (fun i => f.fitsP (f.at plan i)) f.nights.length
/-- Numbers of pigs that are left. -/
def bnd4 (l : List Int) : Prop := l.length = 4 ∧ ∀ j : Nat, j < 4 → 0 ≤ nth l j ∧ nth l j ≤ 5
theorem lset_bnd4 {l : List Int} (h : bnd4 l) {i : Nat} (hi : i < 4) {x : Int} (h0 : 0 ≤ x) (h1 : x ≤ 5) : bnd4 (lset l i x) := by
  refine ⟨by rw [lset_len]; exact h.1, fun j hj => ?_⟩
  rw [nth_lset (by rw [h.1]; exact hi)]
  split
  · exact ⟨h0, h1⟩
  · exact h.2 j hj
theorem leftTo_bnd {pigs : List Pig} (hp : PigsOK pigs) : ∀ i : Nat, i ≤ pigs.length → bnd4 (leftTo pigs i)
  | 0, _ => ⟨rfl, fun j hj => by
      rcases (show j = 0 ∨ j = 1 ∨ j = 2 ∨ j = 3 by omega) with rfl | rfl | rfl | rfl <;> (simp only [leftTo]; decide)⟩
  | i + 1, hi => by
    have h1 := leftTo_bnd hp i (by omega)
    have h2 := Pig.bnds (hp.at (show i < pigs.length by omega))
    have := hp.2
    exact lset_bnd4 h1 (by omega) (by omega) (by omega)
theorem takeTo_bnd {left row : List Int} (h : bnd4 left) : ∀ j : Nat, j ≤ 4 → allI (rowFits left row) j = true → bnd4 (takeTo left row j)
  | 0, _, _ => h
  | j + 1, hj, ha => by
    simp only [allI, Bool.and_eq_true] at ha
    have h1 := takeTo_bnd h j (by omega) ha.1
    have h2 := h1.2 j (by omega)
    have h3 := ha.2
    simp only [rowFits, within, Bool.and_eq_true, decide_eq_true_eq] at h3
    exact lset_bnd4 h1 (by omega) (by omega) (by omega)
theorem leftAt_bnd {f : Fnd} (hp : PigsOK f.shop.pigs) {plan : List (List Int)} : ∀ i : Nat, allI (f.rowW plan) i = true → bnd4 (leftAt f.shop.pigs plan i)
  | 0, _ => leftTo_bnd hp _ (Nat.le_refl _)
  | i + 1, ha => by
    simp only [allI, Bool.and_eq_true] at ha
    have h1 := leftAt_bnd hp i ha.1
    have h2 := ha.2
    simp only [Fnd.rowW, Bool.and_eq_true, decide_eq_true_eq] at h2
    have := hp.2
    exact takeTo_bnd h1 _ (by omega) h2.2
theorem takeTo_other (left row : List Int) (hl : left.length = 4) : ∀ (j k : Nat), j ≤ k → j ≤ 4 → nth (takeTo left row j) k = nth left k
  | 0, _, _, _ => rfl
  | j + 1, k, hk, h4 => by
    rw [takeTo, nth_lset (by rw [takeTo_len, hl]; omega), if_neg (by omega)]
    exact takeTo_other left row hl j k (by omega) (by omega)
theorem wrows_planB {f : Fnd} (hp : PigsOK f.shop.pigs) {plan : List (List Int)} (hl : plan.length = f.nights.length) (h : allI (f.rowW plan) plan.length = true) : PlanB f plan := by
  refine ⟨hl, fun i hi => ?_⟩
  have h1 := allI_iff.1 h i hi
  have h0 : allI (f.rowW plan) i = true := allI_iff.2 fun j hj => allI_iff.1 h j (by omega)
  have h2 := leftAt_bnd hp i h0
  simp only [Fnd.rowW, Bool.and_eq_true, decide_eq_true_eq] at h1
  refine ⟨by omega, fun j hj => ?_⟩
  have h3 := allI_iff.1 h1.2 j hj
  have h5 := hp.2
  simp only [rowFits, within, Bool.and_eq_true, decide_eq_true_eq] at h3
  rw [takeTo_other _ _ h2.1 j j (Nat.le_refl _) (by omega)] at h3
  have := h2.2 j (by omega)
  omega
/-- On which nights the metal is not surely within its limits. -/
def Fnd.wFailsTo (f : Fnd) (plan : List (List Int)) : Nat → List Int
  | 0 => []
  | i + 1 => if f.sureP (f.at plan i) then Fnd.wFailsTo f plan i else Fnd.wFailsTo f plan i ++ [(i : Int)]
theorem wFailsTo_len (f : Fnd) (plan : List (List Int)) : ∀ i, (f.wFailsTo plan i).length ≤ i
  | 0 => by simp [Fnd.wFailsTo]
  | i + 1 => by
    have := wFailsTo_len f plan i
    simp only [Fnd.wFailsTo]; split
    · omega
    · simp; omega
end Go.Flong
