/- The plain model of layer 13, part 4: what the program answers. -/
import Derived.Test.YtglbnodjcngefaaBase3
import Derived.Test.YtglbnodjcngefaaEngW
set_option linter.unusedSimpArgs false
set_option linter.unusedVariables false
namespace Go.Flong
open Go Go.Eng
theorem not_allI {p : Nat → Bool} {i n : Nat} (hi : i < n) (h : p i = false) : allI p n = false := Bool.eq_false_iff.2 fun h2 => by
  have := allI_iff.1 h2 i hi
  rw [h] at this; cases this
theorem wPlanB {f : Fnd} (hf : f.chk = true) {plan : List (List Int)} (h : f.wPlan plan = true) : PlanB f plan := by
  simp only [Fnd.wPlan, Bool.and_eq_true, decide_eq_true_eq] at h
  exact wrows_planB (Shop.pigsOK (Fnd.shopOK hf)) (by omega) h.1.2
/-- What opening says. -/
def Fnd.wOpen (f : Fnd) (is : Bool) : Int := if f.chk then (if is then 0 else 1) else 130
/-- What is in the pot on a night. -/
def Fnd.wPotL (f : Fnd) (plan : List (List Int)) (night : Nat) : List Int := let p := f.at plan night; [p.pounds - p.dh, p.pounds - p.dl, p.tl - p.dh, p.th - p.dl, p.al, p.ah]
def Fnd.wPotAt (f : Fnd) (plan : List (List Int)) (night : Int) (g : Nat) : List Int := if night < g then f.wPotL plan night.toNat else [0, 0, 0, 0, 0, 0]
theorem wPotAt0 {f : Fnd} {plan : List (List Int)} {night : Int} (h : 0 ≤ night) : f.wPotAt plan night 0 = [0, 0, 0, 0, 0, 0] := if_neg (by simpa using h)
theorem wPotAtS {f : Fnd} {plan : List (List Int)} {night : Int} {g : Nat} (h : night = (g : Int)) : f.wPotAt plan night (g + 1) = f.wPotL plan g := by
  subst h
  simp only [Fnd.wPotAt]
  rw [if_pos (by omega)]; simp
theorem wPotAtN {f : Fnd} {plan : List (List Int)} {night : Int} {g : Nat} (h : night ≠ (g : Int)) : f.wPotAt plan night (g + 1) = f.wPotAt plan night g := by
  simp only [Fnd.wPotAt]
  by_cases h1 : night < (g : Int)
  · rw [if_pos h1, if_pos (by omega)]
  · rw [if_neg h1, if_neg (by omega)]
theorem wPotAtE {f : Fnd} {plan : List (List Int)} {night : Int} {N : Nat} (h : night < (N : Int)) : f.wPotAt plan night N = f.wPotL plan night.toNat := if_pos h
def Fnd.isPotW (f : Fnd) (plan : List (List Int)) (night : Int) : Bool := f.wPlan plan && within night 0 ((f.nights.length : Int) - 1)
def Fnd.wPotE (f : Fnd) (plan : List (List Int)) (night : Int) : Int := f.wOpen (f.isPotW plan night)
def Fnd.wPotV (f : Fnd) (plan : List (List Int)) (night : Int) : List Int := if f.wPotE plan night = 0 then f.wPotL plan night.toNat else [0, 0, 0, 0, 0, 0]
def Fnd.wFails (f : Fnd) (plan : List (List Int)) : List Int := f.wFailsTo plan f.nights.length
def Fnd.wFailsV (f : Fnd) (plan : List (List Int)) : List Int := if f.wOpen (f.wPlan plan) = 0 then f.wFails plan else []
/-- A span cut from below and from above. -/
def cutLK (hi n low : Int) : Nat → Int → Int
  | 0, x => x
  | k + 1, x => if x ≤ hi ∧ 1000 * (x + n) < low then cutLK hi n low k (x + 1) else x
def cutL (lo hi n low : Int) : Int := cutLK hi n low (hi - lo + 1).toNat lo
def cutHK (lo n high : Int) : Nat → Int → Int
  | 0, x => x
  | k + 1, x => if lo ≤ x ∧ high < 1000 * (x + n) then cutHK lo n high k (x - 1) else x
def cutH (lo hi n high : Int) : Int := cutHK lo n high (hi - lo + 1).toNat hi
theorem cutLK_stop {hi n low x : Int} (h : ¬ (x ≤ hi ∧ 1000 * (x + n) < low)) : ∀ k, cutLK hi n low k x = x
  | 0 => rfl
  | k + 1 => by rw [cutLK, if_neg h]
theorem cutHK_stop {lo n high x : Int} (h : ¬ (lo ≤ x ∧ high < 1000 * (x + n))) : ∀ k, cutHK lo n high k x = x
  | 0 => rfl
  | k + 1 => by rw [cutHK, if_neg h]
theorem cutLK_bnd {hi n low : Int} : ∀ (k : Nat) (x : Int), x ≤ cutLK hi n low k x ∧ (cutLK hi n low k x ≤ hi + 1 ∨ cutLK hi n low k x = x)
  | 0, x => ⟨Int.le_refl _, .inr rfl⟩
  | k + 1, x => by
    rw [cutLK]; split
    · have := cutLK_bnd (hi := hi) (n := n) (low := low) k (x + 1); omega
    · exact ⟨Int.le_refl _, .inr rfl⟩
theorem cutHK_bnd {lo n high : Int} : ∀ (k : Nat) (x : Int), cutHK lo n high k x ≤ x ∧ (lo - 1 ≤ cutHK lo n high k x ∨ cutHK lo n high k x = x)
  | 0, x => ⟨Int.le_refl _, .inr rfl⟩
  | k + 1, x => by
    rw [cutHK]; split
    · have := cutHK_bnd (lo := lo) (n := n) (high := high) k (x - 1); omega
    · exact ⟨Int.le_refl _, .inr rfl⟩
/-- Two numbers that are not great. -/
def SB (a b m : Int) : Prop := -m ≤ a ∧ a ≤ m ∧ -m ≤ b ∧ b ≤ m
theorem cut_SB {lo hi n low high m : Int} (h : SB lo hi m) : SB (cutL lo hi n low) (cutH (cutL lo hi n low) hi n high) (m + 2) := by
  have h1 := cutLK_bnd (hi := hi) (n := n) (low := low) (hi - lo + 1).toNat lo
  have h2 := cutHK_bnd (lo := cutL lo hi n low) (n := n) (high := high) (hi - cutL lo hi n low + 1).toNat hi
  unfold SB at *
  unfold cutH
  unfold cutL at *
  omega
/-- What was added and lost ahead of the next night. -/
abbrev Fnd.gone1 (f : Fnd) (plan : List (List Int)) (night : Int) (g : Pt) : Pt := g.addL f.shop.pigs (nth plan night)
def Pt.drop (p : Pt) (n : Int) : Pt := { p with pounds := p.pounds - n, tl := p.tl + -n, th := p.th + -n }
/-- Whether there is a truth with which all is within limits from a night on. -/
def Fnd.canP (f : Fnd) (plan : List (List Int)) : Nat → Int → Int → Int → Int → Int → Pt → Bool
  | 0, _, tl, th, al, ah, _ => !(decide (th < tl) || decide (ah < al))
  | k + 1, night, tl, th, al, ah, gone =>
    !(decide (th < tl) || decide (ah < al)) &&
      !(allI (fun i => !Fnd.canP f plan k (night + 1)
          (cutL tl th (f.gone1 plan night gone).tl ((f.gone1 plan night gone).pounds * f.shop.tpl)) (cutH (cutL tl th (f.gone1 plan night gone).tl ((f.gone1 plan night gone).pounds * f.shop.tpl)) th (f.gone1 plan night gone).tl ((f.gone1 plan night gone).pounds * f.shop.tph))
          (cutL al ah (f.gone1 plan night gone).al ((f.gone1 plan night gone).pounds * f.shop.apl)) (cutH (cutL al ah (f.gone1 plan night gone).al ((f.gone1 plan night gone).pounds * f.shop.apl)) ah (f.gone1 plan night gone).al ((f.gone1 plan night gone).pounds * f.shop.aph))
          ((f.gone1 plan night gone).drop ((nth f.nights night).lo + (i : Int)))) ((nth f.nights night).hi - (nth f.nights night).lo + 1).toNat)
def Fnd.wCan (f : Fnd) (plan : List (List Int)) : Bool := f.canP plan f.nights.length 0 f.shop.tl f.shop.th f.shop.al f.shop.ah ⟨f.shop.pounds, 0, 0, 0, 0, 0, 0⟩
def Fnd.wSafeV (f : Fnd) (plan : List (List Int)) : Int := if f.wOpen (f.wPlan plan) = 0 then (if (f.wFails plan).length = 0 then 1 else if f.wCan plan then 3 else 2) else 0
/-- A row of n lists of which the first c are laid. -/
def repR (n : Nat) (z : List Int) (c : Nat) : List (List Int) := List.replicate c z ++ List.replicate (n - c) []
theorem repR_len {n c : Nat} {z : List Int} (h : c ≤ n) : (repR n z c).length = n := by simp [repR]; omega
theorem repR_step {n c : Nat} {z : List Int} (h0 : 0 < c) (h : c < n) :
    splic (repR n z c) (c : Int).toNat (((repR n z c).drop (0 : Int).toNat).take (min ((c : Int).toNat - (0 : Int).toNat) (((repR n z c).length : Int).toNat - (c : Int).toNat))) = repR n z (c + min c (n - c)) := by
  simp only [Int.toNat_natCast, repR_len (Nat.le_of_lt h), Int.toNat_zero, List.drop_zero, Nat.sub_zero, splic]
  have e1 : (repR n z c).take c = List.replicate c z := by simp [repR]
  have e2 : (repR n z c).take (min c (n - c)) = List.replicate (min c (n - c)) z := by
    rw [repR, List.take_append_of_le_length (by simp; omega), List.take_replicate]; congr 1; omega
  rw [e1, e2, List.length_replicate]
  have e3 : (repR n z c).drop (c + min c (n - c)) = List.replicate (n - (c + min c (n - c))) [] := by
    rw [repR, ← List.drop_drop]; simp; omega
  rw [e3]; simp [repR]
/-- The least of a row of numbers, with at least one. -/
def minTo1 (l : List Int) : Nat → Int
  | 0 => nth l 0
  | i + 1 => min (minTo1 l i) (nth l ((i + 1 : Nat) : Int))
def minL1 (l : List Int) : Int := minTo1 l (l.length - 1)
def Fnd.nothing (f : Fnd) : List (List Int) := List.replicate f.nights.length (List.replicate f.shop.pigs.length 0)
theorem nth_replicate {α : Type} [Inhabited α] {n : Nat} {z : α} {i : Int} (h0 : 0 ≤ i) (h1 : i < n) : nth (List.replicate n z) i = z := by
  have : i.toNat < n := by omega
  simp [nth, List.getD_eq_getElem?_getD, this]
theorem nothingB (f : Fnd) : PlanB f f.nothing := by
  refine ⟨by simp [Fnd.nothing], fun i hi => ?_⟩
  rw [Fnd.nothing, nth_replicate (by omega) (by simp [Fnd.nothing] at hi; omega)]
  refine ⟨by simp, fun j hj => ?_⟩
  rw [nth_replicate (by omega) (by simp at hj; omega)]
  omega
/-- For how many nights it is if nothing is added. -/
def Fnd.wLast (f : Fnd) : Int := minL1 (f.wFails f.nothing ++ [(f.nights.length : Int)])
def Fnd.wLastV (f : Fnd) : Int := if f.chk then f.wLast else 0
end Go.Flong
