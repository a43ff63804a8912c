/- The plain model of layer 13, part 6: the best plans. -/
import Derived.Test.YtglbnodjcngefaaBase5
set_option linter.unusedSimpArgs false
set_option linter.unusedVariables false
namespace Go.Flong
open Go Go.Eng
section
variable {f : Fnd} {p : Pt} {left : List Int}
theorem chL_row (hl : bnd4 left) (hp : f.shop.pigs.length ≤ 4) {r : List Int} (hr : r ∈ f.chL p left) : r.length = f.shop.pigs.length ∧ bnd r 5 ∧ bnd4 (takeL left r) := by
  have hb : r ∈ f.chBox left := (List.mem_filter.1 hr).1
  have h1 := boxS_len _ hb
  rw [List.length_take, hl.1, Nat.min_eq_left hp] at h1
  have h2 : ∀ j : Nat, j < f.shop.pigs.length → 0 ≤ nth r j ∧ nth r j ≤ nth left j := fun j hj => by
    have := boxS_bnd hb j (by rw [List.length_take, hl.1]; omega)
    rwa [take_nth hj (by rw [hl.1]; exact hp)] at this
  refine ⟨h1, fun j hj => ?_, ?_⟩
  · have := h2 j (by omega)
    have := hl.2 j (by omega)
    omega
  · refine takeTo_bnd hl _ (by omega) (allI_iff.2 fun j hj => ?_)
    have := h2 j (by omega)
    simp only [rowFits, within, takeTo_other _ _ hl.1 j j (Nat.le_refl _) (by omega), Bool.and_eq_true, decide_eq_true_eq]
    exact this
theorem chL_at (hl : bnd4 left) (hp : f.shop.pigs.length ≤ 4) {i : Nat} (hi : i < (f.chL p left).length) : (nth (f.chL p left) (i : Int)).length = f.shop.pigs.length ∧ bnd (nth (f.chL p left) (i : Int)) 5 ∧ bnd4 (takeL left (nth (f.chL p left) (i : Int))) :=
  chL_row hl hp (by rw [nthN hi]; exact List.getElem_mem hi)
end
theorem pence_bnd {f : Fnd} (hp : PigsOK f.shop.pigs) {r : List Int} (hr : r.length = f.shop.pigs.length) (hb : bnd r 5) : 0 ≤ sumOf Pig.pence f.shop.pigs r ∧ sumOf Pig.pence f.shop.pigs r ≤ 2000 := by
  have key : ∀ i : Nat, i ≤ r.length → 0 ≤ sumTo Pig.pence f.shop.pigs r i ∧ sumTo Pig.pence f.shop.pigs r i ≤ 495 * i := by
    intro i
    induction i with
    | zero => intro _; simp [sumTo]
    | succ i ih =>
      intro hi
      have h1 := ih (by omega)
      have h2 := Pig.bnds (hp.at (show i < f.shop.pigs.length by omega))
      have h3 := hb i (by omega)
      have h4 := mulb (A := 5) (B := 99) h3.1 h3.2 h2.2.2.2.2.2.2.1 h2.2.2.2.2.2.2.2.1
      simp only [sumTo]; omega
  have := key r.length (Nat.le_refl _)
  have h5 := hp.2
  simp only [sumOf]; omega
abbrev BestR := Int × List (List Int) × Bool
/-- The best of the first rows. -/
def bestRow (g : Int → List Int → Int) (pigs : List Pig) (nx : List Int → BestR) (b : BestR) (r : List Int) : BestR :=
  let c := nx r
  let v := c.1 + g (sumOf Pig.pence pigs r) r
  if c.2.2 && (!b.2.2 || decide (v < b.1)) then (v, r :: c.2.1, true) else b
def bestRows (g : Int → List Int → Int) (pigs : List Pig) (nx : List Int → BestR) (rows : List (List Int)) : Nat → BestR
  | 0 => (0, [], false)
  | i + 1 => bestRow g pigs nx (bestRows g pigs nx rows i) (nth rows i)
/-- The least of what safe plans have from a night on, and the first plan that has it. -/
def Fnd.bestW (f : Fnd) (g : Int → List Int → Int) : Nat → Int → Pt → List Int → BestR
  | 0, _, _, _ => (0, [], true)
  | n + 1, night, p, left => bestRows g f.shop.pigs (fun r => Fnd.bestW f g n (night + 1) ((p.addL f.shop.pigs r).lose (nth f.nights night)) (takeL left r)) (f.chL p left) (f.chL p left).length
def OfB (g : Int → List Int → Int) : Prop := ∀ (a : Int) (l : List Int), 0 ≤ a → a ≤ 2000 → 0 ≤ g a l ∧ g a l ≤ 2000
theorem bestRows_bnd {g : Int → List Int → Int} (hg : OfB g) {f : Fnd} (hp : PigsOK f.shop.pigs) {nx : List Int → BestR} {rows : List (List Int)} {B : Int} (hB : 0 ≤ B) (hr : ∀ i : Nat, i < rows.length → (nth rows i).length = f.shop.pigs.length ∧ bnd (nth rows i) 5) (hn : ∀ i : Nat, i < rows.length → 0 ≤ (nx (nth rows i)).1 ∧ (nx (nth rows i)).1 ≤ B) :
    ∀ i, i ≤ rows.length → 0 ≤ (bestRows g f.shop.pigs nx rows i).1 ∧ (bestRows g f.shop.pigs nx rows i).1 ≤ B + 2000
  | 0, _ => by simp only [bestRows]; omega
  | i + 1, hi => by
    have h1 := bestRows_bnd hg hp hB hr hn i (by omega)
    have h2 := hn i (by omega)
    have h3 := hr i (by omega)
    have h4 := pence_bnd hp h3.1 h3.2
    have h5 := hg _ (nth rows i) h4.1 h4.2
    simp only [bestRows, bestRow]
    split
    · simp only []; omega
    · exact h1
theorem bestW_bnd {g : Int → List Int → Int} (hg : OfB g) {f : Fnd} (hp : PigsOK f.shop.pigs) : ∀ (n : Nat) (night : Int) (p : Pt) (left : List Int), bnd4 left → 0 ≤ (f.bestW g n night p left).1 ∧ (f.bestW g n night p left).1 ≤ 2000 * n
  | 0, _, _, _, _ => by simp only [Fnd.bestW]; omega
  | n + 1, night, p, left, hl => by
    have := bestRows_bnd hg hp (nx := fun r => f.bestW g n (night + 1) ((p.addL f.shop.pigs r).lose (nth f.nights night)) (takeL left r)) (rows := f.chL p left) (B := 2000 * n) (by omega)
      (fun i hi => by have := chL_at (p := p) hl hp.2 hi; exact ⟨this.1, this.2.1⟩)
      (fun i hi => bestW_bnd hg hp n _ _ _ (chL_at (p := p) hl hp.2 hi).2.2) _ (Nat.le_refl _)
    simp only [Fnd.bestW]; omega
theorem bestRows_len {g : Int → List Int → Int} {pigs : List Pig} {nx : List Int → BestR} {rows : List (List Int)} {n : Nat} (hn : ∀ r, (nx r).2.1.length ≤ n) : ∀ i, (bestRows g pigs nx rows i).2.1.length ≤ n + 1
  | 0 => by simp [bestRows]
  | i + 1 => by
    have h1 := bestRows_len (g := g) (pigs := pigs) (rows := rows) hn i
    have h2 := hn (nth rows i)
    simp only [bestRows, bestRow]
    split
    · simp; omega
    · exact h1
theorem bestW_len {g : Int → List Int → Int} {f : Fnd} : ∀ (n : Nat) (night : Int) (p : Pt) (left : List Int), (f.bestW g n night p left).2.1.length ≤ n
  | 0, _, _, _ => by simp [Fnd.bestW]
  | n + 1, night, p, left => by
    simp only [Fnd.bestW]
    exact bestRows_len (fun r => bestW_len n _ _ _) _
/-- The number of the first element with a property. -/
def findTo (q : Int → Bool) (l : List Int) : Nat → Int
  | 0 => -1
  | i + 1 => if findTo q l i = -1 then (if q (nth l i) then (i : Int) else -1) else findTo q l i
def findI (q : Int → Bool) (l : List Int) : Int := findTo q l l.length
theorem findTo_none {q : Int → Bool} {l : List Int} : ∀ {i : Nat}, allI (fun j => !q (nth l j)) i = true → findTo q l i = -1
  | 0, _ => rfl
  | i + 1, h => by
    simp only [allI, Bool.and_eq_true, Bool.not_eq_true'] at h
    simp only [findTo]
    rw [if_pos (findTo_none h.1), h.2]; rfl
theorem findTo_some {q : Int → Bool} {l : List Int} {i : Nat} (h : allI (fun j => !q (nth l j)) i = true) (hq : q (nth l i) = true) : ∀ {n : Nat}, i < n → findTo q l n = i
  | 0, hn => absurd hn (by omega)
  | n + 1, hn => by
    by_cases h1 : i < n
    · have := findTo_some h hq h1
      simp only [findTo, this]
      rw [if_neg (by omega)]
    · have : n = i := by omega
      subst this
      simp only [findTo]
      rw [if_pos (findTo_none h), if_pos hq]
/-- A list that is not long. -/
abbrev BL := { l : List Int // l.length ≤ 40 }
instance : Inhabited BL := ⟨⟨[], by simp⟩⟩
def onceG (_ : Int) (l : List Int) : Int := if 0 ≤ findI (fun n => decide (0 < n)) l then 1 else 0
def costG (a : Int) (_ : List Int) : Int := a
theorem onceG_b : OfB onceG := fun a l h1 h2 => by unfold onceG; split <;> omega
theorem costG_b : OfB costG := fun a l h1 h2 => ⟨h1, h2⟩
/-- What the program answers. -/
def Fnd.bestF (f : Fnd) (g : Int → List Int → Int) : BestR := f.bestW g f.nights.length 0 f.pt0 (left0 f.shop.pigs)
def Fnd.leastE (f : Fnd) (g : Int → List Int → Int) : Int := if f.chk then (if (f.bestF g).2.2 then 0 else 3) else 130
def Fnd.leastV (f : Fnd) (g : Int → List Int → Int) : Int := if f.leastE g = 0 then (f.bestF g).1 else 0
def Fnd.wPlanV (f : Fnd) : List (List Int) := if f.leastE costG = 0 then (f.bestF costG).2.1 else []
theorem left0_b {f : Fnd} (hp : PigsOK f.shop.pigs) : bnd4 (left0 f.shop.pigs) := leftTo_bnd hp _ (Nat.le_refl _)
end Go.Flong
