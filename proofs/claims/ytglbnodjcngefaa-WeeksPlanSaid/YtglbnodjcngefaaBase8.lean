/- The plain model of layer 13, part 8: what the statements look at. -/
import Derived.Test.YtglbnodjcngefaaBase7
set_option linter.unusedSimpArgs false
set_option linter.unusedVariables false
namespace Go.Flong
open Go Go.Eng
def hugeS (s : Shop) : Bool := decide (40 < (s.pigs.length : Int))
def Fnd.huge (f : Fnd) : Bool := hugeS f.shop || decide (40 < (f.nights.length : Int))
def longP (l : List (List Int)) : Bool := decide (40 < (l.length : Int)) || !(allI (fun i => !decide (40 < ((nth l i).length : Int))) l.length)
/-- How many ways there are: by the nights, then by the kinds of pigs. -/
def Fnd.farA (f : Fnd) : Nat → Int
  | 0 => (f.shop.th - f.shop.tl + 1) * (f.shop.ah - f.shop.al + 1)
  | i + 1 => Fnd.farA f i * ((nth f.nights i).hi - (nth f.nights i).lo + 1)
def farI (many n : Int) : Nat → Int
  | 0 => n
  | j + 1 => (farI many n j * (many + ((j : Int) + 1))).tdiv ((j : Int) + 1)
def Fnd.farK (f : Fnd) : Nat → Int
  | 0 => f.farA f.nights.length
  | k + 1 => if Fnd.farK f k ≤ 3000 then farI (nth f.shop.pigs k).many (Fnd.farK f k) f.nights.length else Fnd.farK f k
def Fnd.far (f : Fnd) : Bool := f.huge || (f.chk && decide (3000 < f.farK f.shop.pigs.length))
theorem farA_bnd {f : Fnd} (hf : f.chk = true) : ∀ i : Nat, i ≤ f.nights.length → 0 ≤ f.farA i ∧ f.farA i ≤ 160801 * 10 ^ i
  | 0, _ => by
    have := tl_bnd (Fnd.shopOK hf)
    have h1 := mulb (a := f.shop.th - f.shop.tl + 1) (A := 401) (b := f.shop.ah - f.shop.al + 1) (B := 401) (by omega) (by omega) (by omega) (by omega)
    simp only [Fnd.farA]; omega
  | i + 1, hi => by
    have h1 := farA_bnd hf i (by omega)
    have h2 := Night.bnds ((Fnd.nightsOK hf).at (show i < f.nights.length by omega))
    have h3 : (0 : Int) ≤ 160801 * 10 ^ i := by omega
    have h4 := Int.mul_nonneg h1.1 (show (0 : Int) ≤ (nth f.nights i).hi - (nth f.nights i).lo + 1 by omega)
    have h5 := Int.mul_le_mul h1.2 (show (nth f.nights i).hi - (nth f.nights i).lo + 1 ≤ 10 by omega) (by omega) h3
    simp only [Fnd.farA]
    rw [Int.pow_succ, ← Int.mul_assoc]
    exact ⟨h4, h5⟩
theorem farI_bnd {many n : Int} (hm : 0 ≤ many) (hm5 : many ≤ 5) (h0 : 0 ≤ n) (h1 : n ≤ 3000) : ∀ j : Nat, j ≤ 4 → 0 ≤ farI many n j ∧ farI many n j ≤ 3000 * 9 ^ j
  | 0, _ => by simp only [farI]; omega
  | j + 1, hj => by
    have h2 := farI_bnd hm hm5 h0 h1 j (by omega)
    have h3 : (0 : Int) ≤ 3000 * 9 ^ j := by omega
    have h4 := Int.mul_nonneg h2.1 (show (0 : Int) ≤ many + ((j : Int) + 1) by omega)
    have h5 := Int.mul_le_mul h2.2 (show many + ((j : Int) + 1) ≤ 9 by omega) (by omega) h3
    have h6 := Int.tdiv_nonneg h4 (show (0 : Int) ≤ (j : Int) + 1 by omega)
    have h7 := Int.tdiv_le_self ((j : Int) + 1) h4
    simp only [farI]
    rw [Int.pow_succ, ← Int.mul_assoc]
    omega
def exW : Fnd := ⟨⟨100, 6, 7, 13, 14, 130, 40, 80, 120, 150, [⟨10, 3, 1, 20, 2⟩]⟩, [⟨1, 2, 0⟩, ⟨1, 1, 0⟩, ⟨1, 2, 0⟩]⟩
def exU : Fnd := { exW with shop := { exW.shop with tph := 70 } }
def exV : Fnd := exU.tested 2
theorem ex_fE : exW.wOpen (exW.wPlan [[1], [0], [0]]) = 0 := by decide +kernel
theorem ex_f : exW.wFailsV [[1], [0], [0]] = [0, 1] := by decide +kernel
theorem ex_last : exW.wLastV = 2 := by decide +kernel
theorem ex_planE : exW.leastE costG = 0 := by decide +kernel
theorem ex_plan : exW.wPlanV = [[0], [0], [1]] := by decide +kernel
theorem ex_kE : exV.wKnownE = 0 := by decide +kernel
theorem ex_k : exV.wKnownV = 20 := by decide +kernel
theorem ex_u : exU.leastE costG = 3 := by decide +kernel
theorem ex_sE : exW.wOpen (exW.wPlan [[0], [0], [0]]) = 0 := by decide +kernel
theorem ex_s : exW.wSafeV [[0], [0], [0]] = 3 := by decide +kernel
theorem ex_chk : exW.chk = true ∧ exU.chk = true ∧ exV.chk = true := by decide +kernel
end Go.Flong
namespace Go.Flong
open Go Go.Eng
theorem sameInts_refl (a : List Int) : sameInts a a = true := by
  simp only [sameInts, decide_true, Bool.true_and]
  exact allI_iff.2 fun j _ => by simp [sameAt]
theorem take_nth_succ {α : Type} [Inhabited α] {l : List α} {i : Nat} (h : i < l.length) : l.take (i + 1) = l.take i ++ [nth l (i : Int)] := by
  rw [List.take_succ_eq_append_getElem h, nthN h]
theorem farK_nonneg {f : Fnd} (hf : f.chk = true) : ∀ {k : Nat}, k ≤ f.shop.pigs.length → 0 ≤ f.farK k
  | 0, _ => (farA_bnd hf _ (Nat.le_refl _)).1
  | k + 1, hk => by
    have h1 := farK_nonneg hf (k := k) (by omega)
    simp only [Fnd.farK]
    split
    · have h2 := Pig.bnds ((Shop.pigsOK (Fnd.shopOK hf)).at (show k < f.shop.pigs.length by omega))
      exact (farI_bnd (by omega) (by omega) h1 (by omega) _ (Fnd.chkB hf).2).1
    · exact h1
theorem farK_stop {f : Fnd} (_hf : f.chk = true) {k : Nat} (hk : k ≤ f.shop.pigs.length) (h : k = f.shop.pigs.length ∨ ¬ f.farK k ≤ 3000) : f.farK f.shop.pigs.length = f.farK k := by
  rcases h with rfl | h
  · rfl
  · have : ∀ d : Nat, f.farK (k + d) = f.farK k := by
      intro d
      induction d with
      | zero => rfl
      | succ d ih =>
        rw [← Nat.add_assoc]
        simp only [Fnd.farK]
        rw [ih, if_neg h]
    have := this (f.shop.pigs.length - k)
    rwa [show k + (f.shop.pigs.length - k) = f.shop.pigs.length by omega] at this
end Go.Flong
