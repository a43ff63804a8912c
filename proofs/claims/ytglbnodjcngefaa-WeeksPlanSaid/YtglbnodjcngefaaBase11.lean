/- The plain model of layer 13, part 11: foundries that differ in little. -/
import Derived.Test.YtglbnodjcngefaaBase10
set_option linter.unusedSimpArgs false
set_option linter.unusedVariables false
namespace Go.Flong
open Go Go.Eng
structure Clr where
  tl : Int
  th : Int
  al : Int
  ah : Int
  night : Int
  dl : Int
  dh : Int
def Fnd.cleared (f : Fnd) (c : Clr) : Fnd := { shop := { f.shop with tl := c.tl, th := c.th, al := c.al, ah := c.ah }, nights := lset f.nights c.night { nth f.nights c.night with lo := c.dl, hi := c.dh } }
def Fnd.cut (f : Fnd) : Fnd := { f with nights := (f.nights.take ((f.nights.length : Int) - 1).toNat).drop (0 : Int).toNat }
def Fnd.roomed (f : Fnd) (b : Int) : Fnd := { f with shop := { f.shop with room := b } }
def Fnd.pigged (f : Fnd) (k : Int) : Fnd := { f with shop := { f.shop with pigs := lset f.shop.pigs k { nth f.shop.pigs k with many := (nth f.shop.pigs k).many + 1 } } }
structure PlanLaw (f : Fnd) (plan : List (List Int)) : Prop where
  c : CostsLaw f
  k : f.leastE costG = 0 ∨ f.leastE costG = 3
  e : f.leastE costG = 0 ↔ f.cheapC < 1000000
  l : 0 ≤ f.wLastV ∧ f.wLastV ≤ f.nights.length
  z : f.wLastV = f.nights.length → f.cheapC = 0
  p1 : f.leastE costG = 0 → f.isPlanL f.wPlanV = true
  p2 : f.leastE costG = 0 → f.shop.cost f.wPlanV = f.cheapC
  p3 : f.leastE costG = 0 → f.onceC ≤ addsTo f.wPlanV f.wPlanV.length
  p4 : f.leastE costG = 0 → (addsTo f.wPlanV f.wPlanV.length = 0 ↔ f.wLastV = f.nights.length)
  p5 : f.leastE costG = 0 → f.wOpen (f.wPlan f.wPlanV) = 0 ∧ f.wSafeV f.wPlanV = 1
  q : f.isPlan plan = true → f.wOpen (f.wPlan plan) = 0
  q1 : f.isPlan plan = true → f.wSafeV plan = 1 → f.leastE costG = 0
  q2 : f.isPlan plan = true → f.wSafeV plan = 1 → f.cheapC ≤ f.shop.cost plan
  q3 : f.isPlan plan = true → f.wSafeV plan = 1 → f.onceC ≤ addsTo plan plan.length
  q4 : f.isPlan plan = true → f.wSafeV plan = 1 → f.shop.cost plan = f.cheapC → ∀ i : Nat, i < f.wPlanV.length → allI (fun j => sameInts (nth plan j) (nth f.wPlanV j)) i = true → sameInts (nth plan i) (nth f.wPlanV i) = false → earlier (nth plan i) (nth f.wPlanV i) = false
structure ClearLaw (f : Fnd) (c : Clr) (plan : List (List Int)) : Prop where
  o : (f.cleared c).chk = true
  l : LessLaw (f.cleared c) f
  w : f.wLastV ≤ (f.cleared c).wLastV
  q1 : f.isPlan plan = true → f.wOpen (f.wPlan plan) = 0
  q2 : f.isPlan plan = true → (f.cleared c).wOpen ((f.cleared c).wPlan plan) = 0
  q3 : f.isPlan plan = true → within (f.wSafeV plan) 1 3 = true
  q4 : f.isPlan plan = true → f.wSafeV plan = 3 ∨ (f.cleared c).wSafeV plan = f.wSafeV plan
structure CutLaw (f : Fnd) : Prop where
  o : f.cut.chk = true
  l : LessLaw f.cut f
  w : f.cut.wLastV = min f.wLastV (f.cut.nights.length : Int)
structure MoreLaw (f : Fnd) (k b : Int) : Prop where
  r : f.shop.room < b → (f.roomed b).rdy = true → LessLaw (f.roomed b) f
  k : within k 0 ((f.shop.pigs.length : Int) - 1) = true → (f.pigged k).rdy = true → LessLaw (f.pigged k) f
def Fnd.testsTo (f : Fnd) : Nat → Int
  | 0 => 0
  | i + 1 => Fnd.testsTo f i + (nth f.nights i).test
theorem testsTo_bnd {f : Fnd} (hf : f.chk = true) : ∀ i : Nat, i ≤ f.nights.length → 0 ≤ f.testsTo i ∧ f.testsTo i ≤ i
  | 0, _ => by simp [Fnd.testsTo]
  | i + 1, hi => by
    have h1 := testsTo_bnd hf i (by omega)
    have h2 := Night.bnds ((Fnd.nightsOK hf).at (show i < f.nights.length by omega))
    simp only [Fnd.testsTo]; omega
def Fnd.bestC (f : Fnd) : Int := if f.wAskE = 0 then (f.tested f.wAskV).knownC else 1000000
structure TestsLaw (f : Fnd) (night : Int) : Prop where
  c : CostsLaw f
  a : f.knownC ≤ f.cheapC
  b1 : 0 ≤ f.cheapC ∧ f.cheapC ≤ 1000000
  b2 : 0 ≤ f.knownC ∧ f.knownC ≤ 1000000
  b : f.testsTo f.nights.length = 0 → f.knownC = f.cheapC
  w1 : f.wWorthE = 0 ∨ f.wWorthE = 3
  w2 : f.wWorthE = 0 ↔ f.cheapC < 1000000
  w3 : f.wWorthE = 0 → f.wWorthV = f.cheapC - f.knownC
  q1 : f.wAskE = 0 ∨ f.wAskE = 3
  q2 : f.wAskE = 0 → 0 ≤ f.wAskV ∧ f.wAskV < f.nights.length ∧ (nth f.nights f.wAskV).test ≠ 1
  q3 : f.wAskE = 0 → CostsLaw (f.tested f.wAskV) ∧ (f.tested f.wAskV).knownC ≠ 1000000 ∧ (f.tested f.wAskV).knownC ≤ f.knownC
  n : 0 ≤ night → night < f.nights.length → (nth f.nights night).test ≠ 1 → CostsLaw (f.tested night) ∧ (f.tested night).knownC ≤ f.knownC ∧ f.bestC ≤ (f.tested night).knownC ∧ (f.bestC < (f.tested night).knownC ∨ (f.tested night).knownC = 1000000 ∨ f.wAskV ≤ night)
theorem cut_len (f : Fnd) : f.cut.nights.length = f.nights.length - 1 := by
  simp only [Fnd.cut, List.length_drop, List.length_take]; omega
theorem cleared_len (f : Fnd) (c : Clr) : (f.cleared c).nights.length = f.nights.length := lset_len _ _ _
theorem pigged_len (f : Fnd) (k : Int) : (f.pigged k).shop.pigs.length = f.shop.pigs.length := lset_len _ _ _
theorem planRows {f : Fnd} {plan : List (List Int)} (hf : f.chk = true) (h : f.isPlan plan = true) : RowsB f.shop.pigs.length plan := by
  have h1 := Fnd.planB hf h
  have h2 := (Fnd.chkB hf).2
  exact ⟨by have := h1.1; omega, fun i hi => ⟨(h1.2 i hi).1, bnd_mono (h1.2 i hi).2 (by omega)⟩⟩
theorem wSafeV_in {f : Fnd} {plan : List (List Int)} : 0 ≤ f.wSafeV plan ∧ f.wSafeV plan ≤ 3 := by
  unfold Fnd.wSafeV
  split
  · split
    · omega
    · split <;> omega
  · omega
end Go.Flong
