/- The plain model of layer 13, part 9: what the statements say in plain terms. -/
import Derived.Test.YtglbnodjcngefaaBase8
set_option linter.unusedSimpArgs false
set_option linter.unusedVariables false
namespace Go.Flong
open Go Go.Eng
theorem huge_len {f : Fnd} (h : f.huge = false) : f.shop.pigs.length ≤ 40 ∧ f.nights.length ≤ 40 := by
  simp only [Fnd.huge, hugeS, Bool.or_eq_false_iff, decide_eq_false_iff_not] at h; omega
theorem far_huge {f : Fnd} (h : f.far = false) : f.huge = false := by
  simp only [Fnd.far, Bool.or_eq_false_iff] at h; exact h.1
theorem longP_len {l : List (List Int)} (h : longP l = false) : l.length ≤ 40 ∧ ∀ i : Nat, i < l.length → (nth l i).length ≤ 40 := by
  simp only [longP, Bool.or_eq_false_iff, decide_eq_false_iff_not, Bool.not_eq_false'] at h
  refine ⟨by omega, fun i hi => ?_⟩
  have := allI_iff.1 h.2 i hi
  simp only [Bool.not_eq_true', decide_eq_false_iff_not] at this; omega
/-- Check, Pot, Safe, Fails and Last are as the document says. -/
structure PotLaw (f : Fnd) (plan : List (List Int)) (night : Int) : Prop where
  v : f.wPotV plan night = f.potV plan night
  e : f.wPotE plan night = f.potE plan night
  s : f.wSafeV plan = f.safeK plan
  o : f.wOpen (f.wPlan plan) = f.openE plan
  w : f.wFailsV plan = f.failsR plan
  l : f.wLastV = f.lastN
/-- Cheap, Plan and Once are as the document says. -/
structure CheapLaw (f : Fnd) : Prop where
  e : f.leastE costG = f.plansE
  c : f.leastV costG = f.cheapV
  p : f.wPlanV = f.planV
  oe : f.leastE onceG = f.plansE
  o : f.leastV onceG = f.onceV
/-- Known, Worth and Ask are as the document says. -/
structure KnownLaw (f : Fnd) : Prop where
  ke : f.wKnownE = f.knownE
  k : f.wKnownV = f.knownV
  we : f.wWorthE = f.worthE
  w : f.wWorthV = f.worthV
  ae : f.wAskE = f.askE
  a : f.wAskV = f.askV
theorem wFailsV_len (f : Fnd) (plan : List (List Int)) : (f.wFailsV plan).length ≤ f.nights.length := by
  unfold Fnd.wFailsV
  split
  · exact wFailsTo_len f plan _
  · simp
theorem bestW_rows {f : Fnd} (hp : PigsOK f.shop.pigs) {g : Int → List Int → Int} : ∀ (n : Nat) (night : Int) (p : Pt) (left : List Int), bnd4 left → ∀ i : Nat, i < (f.bestW g n night p left).2.1.length → (nth (f.bestW g n night p left).2.1 (i : Int)).length = f.shop.pigs.length
  | 0, _, _, _, _, i, hi => by simp [Fnd.bestW] at hi
  | n + 1, night, p, left, hl, i, hi => by
    have key : ∀ k : Nat, k ≤ (f.chL p left).length → ∀ i : Nat, i < (bestRows g f.shop.pigs (fun r => f.bestW g n (night + 1) ((p.addL f.shop.pigs r).lose (nth f.nights night)) (takeL left r)) (f.chL p left) k).2.1.length → (nth (bestRows g f.shop.pigs (fun r => f.bestW g n (night + 1) ((p.addL f.shop.pigs r).lose (nth f.nights night)) (takeL left r)) (f.chL p left) k).2.1 (i : Int)).length = f.shop.pigs.length := by
      intro k
      induction k with
      | zero => intro _ i hi; simp [bestRows] at hi
      | succ k ih =>
        intro hk i hi
        simp only [bestRows, bestRow] at hi ⊢
        have hr := chL_at (p := p) hl hp.2 (show k < (f.chL p left).length by omega)
        split at hi
        · rename_i hc
          rw [if_pos hc]
          cases i with
          | zero => exact hr.1
          | succ i =>
            have := bestW_rows hp (g := g) n (night + 1) ((p.addL f.shop.pigs (nth (f.chL p left) (k : Int))).lose (nth f.nights night)) (takeL left (nth (f.chL p left) (k : Int))) hr.2.2 i (by simpa using hi)
            have e : ((i + 1 : Nat) : Int).toNat = i + 1 := by omega
            have e2 : ((i : Nat) : Int).toNat = i := by omega
            simp only [nth, e, e2, List.getD_cons_succ] at this ⊢
            exact this
        · rename_i hc
          rw [if_neg hc]
          exact ih (by omega) i hi
    simp only [Fnd.bestW] at hi ⊢
    exact key _ (Nat.le_refl _) i hi
theorem wPlanV_len {f : Fnd} : f.wPlanV.length ≤ 4 ∧ ∀ i : Nat, i < f.wPlanV.length → (nth f.wPlanV i).length ≤ 4 := by
  unfold Fnd.wPlanV
  split
  · rename_i h
    have hf : f.chk = true := by
      unfold Fnd.leastE at h
      cases hc : f.chk with
      | true => rfl
      | false => rw [hc] at h; exact absurd h (by simp)
    have hpg := Shop.pigsOK (Fnd.shopOK hf)
    have hcb := Fnd.chkB hf
    have h1 := bestW_len (f := f) (g := costG) f.nights.length 0 f.pt0 (left0 f.shop.pigs)
    refine ⟨by show (f.bestW costG f.nights.length 0 f.pt0 (left0 f.shop.pigs)).2.1.length ≤ 4; omega, fun i hi => ?_⟩
    have := bestW_rows hpg (g := costG) f.nights.length 0 f.pt0 (left0 f.shop.pigs) (left0_b hpg) i hi
    unfold Fnd.bestF
    omega
  · exact ⟨by simp, fun i hi => by simp at hi⟩
end Go.Flong
