/- The plain model of layer 13, part 10: what the statements without a reference look at. -/
import Derived.Test.YtglbnodjcngefaaBase9
set_option linter.unusedSimpArgs false
set_option linter.unusedVariables false
namespace Go.Flong
open Go Go.Eng
/-- A truth: tin and antimony at first, and the dross of each night. -/
structure Tru where
  tin : Int
  ant : Int
  dross : List Int
def Fnd.truthAt (f : Fnd) (t : Tru) (i : Nat) : Bool := within (nth t.dross i) (nth f.nights i).lo (nth f.nights i).hi
def Fnd.isTruth (f : Fnd) (t : Tru) : Bool := within t.tin f.shop.tl f.shop.th && within t.ant f.shop.al f.shop.ah && decide ((t.dross.length : Int) = f.nights.length) && allI (f.truthAt t) t.dross.length
def inL (l : List Int) (n : Int) : Bool := !allI (fun j => !decide (nth l j = n)) l.length
def risingAt (l : List Int) (lo hi : Int) (i : Nat) : Bool := within (nth l i) lo hi && !(decide (0 < (i : Int)) && decide (nth l i ≤ nth l ((i : Int) - 1)))
def rising (l : List Int) (lo hi : Int) : Bool := allI (risingAt l lo hi) l.length
def earlier : List Int → List Int → Bool
  | x :: a, y :: b => if x = y then earlier a b else decide (x < y)
  | _, _ => false
theorem nth_consS {α : Type} [Inhabited α] {b : α} {t : List α} {j : Nat} : nth (b :: t) ((j + 1 : Nat) : Int) = nth t (j : Int) := by
  have e : ((j + 1 : Nat) : Int).toNat = j + 1 := by omega
  have e2 : ((j : Nat) : Int).toNat = j := by omega
  simp only [nth, e, e2, List.getD_cons_succ]
theorem earlier_at : ∀ {i : Nat} {a b : List Int}, allI (sameAt a b) i = true → i < a.length → i < b.length → nth a i ≠ nth b i → earlier a b = decide (nth a i < nth b i)
  | 0, x :: a, y :: b, _, _, _, hne => by
    have hne : x ≠ y := hne
    simp only [earlier, if_neg hne]; rfl
  | i + 1, x :: a, y :: b, h, h1, h2, hne => by
    have h0 := allI_iff.1 h 0 (by omega)
    have e : x = y := by simpa [sameAt, nth] using h0
    rw [nth_consS, nth_consS] at hne
    have := earlier_at (i := i) (a := a) (b := b) (allI_iff.2 fun j hj => by
      have := allI_iff.1 h (j + 1) (by omega)
      simpa only [sameAt, nth_consS] using this) (by simpa using h1) (by simpa using h2) hne
    rw [nth_consS, nth_consS]
    simp only [earlier, if_pos e, this]
theorem earlier_end : ∀ {i : Nat} {a b : List Int}, allI (sameAt a b) i = true → i ≤ a.length → i ≤ b.length → ¬ (i < a.length ∧ i < b.length) → earlier a b = false
  | _, [], _, _, _, _, _ => by simp [earlier]
  | _, _ :: _, [], _, _, _, _ => by simp [earlier]
  | 0, x :: a, y :: b, _, _, _, h => absurd ⟨by simp, by simp⟩ h
  | i + 1, x :: a, y :: b, h, h1, h2, hne => by
    have h0 := allI_iff.1 h 0 (by omega)
    have e : x = y := by simpa [sameAt, nth] using h0
    have := earlier_end (i := i) (a := a) (b := b) (allI_iff.2 fun j hj => by
      have := allI_iff.1 h (j + 1) (by omega)
      simpa only [sameAt, nth_consS] using this) (by simpa using h1) (by simpa using h2) (by simpa using hne)
    simp only [earlier, if_pos e, this]
def Fnd.rdy (f : Fnd) : Bool := !f.far && f.chk
def Fnd.isPlanL (f : Fnd) (plan : List (List Int)) : Bool := !longP plan && f.isPlan plan
theorem rdy_parts {f : Fnd} (h : f.rdy = true) : f.far = false ∧ f.chk = true := by simpa [Fnd.rdy] using h
theorem isPlanL_parts {f : Fnd} {plan : List (List Int)} (h : f.isPlanL plan = true) : longP plan = false ∧ f.isPlan plan = true := by simpa [Fnd.isPlanL] using h
def addTo (a b : List Int) : Nat → List Int
  | 0 => a
  | i + 1 => lset (addTo a b i) i (nth (addTo a b i) i + nth b i)
theorem addTo_len (a b : List Int) : ∀ i, (addTo a b i).length = a.length
  | 0 => rfl
  | i + 1 => by rw [addTo, lset_len, addTo_len a b i]
theorem addTo_nth (a b : List Int) : ∀ (i j : Nat), i ≤ a.length → nth (addTo a b i) j = if j < i then nth a j + nth b j else nth a j
  | 0, j, _ => by simp [addTo]
  | i + 1, j, hi => by
    rw [addTo, nth_lset (by rw [addTo_len]; omega), addTo_nth a b i i (by omega), if_neg (Nat.lt_irrefl _)]
    by_cases e : j = i
    · subst e; rw [if_pos rfl, if_pos (by omega)]
    · rw [if_neg e, addTo_nth a b i j (by omega)]
      by_cases h : j < i
      · rw [if_pos h, if_pos (by omega)]
      · rw [if_neg h, if_neg (by omega)]
theorem addTo_plus {a b : List Int} {n : Nat} (h : n = a.length) : addTo a b n = plus a b := by
  subst h
  refine List.ext_getElem (by rw [addTo_len, plus_len]) fun j h1 h2 => ?_
  rw [← nthN h1, ← nthN h2]
  rw [addTo_len] at h1
  rw [addTo_nth a b _ j (Nat.le_refl _), if_pos h1, nth_plus h1]
def knownB (e : Int) : Bool := decide (e = 0) || decide (e = 3)
theorem knownB_of {e : Int} (h : e = 0 ∨ e = 3) : knownB e = true := by rcases h with rfl | rfl <;> rfl
def costN (n e : Int) : Int := if e = 3 then 1000000 else n
def costB (n e : Int) : Bool := if e = 3 then true else decide (e = 0) && decide (0 ≤ n) && decide (n < 1000000)
def Fnd.cheapC (f : Fnd) : Int := costN (f.leastV costG) (f.leastE costG)
def Fnd.onceC (f : Fnd) : Int := costN (f.leastV onceG) (f.leastE onceG)
def Fnd.knownC (f : Fnd) : Int := costN f.wKnownV f.wKnownE
/-- What the program says can be. -/
structure CostsLaw (f : Fnd) : Prop where
  a : costB (f.leastV costG) (f.leastE costG) = true
  b : costB (f.leastV onceG) (f.leastE onceG) = true
  c : costB f.wKnownV f.wKnownE = true
  d : decide (f.cheapC = 1000000) = decide (f.onceC = 1000000)
/-- Not greater. -/
structure LessLaw (f o : Fnd) : Prop where
  cf : CostsLaw f
  co : CostsLaw o
  a : f.cheapC ≤ o.cheapC
  b : f.onceC ≤ o.onceC
  c : f.knownC ≤ o.knownC
def Fnd.keepsAt (f : Fnd) (plan : List (List Int)) (t : Tru) (i : Nat) : Bool := f.keeps t.tin t.ant (sumI t.dross i) (upTo f.shop.pigs.length plan (i + 1))
structure EachLaw (f : Fnd) (plan : List (List Int)) (t : Tru) : Prop where
  o : f.wOpen (f.wPlan plan) = 0
  w : within (f.wSafeV plan) 1 3 = true
  r : rising (f.wFailsV plan) 0 ((f.nights.length : Int) - 1) = true
  z : ((f.wFailsV plan).length = 0) ↔ f.wSafeV plan = 1
  e : ∀ i : Nat, i < f.nights.length → f.wPotE plan i = 0
  p1 : ∀ i : Nat, i < f.nights.length → within (f.shop.pounds + sumOf Pig.pounds f.shop.pigs (upTo f.shop.pigs.length plan (i + 1)) - sumI t.dross i) (nth (f.wPotV plan i) 0) (nth (f.wPotV plan i) 1) = true
  p2 : ∀ i : Nat, i < f.nights.length → within (t.tin + sumOf Pig.tin f.shop.pigs (upTo f.shop.pigs.length plan (i + 1)) - sumI t.dross i) (nth (f.wPotV plan i) 2) (nth (f.wPotV plan i) 3) = true
  p3 : ∀ i : Nat, i < f.nights.length → within (t.ant + sumOf Pig.ant f.shop.pigs (upTo f.shop.pigs.length plan (i + 1))) (nth (f.wPotV plan i) 4) (nth (f.wPotV plan i) 5) = true
  k : ∀ i : Nat, i < f.nights.length → f.keepsAt plan t i = false → inL (f.wFailsV plan) i = true
  a : f.wSafeV plan = 1 → allI (f.keepsAt plan t) f.nights.length = true
  n : f.wSafeV plan = 2 → allI (f.keepsAt plan t) f.nights.length = false
theorem truth_sum {f : Fnd} (hf : f.chk = true) {t : Tru} (ht : f.isTruth t = true) : ∀ i : Nat, i ≤ f.nights.length → loTo f.nights i ≤ sumI t.dross i ∧ sumI t.dross i ≤ hiTo f.nights i
  | 0, _ => by simp [loTo, hiTo, sumI]
  | i + 1, hi => by
    have ih := truth_sum hf ht i (by omega)
    simp only [Fnd.isTruth, Bool.and_eq_true, decide_eq_true_eq] at ht
    have := allI_iff.1 ht.2 i (by omega)
    simp only [Fnd.truthAt, within, Bool.and_eq_true, decide_eq_true_eq] at this
    simp only [loTo, hiTo, sumI]; omega
end Go.Flong
