/- The plain model of layers 1 and 13: what the program and its specification compute, with no program in sight. -/
import Derived.Test.YtglbnodjcngefaaEngU
set_option linter.unusedSimpArgs false
set_option linter.unusedVariables false
namespace Go.Flong
open Go Go.Eng

structure Pig where
  pounds : Int
  tin : Int
  ant : Int
  pence : Int
  many : Int
instance : Inhabited Pig := ⟨⟨0, 0, 0, 0, 0⟩⟩
structure Night where
  lo : Int
  hi : Int
  test : Int
instance : Inhabited Night := ⟨⟨0, 0, 0⟩⟩
structure Span where
  lo : Int
  hi : Int
structure Shop where
  pounds : Int
  tl : Int
  th : Int
  al : Int
  ah : Int
  room : Int
  tpl : Int
  tph : Int
  apl : Int
  aph : Int
  pigs : List Pig
structure Fnd where
  shop : Shop
  nights : List Night
abbrev EPig : EP Pig := .str [.i Pig.pounds, .i Pig.tin, .i Pig.ant, .i Pig.pence, .i Pig.many]
abbrev ENight : EP Night := .str [.i Night.lo, .i Night.hi, .i Night.test]

theorem all_of {α : Type} [Inhabited α] {l : List α} {p : α → Bool} (h : ∀ j : Nat, j < l.length → p (nth l j) = true) : l.all p = true := by
  rw [List.all_eq_true]
  intro x hx
  obtain ⟨j, hj, rfl⟩ := List.mem_iff_getElem.1 hx
  have := h j hj
  simpa [nth, List.getD_eq_getElem?_getD, List.getElem?_eq_getElem hj] using this
theorem not_all {α : Type} [Inhabited α] {l : List α} {p : α → Bool} {j : Nat} (hj : j < l.length) (h : p (nth l j) = false) : l.all p = false := by
  rw [List.all_eq_false]
  refine ⟨l[j], List.getElem_mem hj, ?_⟩
  simpa [nth, List.getD_eq_getElem?_getD, List.getElem?_eq_getElem hj] using h
theorem all_nth {α : Type} [Inhabited α] {l : List α} {p : α → Bool} (h : l.all p = true) {j : Nat} (hj : j < l.length) : p (nth l j) = true := by
  have := List.all_eq_true.1 h _ (List.getElem_mem hj)
  simpa [nth, List.getD_eq_getElem?_getD, List.getElem?_eq_getElem hj] using this

def within (n lo hi : Int) : Bool := decide (lo ≤ n) && decide (n ≤ hi)
def isSpan (lo hi most : Int) : Bool := within hi 0 most && within lo 0 hi
def isPot (p tl th al ah : Int) : Bool := within p 0 400 && isSpan tl th p && isSpan al ah p && decide (th + ah ≤ p)
def isPotP (p tl th al ah : Int) : Bool := within p 0 400 && isSpan tl th p && isSpan al ah (p - th)
theorem isPotP_eq (p tl th al ah : Int) : isPotP p tl th al ah = isPot p tl th al ah := by
  rw [Bool.eq_iff_iff]; simp [isPotP, isPot, isSpan, within]; omega
def Pig.chk (p : Pig) : Bool := within p.pounds 1 40 && within p.tin 0 p.pounds && within p.ant 0 (p.pounds - p.tin) && within p.pence 0 99 && within p.many 0 5
def Shop.head (s : Shop) : Bool := isPot s.pounds s.tl s.th s.al s.ah && within s.room s.pounds 999 && isSpan s.tpl s.tph 1000 && isSpan s.apl s.aph 1000 && decide ((s.pigs.length : Int) ≤ 4)
def Shop.chk (s : Shop) : Bool := s.head && s.pigs.all Pig.chk
/-- All of the first i. -/
def allTo {α : Type} [Inhabited α] (p : α → Bool) (l : List α) : Nat → Bool
  | 0 => true
  | i + 1 => allTo p l i && p (nth l i)
theorem allTo_iff {α : Type} [Inhabited α] {p : α → Bool} {l : List α} : ∀ {i : Nat}, allTo p l i = true ↔ ∀ j : Nat, j < i → p (nth l j) = true
  | 0 => by simp [allTo]
  | i + 1 => by
    simp only [allTo, Bool.and_eq_true, allTo_iff (i := i)]
    constructor
    · rintro ⟨h1, h2⟩ j hj
      rcases Nat.lt_succ_iff_lt_or_eq.1 hj with h | rfl
      · exact h1 j h
      · exact h2
    · intro h; exact ⟨fun j hj => h j (by omega), h i (by omega)⟩
theorem allTo_len {α : Type} [Inhabited α] (p : α → Bool) (l : List α) : allTo p l l.length = l.all p := by
  rw [Bool.eq_iff_iff, allTo_iff]
  exact ⟨all_of, fun h j hj => all_nth h hj⟩
def errM (b : Bool) : Int := if b then 0 else 10

/-- Numbers that are small. -/
def bnd (l : List Int) (m : Int) : Prop := ∀ j : Nat, j < l.length → 0 ≤ nth l j ∧ nth l j ≤ m
def plusTo (a b : List Int) : Nat → List Int
  | 0 => List.replicate a.length 0
  | i + 1 => lset (plusTo a b i) i (nth a i + nth b i)
def plus (a b : List Int) : List Int := plusTo a b a.length
theorem plusTo_len (a b : List Int) : ∀ i, (plusTo a b i).length = a.length
  | 0 => by simp [plusTo]
  | i + 1 => by rw [plusTo, lset_len, plusTo_len a b i]
theorem plus_len (a b : List Int) : (plus a b).length = a.length := plusTo_len a b _
theorem nth_lset {l : List Int} {i : Nat} {x : Int} (h : i < l.length) (j : Nat) : nth (lset l i x) j = if j = i then x else nth l j := by
  by_cases e : j = i
  · subst e; simp [nth, lset, List.getD_eq_getElem?_getD, h]
  · have : ¬ i = j := fun h => e h.symm
    simp [nth, lset, List.getD_eq_getElem?_getD, e, List.getElem?_set, this]
theorem nth_plusTo (a b : List Int) : ∀ (i j : Nat), i ≤ a.length → j < i → nth (plusTo a b i) j = nth a j + nth b j
  | i + 1, j, hi, hj => by
    rw [plusTo, nth_lset (by rw [plusTo_len]; omega)]
    by_cases e : j = i
    · subst e; simp
    · rw [if_neg e]; exact nth_plusTo a b i j (by omega) (by omega)
theorem nth_plus {a b : List Int} {j : Nat} (h : j < a.length) : nth (plus a b) j = nth a j + nth b j := nth_plusTo a b _ j (Nat.le_refl _) h
/-- What the pigs of an addition have together. -/
def sumTo (f : Pig → Int) (pigs : List Pig) (add : List Int) : Nat → Int
  | 0 => 0
  | i + 1 => sumTo f pigs add i + nth add i * f (nth pigs i)
def sumOf (f : Pig → Int) (pigs : List Pig) (add : List Int) : Int := sumTo f pigs add add.length
theorem mulb {a b A B : Int} (h0 : 0 ≤ a) (h1 : a ≤ A) (h2 : 0 ≤ b) (h3 : b ≤ B) : 0 ≤ a * b ∧ a * b ≤ A * B := by
  refine ⟨Int.mul_nonneg h0 h2, ?_⟩
  exact Int.le_trans (Int.mul_le_mul_of_nonneg_right h1 h2) (Int.mul_le_mul_of_nonneg_left h3 (Int.le_trans h0 h1))
theorem sumTo_bnd {f : Pig → Int} {pigs : List Pig} {add : List Int} (ha : bnd add 1000) (hf : ∀ j : Nat, j < add.length → 0 ≤ f (nth pigs j) ∧ f (nth pigs j) ≤ 99) : ∀ i : Nat, i ≤ add.length → 0 ≤ sumTo f pigs add i ∧ sumTo f pigs add i ≤ 99000 * i
  | 0, _ => by simp [sumTo]
  | i + 1, h => by
    have h1 := sumTo_bnd ha hf i (by omega)
    have h2 := ha i (by omega)
    have h3 := hf i (by omega)
    have h4 := mulb h2.1 h2.2 h3.1 h3.2
    simp only [sumTo]; omega
theorem Pig.bnds {p : Pig} (h : p.chk = true) : 1 ≤ p.pounds ∧ p.pounds ≤ 40 ∧ 0 ≤ p.tin ∧ p.tin ≤ p.pounds ∧ 0 ≤ p.ant ∧ p.ant ≤ p.pounds - p.tin ∧ 0 ≤ p.pence ∧ p.pence ≤ 99 ∧ 0 ≤ p.many ∧ p.many ≤ 5 := by
  simp [Pig.chk, within] at h; omega
/-- Pigs as those of a valid shop are. -/
def PigsOK (l : List Pig) : Prop := l.all Pig.chk = true ∧ l.length ≤ 4
theorem PigsOK.at {l : List Pig} (h : PigsOK l) {j : Nat} (hj : j < l.length) : (nth l j).chk = true := all_nth h.1 hj
theorem Shop.pigsOK {s : Shop} (h : s.chk = true) : PigsOK s.pigs := by
  simp only [Shop.chk, Shop.head, Bool.and_eq_true, decide_eq_true_eq] at h
  exact ⟨h.2, by omega⟩
def Night.chk (n : Night) : Bool := isSpan n.lo n.hi 9 && within n.test 0 1
def hiTo (l : List Night) : Nat → Int
  | 0 => 0
  | i + 1 => hiTo l i + (nth l i).hi
def Fnd.chk (f : Fnd) : Bool := f.shop.chk && decide ((f.nights.length : Int) ≤ 4) && f.nights.all Night.chk && decide (hiTo f.nights f.nights.length ≤ f.shop.tl)
def errW (b : Bool) : Int := if b then 0 else 130
theorem errM_eq {b : Bool} : errM b = 0 ↔ b = true := by cases b <;> simp [errM]
theorem errW_ne {b : Bool} : errW b ≠ 0 ↔ b = false := by cases b <;> simp [errW]
theorem errW_eq {b : Bool} : errW b = 0 ↔ b = true := by cases b <;> simp [errW]
theorem errM_ne {b : Bool} : errM b ≠ 0 ↔ b = false := by cases b <;> simp [errM]
theorem Night.bnds {n : Night} (h : n.chk = true) : 0 ≤ n.lo ∧ n.lo ≤ n.hi ∧ 0 ≤ n.hi ∧ n.hi ≤ 9 ∧ 0 ≤ n.test ∧ n.test ≤ 1 := by
  simp [Night.chk, isSpan, within] at h; omega
theorem hiTo_bnd {l : List Night} : ∀ {i : Nat}, allTo Night.chk l i = true → 0 ≤ hiTo l i ∧ hiTo l i ≤ 9 * i
  | 0, _ => by simp [hiTo]
  | i + 1, h => by
    simp only [allTo, Bool.and_eq_true] at h
    have h1 := hiTo_bnd h.1
    have h2 := Night.bnds h.2
    simp only [hiTo]; omega
theorem tl_bnd {s : Shop} (h : s.chk = true) : 0 ≤ s.pounds ∧ s.pounds ≤ 400 ∧ 0 ≤ s.tl ∧ s.tl ≤ s.th ∧ s.th ≤ s.pounds ∧ 0 ≤ s.al ∧ s.al ≤ s.ah ∧ s.ah ≤ s.pounds ∧ s.th + s.ah ≤ s.pounds ∧ s.pounds ≤ s.room ∧ s.room ≤ 999 ∧ 0 ≤ s.tpl ∧ s.tpl ≤ s.tph ∧ s.tph ≤ 1000 ∧ 0 ≤ s.apl ∧ s.apl ≤ s.aph ∧ s.aph ≤ 1000 := by
  simp [Shop.chk, Shop.head, isPot, isSpan, within] at h; omega
/-- All of the first i numbers are so. -/
def allI (p : Nat → Bool) : Nat → Bool
  | 0 => true
  | i + 1 => allI p i && p i
theorem allI_iff {p : Nat → Bool} : ∀ {i : Nat}, allI p i = true ↔ ∀ j : Nat, j < i → p j = true
  | 0 => by simp [allI]
  | i + 1 => by
    simp only [allI, Bool.and_eq_true, allI_iff (i := i)]
    constructor
    · rintro ⟨h1, h2⟩ j hj
      rcases Nat.lt_succ_iff_lt_or_eq.1 hj with h | rfl
      · exact h1 j h
      · exact h2
    · intro h; exact ⟨fun j hj => h j (by omega), h i (by omega)⟩
theorem allI_false {p : Nat → Bool} {i n : Nat} (hi : i < n) (h : p i = false) : allI p n = false := by
  cases he : allI p n with
  | false => rfl
  | true => rw [allI_iff.1 he i hi] at h; cases h
def fitsMany (pigs : List Pig) (add : List Int) (j : Nat) : Bool := within (nth add j) 0 (nth pigs j).many
def isAdd (s : Shop) (add : List Int) : Bool := decide ((add.length : Int) = s.pigs.length) && allI (fitsMany s.pigs add) add.length && decide (s.pounds + sumOf Pig.pounds s.pigs add ≤ s.room)
theorem fits_bnd {pigs : List Pig} {add : List Int} (hp : PigsOK pigs) (hl : add.length = pigs.length) (h : allI (fitsMany pigs add) add.length = true) : bnd add 1000 := fun j hj => by
  have h1 := allI_iff.1 h j hj
  have h2 := Pig.bnds (hp.at (show j < pigs.length by omega))
  simp [fitsMany, within] at h1; omega
theorem sumOf_bnd {f : Pig → Int} {pigs : List Pig} {add : List Int} (hp : PigsOK pigs) (hl : add.length ≤ pigs.length) (ha : bnd add 1000) (hf : ∀ p : Pig, p.chk = true → 0 ≤ f p ∧ f p ≤ 99) : 0 ≤ sumOf f pigs add ∧ sumOf f pigs add ≤ 400000 := by
  have h1 := sumTo_bnd (f := f) (pigs := pigs) ha (fun j hj => hf _ (hp.at (by omega))) add.length (Nat.le_refl _)
  have h2 := hp.2
  simp only [sumOf]; omega
/-- The limits of a shop. -/
def keeps1 (s : Shop) (limit p t a : Int) : Bool :=
  if limit = 1 then decide (p * s.tpl ≤ 1000 * t) else if limit = 2 then decide (1000 * t ≤ p * s.tph) else if limit = 3 then decide (p * s.apl ≤ 1000 * a) else decide (1000 * a ≤ p * s.aph)
def sameAt (a b : List Int) (j : Nat) : Bool := decide (nth a j = nth b j)
def sameInts (a b : List Int) : Bool := decide ((a.length : Int) = b.length) && allI (sameAt a b) a.length
def keeps4 (s : Shop) (p t a : Int) : Bool := allI (fun j => keeps1 s ((j : Int) + 1) p t a) 4
def Fnd.keeps (f : Fnd) (t a d : Int) (add : List Int) : Bool :=
  keeps4 f.shop (f.shop.pounds + sumOf Pig.pounds f.shop.pigs add - d) (t + sumOf Pig.tin f.shop.pigs add - d) (a + sumOf Pig.ant f.shop.pigs add)
def Fnd.safeOn (f : Fnd) (tl th al ah dl dh : Int) (add : List Int) : Bool := allI (fun j => f.keeps tl al (dl + j) add && f.keeps th ah (dl + j) add) (dh - dl + 1).toNat
/-- All pigs of the first i nights. -/
def upTo (n : Nat) (plan : List (List Int)) : Nat → List Int
  | 0 => List.replicate n 0
  | i + 1 => plus (upTo n plan i) (nth plan i)
theorem upTo_len (n : Nat) (plan : List (List Int)) : ∀ i, (upTo n plan i).length = n
  | 0 => by simp [upTo]
  | i + 1 => by rw [upTo, plus_len, upTo_len n plan i]
theorem nth_rep {n j : Nat} : nth (List.replicate n (0 : Int)) j = 0 := by
  simp [nth, List.getD_eq_getElem?_getD, List.getElem?_replicate]
  split <;> rfl
theorem upTo_bnd {n : Nat} {plan : List (List Int)} {m : Int} (hm : 0 ≤ m) (h : ∀ i : Nat, i < plan.length → (nth plan i).length = n ∧ bnd (nth plan i) m) : ∀ i : Nat, i ≤ plan.length → bnd (upTo n plan i) (m * i)
  | 0, _ => fun j _ => by simp only [upTo]; rw [nth_rep]; simp
  | i + 1, hi => fun j hj => by
    rw [upTo_len] at hj
    have h1 := upTo_bnd hm h i (by omega) j (by rw [upTo_len]; exact hj)
    have h2 := (h i (by omega)).2 j (by rw [(h i (by omega)).1]; exact hj)
    rw [upTo, nth_plus (by rw [upTo_len]; exact hj)]
    have : m * ((i + 1 : Nat) : Int) = m * i + m := by rw [Int.natCast_add, Int.mul_add]; simp
    omega
/-- The shop when so much dross is gone. -/
def Fnd.less (f : Fnd) (d : Int) : Shop := { f.shop with pounds := f.shop.pounds - d, tl := f.shop.tl - d, th := f.shop.th - d }
def NightsOK (l : List Night) : Prop := l.all Night.chk = true ∧ l.length ≤ 4
theorem NightsOK.at {l : List Night} (h : NightsOK l) {j : Nat} (hj : j < l.length) : (nth l j).chk = true := all_nth h.1 hj
theorem Fnd.nightsOK {f : Fnd} (h : f.chk = true) : NightsOK f.nights := by
  simp only [Fnd.chk, Bool.and_eq_true, decide_eq_true_eq] at h
  exact ⟨h.1.2, by omega⟩
theorem Fnd.shopOK {f : Fnd} (h : f.chk = true) : f.shop.chk = true := by
  simp only [Fnd.chk, Bool.and_eq_true] at h
  exact h.1.1.1
def loTo (l : List Night) : Nat → Int
  | 0 => 0
  | i + 1 => loTo l i + (nth l i).lo
theorem lohi_bnd {l : List Night} (h : NightsOK l) : ∀ i : Nat, i ≤ l.length → 0 ≤ loTo l i ∧ loTo l i ≤ hiTo l i ∧ hiTo l i ≤ 9 * i
  | 0, _ => by simp [hiTo, loTo]
  | i + 1, hi => by
    have h1 := lohi_bnd h i (by omega)
    have h2 := Night.bnds (h.at (show i < l.length by omega))
    simp only [hiTo, loTo]; omega
theorem hiTo_mono {l : List Night} (h : NightsOK l) : ∀ (n i : Nat), i ≤ n → n ≤ l.length → hiTo l i ≤ hiTo l n
  | 0, i, hi, _ => by rw [show i = 0 by omega]; exact Int.le_refl _
  | n + 1, i, hi, hn => by
    by_cases e : i = n + 1
    · subst e; exact Int.le_refl _
    · have h1 := hiTo_mono h n i (by omega) (by omega)
      have h2 := Night.bnds (h.at (show n < l.length by omega))
      simp only [hiTo]; omega
theorem Fnd.hi_le {f : Fnd} (h : f.chk = true) {i : Nat} (hi : i ≤ f.nights.length) : hiTo f.nights i ≤ f.shop.tl := by
  have h1 := hiTo_mono (nightsOK h) f.nights.length i hi (Nat.le_refl _)
  simp only [Fnd.chk, Bool.and_eq_true, decide_eq_true_eq] at h
  omega
/-- What is asked of a plan of which the lengths alone have been looked at. -/
def PlanB (f : Fnd) (plan : List (List Int)) : Prop := plan.length = f.nights.length ∧ ∀ i : Nat, i < plan.length → (nth plan i).length = f.shop.pigs.length ∧ bnd (nth plan i) 5
def Fnd.safeAt (f : Fnd) (plan : List (List Int)) (i : Nat) : Bool := f.safeOn f.shop.tl f.shop.th f.shop.al f.shop.ah (loTo f.nights i) (hiTo f.nights i) (upTo f.shop.pigs.length plan (i + 1))
def failsTo (f : Fnd) (plan : List (List Int)) : Nat → List Int
  | 0 => []
  | i + 1 => if f.safeAt plan i then failsTo f plan i else failsTo f plan i ++ [(i : Int)]
theorem failsTo_len (f : Fnd) (plan : List (List Int)) : ∀ i, (failsTo f plan i).length ≤ i
  | 0 => by simp [failsTo]
  | i + 1 => by
    have := failsTo_len f plan i
    simp only [failsTo]; split
    · omega
    · simp; omega
def rowOK (pigs : List Pig) (plan : List (List Int)) (i : Nat) : Bool := decide (((nth plan i).length : Int) = pigs.length) && allI (fitsMany pigs (nth plan i)) (nth plan i).length
def Fnd.fitsAt (f : Fnd) (plan : List (List Int)) (i : Nat) : Bool := isAdd (f.less (loTo f.nights i)) (upTo f.shop.pigs.length plan (i + 1))
def Fnd.isPlan (f : Fnd) (plan : List (List Int)) : Bool := decide ((plan.length : Int) = f.nights.length) && allI (rowOK f.shop.pigs plan) plan.length && allI (f.fitsAt plan) plan.length
theorem rowOK_b {pigs : List Pig} (hp : PigsOK pigs) {plan : List (List Int)} {i : Nat} (h : rowOK pigs plan i = true) : (nth plan i).length = pigs.length ∧ bnd (nth plan i) 5 := by
  simp only [rowOK, Bool.and_eq_true, decide_eq_true_eq] at h
  refine ⟨by omega, fun j hj => ?_⟩
  have h1 := allI_iff.1 h.2 j hj
  have h2 := Pig.bnds (hp.at (show j < pigs.length by omega))
  simp [fitsMany, within] at h1; omega
/-- The error of a foundry that is asked for something of a plan. -/
def Fnd.openE (f : Fnd) (plan : List (List Int)) : Int := if f.chk then (if f.isPlan plan then 0 else 1) else 130
def Fnd.failsR (f : Fnd) (plan : List (List Int)) : List Int := if f.openE plan = 0 then failsTo f plan f.nights.length else []
theorem Fnd.planB {f : Fnd} {plan : List (List Int)} (hf : f.chk = true) (h : f.isPlan plan = true) : PlanB f plan := by
  simp only [Fnd.isPlan, Bool.and_eq_true, decide_eq_true_eq] at h
  exact ⟨by omega, fun i hi => rowOK_b (Shop.pigsOK (Fnd.shopOK hf)) (allI_iff.1 h.1.2 i hi)⟩
theorem Fnd.openE_eq {f : Fnd} {plan : List (List Int)} (h : f.openE plan = 0) : f.chk = true ∧ f.isPlan plan = true := by
  unfold Fnd.openE at h
  cases h1 : f.chk <;> cases h2 : f.isPlan plan <;> simp [h1, h2] at h ⊢
end Go.Flong
