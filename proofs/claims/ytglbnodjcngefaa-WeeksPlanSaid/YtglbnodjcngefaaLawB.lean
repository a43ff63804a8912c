/- Laws of layer 13 in plain terms, part 4: the choices of a night; Cheap, Plan, Once. Laws of layer 13 in plain terms, part 5: Known, Worth, Ask. -/
import Derived.Test.YtglbnodjcngefaaLawA
set_option linter.unusedSimpArgs false
set_option linter.unusedVariables false
namespace Go.Flong
open Go Go.Eng
theorem flatTo_range {α : Type} (g : Nat → List α) : ∀ n : Nat, flatTo g n = (List.range n).flatMap g
  | 0 => rfl
  | n + 1 => by rw [flatTo, flatTo_range g n, List.range_succ, List.flatMap_append]; simp
theorem flatTo_list {α β : Type} [Inhabited α] (l : List α) (G : α → List β) : flatTo (fun i : Nat => G (nth l i)) l.length = l.flatMap G := by
  have key : ∀ k : Nat, k ≤ l.length → flatTo (fun i : Nat => G (nth l i)) k = (l.take k).flatMap G := by
    intro k
    induction k with
    | zero => intro _; simp [flatTo]
    | succ k ih => intro hk; rw [flatTo, ih (by omega), take_nth_succ (by omega), List.flatMap_append]; simp
  rw [key _ (Nat.le_refl _), List.take_length]
theorem toFold {α σ : Type} [Inhabited α] {F : Nat → σ} {step : σ → α → σ} {l : List α} (hs : ∀ i : Nat, i < l.length → F (i + 1) = step (F i) (nth l i)) : F l.length = l.foldl step (F 0) := by
  have key : ∀ k : Nat, k ≤ l.length → F k = (l.take k).foldl step (F 0) := by
    intro k
    induction k with
    | zero => intro _; simp
    | succ k ih => intro hk; rw [hs k (by omega), ih (by omega), take_nth_succ (by omega), List.foldl_append]; simp
  rw [key _ (Nat.le_refl _), List.take_length]
theorem foldl_congr' {α σ : Type} {f g : σ → α → σ} : ∀ {l : List α} {s : σ}, (∀ x ∈ l, ∀ b, f b x = g b x) → l.foldl f s = l.foldl g s
  | [], _, _ => rfl
  | x :: t, s, h => by
    rw [List.foldl_cons, List.foldl_cons, h x List.mem_cons_self]
    exact foldl_congr' fun y hy => h y (List.mem_cons_of_mem _ hy)
theorem nth_cons_succ {α : Type} [Inhabited α] {b : α} {t : List α} {j : Nat} : nth (b :: t) ((j + 1 : Nat) : Int) = nth t (j : Int) := by
  have e : ((j + 1 : Nat) : Int).toNat = j + 1 := by omega
  have e2 : ((j : Nat) : Int).toNat = j := by omega
  simp only [nth, e, e2, List.getD_cons_succ]
theorem nth_cons_zero {α : Type} [Inhabited α] {b : α} {t : List α} : nth (b :: t) ((0 : Nat) : Int) = b := rfl
theorem nth_ext {a b : List Int} (hl : a.length = b.length) (h : ∀ j : Nat, j < a.length → nth a j = nth b j) : a = b :=
  List.ext_getElem hl fun j h1 h2 => by
    have := h j h1
    rwa [nthN h1, nthN h2] at this
/-- The rest of a list of numbers, kind by kind. -/
def remL (f : Fnd) (before : List Int) : List Int := (List.range f.shop.pigs.length).map fun j : Nat => (nth f.shop.pigs j).many - nth before j
theorem addsR_box {f : Fnd} {before : List Int} {d : Int} : ∀ (n : Nat) (first r : List Int), r.length = n → (∀ j : Nat, j < n → nth r j = (nth f.shop.pigs ((first.length + j : Nat) : Int)).many - nth before ((first.length + j : Nat) : Int)) →
    f.addsR before d n first = ((boxS r).map (first ++ ·)).filter fun x => isAdd (f.less d) (plus before x)
  | 0, first, r, hr, _ => by
    rw [List.eq_nil_of_length_eq_zero hr]
    simp only [Fnd.addsR, boxS, List.map_cons, List.map_nil, List.append_nil, List.filter_cons, List.filter_nil]
  | n + 1, first, b :: t, hr, h => by
    have h0 := h 0 (by omega)
    rw [nth_cons_zero] at h0
    simp only [Nat.add_zero] at h0
    simp only [Fnd.addsR, boxS]
    rw [flatTo_range, ← h0, List.map_flatMap, List.filter_flatMap]
    congr 1
    funext j
    rw [addsR_box n (first ++ [(j : Int)]) t (by simpa using hr) (fun k hk => ?_)]
    · rw [List.map_map]
      congr 2
      funext x
      simp
    · have := h (k + 1) (by omega)
      rw [nth_cons_succ] at this
      rw [this]
      simp only [List.length_append, List.length_cons, List.length_nil]
      congr 3 <;> omega
  | n + 1, first, [], hr, _ => by simp at hr
theorem remL_len (f : Fnd) (before : List Int) : (remL f before).length = f.shop.pigs.length := by simp [remL]
theorem remL_nth {f : Fnd} {before : List Int} {j : Nat} (hj : j < f.shop.pigs.length) : nth (remL f before) j = (nth f.shop.pigs j).many - nth before j := by
  rw [nthN (by rw [remL_len]; exact hj)]; simp [remL]
theorem addsL_box {f : Fnd} {before : List Int} {d : Int} : f.addsL before d = (boxS (remL f before)).filter fun x => isAdd (f.less d) (plus before x) := by
  rw [Fnd.addsL, addsR_box _ [] (remL f before) (remL_len f before) (fun j hj => by rw [remL_nth hj]; simp)]
  simp
theorem mem_boxS : ∀ {r x : List Int}, x ∈ boxS r ↔ x.length = r.length ∧ ∀ j : Nat, j < r.length → 0 ≤ nth x j ∧ nth x j ≤ nth r j
  | [], x => by
    simp only [boxS, List.mem_singleton, List.length_nil]
    constructor
    · rintro rfl; exact ⟨rfl, fun j hj => absurd hj (by omega)⟩
    · intro h; exact List.eq_nil_of_length_eq_zero h.1
  | b :: t, x => by
    constructor
    · intro h; exact ⟨boxS_len _ h, boxS_bnd h⟩
    · rintro ⟨h1, h2⟩
      match x, h1 with
      | y :: ys, h1 =>
        have h0 := h2 0 (by simp)
        rw [nth_cons_zero, nth_cons_zero] at h0
        simp only [boxS, List.mem_flatMap, List.mem_map, List.mem_range]
        refine ⟨y.toNat, by omega, ys, mem_boxS.2 ⟨by simpa using h1, fun j hj => ?_⟩, by rw [Int.toNat_of_nonneg h0.1]⟩
        have := h2 (j + 1) (by simpa using hj)
        rwa [nth_cons_succ, nth_cons_succ] at this
/-- Numbers that are none below 0. -/
def nonneg (l : List Int) : Prop := ∀ j : Nat, j < l.length → 0 ≤ nth l j
/-- Pigs that were added, and what is then left. -/
structure BefOK (f : Fnd) (before left : List Int) : Prop where
  len : before.length = f.shop.pigs.length
  pos : nonneg before
  le : ∀ j : Nat, j < f.shop.pigs.length → nth left j = (nth f.shop.pigs j).many - nth before j
/-- What stands for spans of the document, of which so much dross was taken off. -/
def Rep (f : Fnd) (p : Pt) (s : Sp) (before : List Int) (c : Int) : Prop :=
  p = ⟨f.shop.pounds + sumOf Pig.pounds f.shop.pigs before - c, s.tl + sumOf Pig.tin f.shop.pigs before - c, s.th + sumOf Pig.tin f.shop.pigs before - c, s.al + sumOf Pig.ant f.shop.pigs before, s.ah + sumOf Pig.ant f.shop.pigs before, s.dl - c, s.dh - c⟩
def SpLe (s : Sp) : Prop := s.tl ≤ s.th ∧ s.al ≤ s.ah ∧ s.dl ≤ s.dh
/-- The lists that can be added and are safe. -/
def Fnd.rowsS (f : Fnd) (s : Sp) (before : List Int) : List (List Int) := (f.addsL before s.dl).filter fun x => f.safeOn s.tl s.th s.al s.ah s.dl s.dh (plus before x)
theorem isAdd_box {f : Fnd} {before x : List Int} {d : Int} (hb : before.length = f.shop.pigs.length) (hp : nonneg before) (hx : x ∈ boxS (remL f before)) : isAdd (f.less d) (plus before x) = decide (f.shop.pounds - d + (sumOf Pig.pounds f.shop.pigs before + sumOf Pig.pounds f.shop.pigs x) ≤ f.shop.room) := by
  obtain ⟨h1, h2⟩ := mem_boxS.1 hx
  rw [remL_len] at h1 h2
  have e1 : decide (((plus before x).length : Int) = (f.less d).pigs.length) = true := by
    rw [plus_len, decide_eq_true_eq, hb]; rfl
  have e2 : allI (fitsMany (f.less d).pigs (plus before x)) (plus before x).length = true := allI_iff.2 fun j hj => by
    rw [plus_len] at hj
    have h3 := h2 j (by omega)
    rw [remL_nth (by omega)] at h3
    have h4 := hp j hj
    simp only [fitsMany, within, Bool.and_eq_true, decide_eq_true_eq]
    rw [nth_plus hj]
    show _ ∧ _ ≤ (nth f.shop.pigs j).many
    omega
  unfold isAdd
  rw [e1, e2, Bool.true_and, Bool.true_and]
  show decide (f.shop.pounds - d + sumOf Pig.pounds f.shop.pigs (plus before x) ≤ f.shop.room) = _
  rw [sumOf_plus (by omega)]
theorem chBox_eq {f : Fnd} {before left : List Int} (hl : left.length = 4) (hp : f.shop.pigs.length ≤ 4) (h : BefOK f before left) : f.chBox left = boxS (remL f before) := by
  unfold Fnd.chBox
  congr 1
  refine nth_ext (by rw [List.length_take, remL_len, hl]; omega) fun j hj => ?_
  rw [List.length_take, hl] at hj
  rw [take_nth (by omega) (by omega), h.le j (by omega), remL_nth (by omega)]
theorem chL_eq {f : Fnd} (hf : f.chk = true) {p : Pt} {s : Sp} {before left : List Int} {c : Int} (hl : left.length = 4) (h : BefOK f before left) (hr : Rep f p s before c) (hs : SpLe s) : f.chL p left = f.rowsS s before := by
  have hp4 := (Shop.pigsOK (Fnd.shopOK hf)).2
  rw [Fnd.chL, Fnd.rowsS, chBox_eq hl hp4 h, addsL_box, List.filter_filter]
  refine List.filter_congr fun x hx => ?_
  rw [isAdd_box h.len h.pos hx]
  have hxl := (mem_boxS.1 hx).1
  rw [remL_len] at hxl
  have hsum := fun g : Pig → Int => sumOf_plus (f := g) (pigs := f.shop.pigs) (a := before) (b := x) (by rw [hxl, h.len])
  have h2 := sure_safe hf hs.1 hs.2.1 hs.2.2 (add := plus before x)
  unfold Rep at hr
  subst hr
  rw [← h2]
  unfold Fnd.chOK
  rw [Bool.and_comm]
  congr 1
  · rw [addL_eq]
    simp only [Fnd.sureP, hsum]
    congr 1
    · congr 1
      · congr 1
        · rw [decide_eq_decide, show f.shop.pounds + sumOf Pig.pounds f.shop.pigs before - c + sumOf Pig.pounds f.shop.pigs x - (s.dh - c) = f.shop.pounds + (sumOf Pig.pounds f.shop.pigs before + sumOf Pig.pounds f.shop.pigs x) - s.dh by omega, show s.tl + sumOf Pig.tin f.shop.pigs before - c + sumOf Pig.tin f.shop.pigs x - (s.dh - c) = s.tl + (sumOf Pig.tin f.shop.pigs before + sumOf Pig.tin f.shop.pigs x) - s.dh by omega]
        · rw [decide_eq_decide, show f.shop.pounds + sumOf Pig.pounds f.shop.pigs before - c + sumOf Pig.pounds f.shop.pigs x - (s.dl - c) = f.shop.pounds + (sumOf Pig.pounds f.shop.pigs before + sumOf Pig.pounds f.shop.pigs x) - s.dl by omega, show s.th + sumOf Pig.tin f.shop.pigs before - c + sumOf Pig.tin f.shop.pigs x - (s.dl - c) = s.th + (sumOf Pig.tin f.shop.pigs before + sumOf Pig.tin f.shop.pigs x) - s.dl by omega]
      · rw [decide_eq_decide, show f.shop.pounds + sumOf Pig.pounds f.shop.pigs before - c + sumOf Pig.pounds f.shop.pigs x - (s.dl - c) = f.shop.pounds + (sumOf Pig.pounds f.shop.pigs before + sumOf Pig.pounds f.shop.pigs x) - s.dl by omega, show s.al + sumOf Pig.ant f.shop.pigs before + sumOf Pig.ant f.shop.pigs x = s.al + (sumOf Pig.ant f.shop.pigs before + sumOf Pig.ant f.shop.pigs x) by omega]
    · rw [decide_eq_decide, show f.shop.pounds + sumOf Pig.pounds f.shop.pigs before - c + sumOf Pig.pounds f.shop.pigs x - (s.dh - c) = f.shop.pounds + (sumOf Pig.pounds f.shop.pigs before + sumOf Pig.pounds f.shop.pigs x) - s.dh by omega, show s.ah + sumOf Pig.ant f.shop.pigs before + sumOf Pig.ant f.shop.pigs x = s.ah + (sumOf Pig.ant f.shop.pigs before + sumOf Pig.ant f.shop.pigs x) by omega]
  · rw [addL_eq]
    simp only [Fnd.fitsP]
    rw [decide_eq_decide]
    omega
/-- What a list that may be added is. -/
theorem rowsS_box {f : Fnd} {s : Sp} {before x : List Int} (h : x ∈ f.rowsS s before) : x ∈ boxS (remL f before) := by
  unfold Fnd.rowsS at h
  rw [addsL_box] at h
  exact (List.mem_filter.1 (List.mem_filter.1 h).1).1
theorem BefOK.next {f : Fnd} {before left x : List Int} (hl : left.length = 4) (hp : f.shop.pigs.length ≤ 4) (h : BefOK f before left) (hx : x ∈ boxS (remL f before)) : BefOK f (plus before x) (takeL left x) := by
  obtain ⟨h1, h2⟩ := mem_boxS.1 hx
  rw [remL_len] at h1 h2
  refine ⟨by rw [plus_len, h.len], fun j hj => ?_, fun j hj => ?_⟩
  · rw [plus_len] at hj
    have h3 := h2 j (by have := h.len; omega)
    have h4 := h.pos j hj
    rw [nth_plus hj]; omega
  · rw [takeL_nth hl (by omega) (by omega), h.le j hj, nth_plus (by have := h.len; omega)]; omega
theorem Rep.next {f : Fnd} {p : Pt} {s : Sp} {before x : List Int} {c : Int} {n : Night} (hx : x.length = before.length) (h : Rep f p s before c) : Rep f ((p.addL f.shop.pigs x).lose n) { s with dl := s.dl + n.lo, dh := s.dh + n.hi } (plus before x) c := by
  have hsum := fun g : Pig → Int => sumOf_plus (f := g) (pigs := f.shop.pigs) (a := before) (b := x) hx
  unfold Rep at *
  subst h
  rw [addL_eq]
  simp only [Pt.lose, hsum, Pt.mk.injEq]
  refine ⟨?_, ?_, ?_, ?_, ?_, ?_, ?_⟩ <;> omega
/-- All safe plans from a night on, by the lists that can be added. -/
def spOf (f : Fnd) (night : Int) : Sp := ⟨f.shop.tl, f.shop.th, f.shop.al, f.shop.ah, loTo f.nights night.toNat, hiTo f.nights night.toNat⟩
theorem flatMap_if {α β : Type} {q : α → Bool} {G : α → List β} : ∀ l : List α, l.flatMap (fun x => if q x then G x else []) = (l.filter q).flatMap G
  | [] => rfl
  | x :: t => by
    rw [List.flatMap_cons, flatMap_if t, List.filter_cons]
    cases q x <;> simp
theorem plansR_succ {f : Fnd} {n : Nat} {night : Int} {before : List Int} : f.plansR (n + 1) night before = (f.rowsS (spOf f night) before).flatMap fun x => (f.plansR n (night + 1) (plus before x)).map (x :: ·) := by
  have h1 : ∀ x : List Int, flatTo (fun k : Nat => [x :: nth (f.plansR n (night + 1) (plus before x)) k]) (f.plansR n (night + 1) (plus before x)).length = (f.plansR n (night + 1) (plus before x)).map (x :: ·) := fun x => by
    rw [flatTo_list (f.plansR n (night + 1) (plus before x)) (fun y => [x :: y])]
    induction f.plansR n (night + 1) (plus before x) with
    | nil => rfl
    | cons a t ih => rw [List.flatMap_cons, ih]; rfl
  have h2 := flatTo_list (f.addsL before (loTo f.nights night.toNat)) (fun x => if f.safeOn f.shop.tl f.shop.th f.shop.al f.shop.ah (loTo f.nights night.toNat) (hiTo f.nights night.toNat) (plus before x) then (f.plansR n (night + 1) (plus before x)).map (x :: ·) else [])
  rw [flatMap_if] at h2
  unfold Fnd.rowsS spOf
  rw [← h2]
  simp only [Fnd.plansR, h1]
/-! ### The first one of the least -/
def stepM (c : List (List Int) → Int) (b : BestR) (x : List (List Int)) : BestR := if !b.2.2 || decide (c x < b.1) then (c x, x, true) else b
def fmin (c : List (List Int) → Int) (L : List (List (List Int))) : BestR := L.foldl (stepM c) (0, [], false)
def gcost (g : Int → List Int → Int) (pigs : List Pig) : List (List Int) → Int
  | [] => 0
  | r :: x => gcost g pigs x + g (sumOf Pig.pence pigs r) r
def comb (gr : Int) (r : List Int) (b m : BestR) : BestR := if m.2.2 && (!b.2.2 || decide (m.1 + gr < b.1)) then (m.1 + gr, r :: m.2.1, true) else b
theorem stepM_comb {c c' : List (List Int) → Int} {gr : Int} {r : List Int} (hc : ∀ x, c' (r :: x) = c x + gr) (b m : BestR) (x : List (List Int)) : stepM c' (comb gr r b m) (r :: x) = comb gr r b (stepM c m x) := by
  obtain ⟨v, y, s⟩ := m
  obtain ⟨u, z, t⟩ := b
  unfold stepM comb
  simp only [hc]
  cases s <;> cases t <;> simp
  · by_cases h1 : c x < v
    · simp [h1]
    · simp [h1]
  · by_cases h1 : c x < v
    · by_cases h2 : v + gr < u
      · simp [h1, h2, show c x + gr < u by omega]
      · by_cases h3 : c x + gr < u <;> simp [h1, h2, h3]
    · by_cases h2 : v + gr < u
      · simp [h1, h2]
      · simp [h1, h2, show ¬ c x + gr < u by omega]
theorem foldl_comb {c c' : List (List Int) → Int} {gr : Int} {r : List Int} (hc : ∀ x, c' (r :: x) = c x + gr) (b : BestR) : ∀ (K : List (List (List Int))) (m : BestR), (K.map (r :: ·)).foldl (stepM c') (comb gr r b m) = comb gr r b (K.foldl (stepM c) m)
  | [], _ => rfl
  | x :: K, m => by
    rw [List.map_cons, List.foldl_cons, List.foldl_cons, stepM_comb hc]
    exact foldl_comb hc b K _
theorem fmin_flat {c : List Int → List (List Int) → Int} {c' : List (List Int) → Int} {gr : List Int → Int} (hc : ∀ r x, c' (r :: x) = c r x + gr r) (K : List Int → List (List (List Int))) : ∀ (rows : List (List Int)) (b : BestR), (rows.flatMap fun r => (K r).map (r :: ·)).foldl (stepM c') b = rows.foldl (fun b r => comb (gr r) r b (fmin (c r) (K r))) b
  | [], _ => rfl
  | r :: rows, b => by
    have h : comb (gr r) r b (0, [], false) = b := by simp [comb]
    rw [List.flatMap_cons, List.foldl_append, List.foldl_cons]
    have := foldl_comb (c := c r) (c' := c') (hc r) b (K r) (0, [], false)
    rw [h] at this
    rw [this]
    exact fmin_flat hc K rows _
theorem takeL_len {left x : List Int} : (takeL left x).length = left.length := takeTo_len _ _ _
theorem bestW_eq {f : Fnd} (hf : f.chk = true) (g : Int → List Int → Int) : ∀ (n : Nat) (night : Nat) (p : Pt) (before left : List Int), night + n = f.nights.length → left.length = 4 → BefOK f before left → Rep f p (spOf f night) before 0 →
    f.bestW g n night p left = fmin (gcost g f.shop.pigs) (f.plansR n night before)
  | 0, _, _, _, _, _, _, _, _ => by
    simp [Fnd.bestW, Fnd.plansR, fmin, stepM, gcost]
  | n + 1, night, p, before, left, hn, hl, hb, hr => by
    have hp4 := (Shop.pigsOK (Fnd.shopOK hf)).2
    have hlh := lohi_bnd (Fnd.nightsOK hf) night (by omega)
    have hsp := tl_bnd (Fnd.shopOK hf)
    have hs : SpLe (spOf f night) := by unfold SpLe spOf; simp only [Int.toNat_natCast]; omega
    have e3 : ((night : Int) + 1) = ((night + 1 : Nat) : Int) := by omega
    rw [plansR_succ, fmin]
    rw [fmin_flat (c := fun _ => gcost g f.shop.pigs) (gr := fun r => g (sumOf Pig.pence f.shop.pigs r) r) (fun r x => rfl)]
    simp only [Fnd.bestW]
    rw [chL_eq hf hl hb hr hs]
    rw [toFold (F := bestRows g f.shop.pigs (fun r => f.bestW g n ((night : Int) + 1) ((p.addL f.shop.pigs r).lose (nth f.nights (night : Int))) (takeL left r)) (f.rowsS (spOf f night) before)) (step := bestRow g f.shop.pigs (fun r => f.bestW g n ((night : Int) + 1) ((p.addL f.shop.pigs r).lose (nth f.nights (night : Int))) (takeL left r))) (fun i _ => rfl)]
    show List.foldl _ (0, [], false) _ = _
    refine foldl_congr' fun x hx b => ?_
    have hbx := rowsS_box hx
    have hxl := (mem_boxS.1 hbx).1
    rw [remL_len] at hxl
    have hrn := Rep.next (n := nth f.nights (night : Int)) (x := x) (by rw [hxl, hb.len]) hr
    have hspn : ({ spOf f night with dl := (spOf f night).dl + (nth f.nights (night : Int)).lo, dh := (spOf f night).dh + (nth f.nights (night : Int)).hi } : Sp) = spOf f ((night + 1 : Nat) : Int) := by
      simp only [spOf, Int.toNat_natCast, loTo, hiTo]
    rw [hspn] at hrn
    have ih := bestW_eq hf g n (night + 1) ((p.addL f.shop.pigs x).lose (nth f.nights (night : Int))) (plus before x) (takeL left x) (by omega) (by rw [takeL_len, hl]) (hb.next hl hp4 hbx) hrn
    simp only [bestRow, comb, e3, ih]
theorem bef0 {f : Fnd} (hp : f.shop.pigs.length ≤ 4) : BefOK f f.zeros (left0 f.shop.pigs) := by
  refine ⟨zeros_len f, fun j _ => ?_, fun j hj => ?_⟩
  · unfold Fnd.zeros; rw [nth_rep]; omega
  · unfold Fnd.zeros; rw [left0_nth hp hj, nth_rep]; omega
theorem rep0 {f : Fnd} : Rep f f.pt0 (spOf f ((0 : Nat) : Int)) f.zeros 0 := by
  unfold Rep Fnd.zeros spOf Fnd.pt0
  simp only [sumOf_zero, Int.toNat_natCast, loTo, hiTo, Pt.mk.injEq]
  refine ⟨?_, ?_, ?_, ?_, ?_, ?_, ?_⟩ <;> omega
theorem bestF_eq {f : Fnd} (hf : f.chk = true) (g : Int → List Int → Int) : f.bestF g = fmin (gcost g f.shop.pigs) f.allPlans := by
  have hpg := Shop.pigsOK (Fnd.shopOK hf)
  exact bestW_eq hf g f.nights.length 0 f.pt0 f.zeros (left0 f.shop.pigs) (by omega) (left0_b hpg).1 (bef0 hpg.2) rep0
/-! ### What costs the least -/
theorem fmin_is (c : List (List Int) → Int) (L : List (List (List Int))) : (fmin c L).2.2 = decide (0 < L.length) := by
  have key : ∀ (L : List (List (List Int))) (b : BestR), (L.foldl (stepM c) b).2.2 = (b.2.2 || decide (0 < L.length)) := by
    intro L
    induction L with
    | nil => intro b; simp
    | cons x t ih =>
      intro b
      rw [List.foldl_cons, ih]
      unfold stepM
      by_cases h : (!b.2.2 || decide (c x < b.1)) = true
      · rw [if_pos h]; simp
      · rw [if_neg h]; cases hb : b.2.2 <;> simp_all
  unfold fmin
  rw [key]; simp
theorem fmin_cons {c : List (List Int) → Int} {x : List (List Int)} {t : List (List (List Int))} : fmin c (x :: t) = t.foldl (stepM c) (c x, x, true) := by
  simp [fmin, stepM]
/-- The first of the least, as the document takes it. -/
theorem fmin_best {c c2 : List (List Int) → Int} {L : List (List (List Int))} (h : 0 < L.length) (hc : ∀ x ∈ L, c x = c2 x) : fmin c L = (c2 (bestTo c2 L L.length), bestTo c2 L L.length, true) := by
  match L, h with
  | x :: t, _ =>
    have h1 : bestTo c2 (x :: t) (x :: t).length = (x :: t).foldl (fun b y => if c2 y < c2 b then y else b) x := toFold (F := bestTo c2 (x :: t)) (fun i _ => rfl)
    rw [h1, List.foldl_cons, if_neg (by omega), fmin_cons]
    have key : ∀ (t : List (List (List Int))) (b : List (List Int)), (∀ y ∈ t, c y = c2 y) → t.foldl (stepM c) (c2 b, b, true) = (c2 (t.foldl (fun b y => if c2 y < c2 b then y else b) b), t.foldl (fun b y => if c2 y < c2 b then y else b) b, true) := by
      intro t
      induction t with
      | nil => intro b _; rfl
      | cons y t ih =>
        intro b hy
        rw [List.foldl_cons, List.foldl_cons]
        have h2 : stepM c (c2 b, b, true) y = (c2 (if c2 y < c2 b then y else b), if c2 y < c2 b then y else b, true) := by
          simp only [stepM, hy y List.mem_cons_self, Bool.not_true, Bool.false_or, decide_eq_true_eq]
          split <;> rfl
        rw [h2]
        exact ih _ fun z hz => hy z (List.mem_cons_of_mem _ hz)
    rw [hc x List.mem_cons_self]
    exact key t x fun y hy => hc y (List.mem_cons_of_mem _ hy)
theorem fmin_minTo {c c2 : List (List Int) → Int} {L : List (List (List Int))} (h : 0 < L.length) (hc : ∀ x ∈ L, c x = c2 x) : (fmin c L).1 = minTo c2 L L.length := by
  rw [fmin_best h hc]
  match L, h with
  | x :: t, _ =>
    have h1 : bestTo c2 (x :: t) (x :: t).length = (x :: t).foldl (fun b y => if c2 y < c2 b then y else b) x := toFold (F := bestTo c2 (x :: t)) (fun i _ => rfl)
    have h2 : minTo c2 (x :: t) (x :: t).length = (x :: t).foldl (fun b y => min b (c2 y)) (c2 x) := toFold (F := minTo c2 (x :: t)) (fun i _ => rfl)
    rw [h1, h2]
    have key : ∀ (t : List (List (List Int))) (b : List (List Int)), c2 (t.foldl (fun b y => if c2 y < c2 b then y else b) b) = t.foldl (fun b y => min b (c2 y)) (c2 b) := by
      intro t
      induction t with
      | nil => intro b; rfl
      | cons y t ih =>
        intro b
        rw [List.foldl_cons, List.foldl_cons, ih]
        congr 1
        split <;> omega
    exact key (x :: t) x
theorem costTo_cons {s : Shop} {r : List Int} {x : List (List Int)} : ∀ i : Nat, s.costTo (r :: x) (i + 1) = sumOf Pig.pence s.pigs r + s.costTo x i
  | 0 => by simp [Shop.costTo, nth]
  | i + 1 => by
    rw [Shop.costTo, costTo_cons i, Shop.costTo, nth_cons_succ]; omega
theorem gcost_cost {s : Shop} : ∀ x : List (List Int), gcost costG s.pigs x = s.cost x
  | [] => rfl
  | r :: x => by
    rw [gcost, gcost_cost x]
    unfold Shop.cost
    rw [List.length_cons, costTo_cons]
    simp only [costG]; omega
theorem addsTo_cons {r : List Int} {x : List (List Int)} : ∀ i : Nat, addsTo (r :: x) (i + 1) = (if 0 < sumI r r.length then 1 else 0) + addsTo x i
  | 0 => by simp [addsTo, nth]
  | i + 1 => by
    rw [addsTo, addsTo_cons i, addsTo, nth_cons_succ]
    split <;> omega
theorem findTo_spec {q : Int → Bool} {l : List Int} : ∀ n : Nat, (0 ≤ findTo q l n ↔ ∃ j : Nat, j < n ∧ q (nth l j) = true) ∧ -1 ≤ findTo q l n
  | 0 => by simp only [findTo]; exact ⟨⟨fun h => by omega, fun ⟨j, h, _⟩ => by omega⟩, by omega⟩
  | n + 1 => by
    have ih := findTo_spec (q := q) (l := l) n
    simp only [findTo]
    by_cases h : findTo q l n = -1
    · rw [if_pos h]
      have hn : ¬ ∃ j : Nat, j < n ∧ q (nth l j) = true := fun g => by have := ih.1.2 g; omega
      by_cases hq : q (nth l (n : Int)) = true
      · rw [if_pos hq]
        exact ⟨⟨fun _ => ⟨n, by omega, hq⟩, fun _ => by omega⟩, by omega⟩
      · rw [if_neg hq]
        refine ⟨⟨fun g => by omega, fun ⟨j, h1, h2⟩ => ?_⟩, by omega⟩
        by_cases e : j = n
        · subst e; exact absurd h2 hq
        · exact absurd ⟨j, by omega, h2⟩ hn
    · rw [if_neg h]
      obtain ⟨j, h1, h2⟩ := ih.1.1 (by omega)
      exact ⟨⟨fun _ => ⟨j, by omega, h2⟩, fun _ => by omega⟩, ih.2⟩
theorem sumI_pos {l : List Int} (hl : nonneg l) : ∀ n : Nat, n ≤ l.length → 0 ≤ sumI l n ∧ (0 < sumI l n ↔ ∃ j : Nat, j < n ∧ 0 < nth l j)
  | 0, _ => ⟨by simp [sumI], by simp only [sumI]; exact ⟨fun h => by omega, fun ⟨j, h, _⟩ => by omega⟩⟩
  | n + 1, hn => by
    have ih := sumI_pos hl n (by omega)
    have h0 := hl n (by omega)
    simp only [sumI]
    refine ⟨by omega, fun h => ?_, fun ⟨j, h1, h2⟩ => ?_⟩
    · by_cases h2 : 0 < nth l (n : Int)
      · exact ⟨n, by omega, h2⟩
      · obtain ⟨j, h3, h4⟩ := ih.2.1 (by omega)
        exact ⟨j, by omega, h4⟩
    · by_cases e : j = n
      · subst e; omega
      · have := ih.2.2 ⟨j, by omega, h2⟩; omega
theorem onceG_eq {a : Int} {l : List Int} (hl : nonneg l) : onceG a l = if 0 < sumI l l.length then 1 else 0 := by
  have h1 := (findTo_spec (q := fun n => decide (0 < n)) (l := l) l.length).1
  have h2 := (sumI_pos hl l.length (Nat.le_refl _)).2
  unfold onceG findI
  by_cases h : 0 < sumI l l.length
  · rw [if_pos h, if_pos (h1.2 (by simpa using h2.1 h))]
  · rw [if_neg h, if_neg (fun g => h (h2.2 (by simpa using h1.1 g)))]
theorem gcost_once {pigs : List Pig} : ∀ x : List (List Int), (∀ i : Nat, i < x.length → nonneg (nth x i)) → gcost onceG pigs x = addsTo x x.length
  | [], _ => rfl
  | r :: x, h => by
    rw [gcost, gcost_once x (fun i hi => by have := h (i + 1) (by simpa using hi); rwa [nth_cons_succ] at this), List.length_cons, addsTo_cons]
    rw [onceG_eq (show nonneg r from h 0 (by simp))]
    omega
theorem leastE_eq {f : Fnd} {g : Int → List Int → Int} : f.leastE g = f.plansE := by
  unfold Fnd.leastE Fnd.plansE
  cases hf : f.chk with
  | false => rfl
  | true =>
    rw [bestF_eq hf, fmin_is]
    simp only [if_true, decide_eq_true_eq]
    by_cases h : f.allPlans.length = 0
    · rw [if_pos h, if_neg (by omega)]
    · rw [if_neg h, if_pos (by omega)]
theorem plan_nonneg {f : Fnd} (hf : f.chk = true) {x : List (List Int)} (hx : x ∈ f.allPlans) (i : Nat) (hi : i < x.length) : nonneg (nth x i) := fun j hj => (((allPlans_mem hf hx).2.2 i hi).2 j hj).1
/-- Cheap, Plan and Once are as the document says. -/
theorem cheapLaw (f : Fnd) : CheapLaw f := by
  have hE := fun g => leastE_eq (f := f) (g := g)
  refine ⟨hE _, ?_, ?_, hE _, ?_⟩
  · unfold Fnd.leastV Fnd.cheapV
    rw [hE]
    split
    · rename_i h
      obtain ⟨hf, hl⟩ := plansE_eq h
      rw [bestF_eq hf, fmin_best hl (c2 := f.shop.cost) (fun x _ => gcost_cost x)]; rfl
    · rfl
  · unfold Fnd.wPlanV Fnd.planV
    rw [hE]
    split
    · rename_i h
      obtain ⟨hf, hl⟩ := plansE_eq h
      rw [bestF_eq hf, fmin_best hl (c2 := f.shop.cost) (fun x _ => gcost_cost x)]; rfl
    · rfl
  · unfold Fnd.leastV Fnd.onceV
    rw [hE]
    split
    · rename_i h
      obtain ⟨hf, hl⟩ := plansE_eq h
      rw [bestF_eq hf, fmin_minTo hl (c2 := fun p => addsTo p p.length) (fun x hx => gcost_once x (plan_nonneg hf hx))]
    · rfl
end Go.Flong
namespace Go.Flong
open Go Go.Eng
theorem iter_congr {σ : Type} {f g : Nat → σ → σ} {s : σ} : ∀ {n : Nat}, (∀ i x, i < n → f i x = g i x) → iter f s n = iter g s n
  | 0, _ => rfl
  | n + 1, h => by
    rw [show iter f s (n + 1) = f n (iter f s n) from rfl, show iter g s (n + 1) = g n (iter g s n) from rfl, iter_congr (fun i x hi => h i x (by omega)), h n _ (by omega)]
theorem worst3_congr {g h : Int → Int → Int → Int} {s s' : Sp} (ht : s'.th - s'.tl = s.th - s.tl) (ha : s'.ah - s'.al = s.ah - s.al) (hd : s'.dh - s'.dl = s.dh - s.dl)
    (H : ∀ i j k : Nat, (i : Int) ≤ s.th - s.tl → (j : Int) ≤ s.ah - s.al → (k : Int) ≤ s.dh - s.dl → g (s'.tl + i) (s'.al + j) (s'.dl + k) = h (s.tl + i) (s.al + j) (s.dl + k)) : worst3 g s' = worst3 h s := by
  unfold worst3
  rw [ht, ha, hd]
  refine iter_congr fun i x hi => iter_congr fun j y hj => iter_congr fun k z hk => ?_
  rw [H i j k (by omega) (by omega) (by omega)]
/-- Behind the analysis, out of the lists that can be added. -/
theorem beh_fold {f : Fnd} {nx : Sp → List Int → Int} {night : Int} {s : Sp} {before : List Int} : f.beh nx night s before =
    min ((f.rowsS s before).foldl (fun w r => min w (sumOf Pig.pence f.shop.pigs r + nx { s with dl := s.dl + (nth f.nights night).lo, dh := s.dh + (nth f.nights night).hi } (plus before r))) neverC) neverC := by
  unfold Fnd.beh Fnd.rowsS
  rw [List.foldl_filter]
  congr 1
  exact toFold (F := f.behTo nx night s before) (fun i _ => rfl)
theorem Rep.one {f : Fnd} {p : Pt} {s : Sp} {before : List Int} {c : Int} (h : Rep f p s before c) (i j k : Nat) : Rep f (p.one (p.tl + i) (p.al + j) (p.dl + k)) ⟨s.tl + i, s.tl + i, s.al + j, s.al + j, s.dl + k, s.dl + k⟩ before (c + (p.dl + k)) := by
  unfold Rep at *
  subst h
  simp only [Pt.mk.injEq]
  refine ⟨?_, ?_, ?_, ?_, ?_, ?_, ?_⟩ <;> omega
/-- Behind the analysis the program reckons as the document does, if it does so from the next night on. -/
theorem chW_beh {f : Fnd} (hf : f.chk = true) {n night : Nat} (hn : night < f.nights.length)
    (ih : ∀ (p : Pt) (s : Sp) (before left : List Int) (c : Int), left.length = 4 → BefOK f before left → Rep f p s before c → SpLe s → f.ahW n ((night : Int) + 1) p left = f.now n ((night : Int) + 1) s before)
    {p : Pt} {s : Sp} {before left : List Int} {c : Int} (hl : left.length = 4) (hb : BefOK f before left) (hr : Rep f p s before c) (hs : SpLe s) : f.chW (n + 1) night p left = f.beh (f.now n ((night : Int) + 1)) night s before := by
  have hp4 := (Shop.pigsOK (Fnd.shopOK hf)).2
  rw [beh_fold]
  simp only [Fnd.chW]
  rw [chL_eq hf hl hb hr hs]
  congr 1
  rw [toFold (F := chRows f.shop.pigs (fun r => f.aheadOf (fun q => f.chW n ((night : Int) + 1) q (takeL left r)) ((night : Int) + 1) ((p.addL f.shop.pigs r).lose (nth f.nights (night : Int)))) (f.rowsS s before)) (step := fun w r => min w (sumOf Pig.pence f.shop.pigs r + f.aheadOf (fun q => f.chW n ((night : Int) + 1) q (takeL left r)) ((night : Int) + 1) ((p.addL f.shop.pigs r).lose (nth f.nights (night : Int))))) (fun i _ => rfl)]
  show List.foldl _ neverC _ = _
  refine foldl_congr' fun x hx b => ?_
  have hbx := rowsS_box hx
  have hxl := (mem_boxS.1 hbx).1
  rw [remL_len] at hxl
  have hnb := Night.bnds ((Fnd.nightsOK hf).at hn)
  have := ih ((p.addL f.shop.pigs x).lose (nth f.nights (night : Int))) _ (plus before x) (takeL left x) c (by rw [takeL_len, hl]) (hb.next hl hp4 hbx) (Rep.next (n := nth f.nights (night : Int)) (by rw [hxl, hb.len]) hr) (by
    unfold SpLe at *; simp only []; omega)
  rw [← this]; rfl
theorem ahW_now {f : Fnd} (hf : f.chk = true) : ∀ (n night : Nat), night + n = f.nights.length → ∀ (p : Pt) (s : Sp) (before left : List Int) (c : Int), left.length = 4 → BefOK f before left → Rep f p s before c → SpLe s → f.ahW n night p left = f.now n night s before
  | 0, night, hn, p, s, before, left, c, hl, hb, hr, hs => by
    unfold Fnd.ahW Fnd.aheadOf
    rw [if_pos (.inl (by omega))]; rfl
  | n + 1, night, hn, p, s, before, left, c, hl, hb, hr, hs => by
    have ih : ∀ (p : Pt) (s : Sp) (before left : List Int) (c : Int), left.length = 4 → BefOK f before left → Rep f p s before c → SpLe s → f.ahW n ((night : Int) + 1) p left = f.now n ((night : Int) + 1) s before := fun p s before left c a1 a2 a3 a4 => by
      have := ahW_now hf n (night + 1) (by omega) p s before left c a1 a2 a3 a4
      rwa [show ((night + 1 : Nat) : Int) = (night : Int) + 1 by omega] at this
    unfold Fnd.ahW Fnd.aheadOf
    simp only [Fnd.now]
    by_cases ht : (nth f.nights (night : Int)).test = 0
    · rw [if_pos (.inr ht), if_pos ht]
      exact chW_beh hf (by omega) ih hl hb hr hs
    · rw [if_neg (by rintro (h | h); omega; exact ht h), if_neg ht]
      have hr2 := hr
      unfold Rep at hr2
      refine worst3_congr (by rw [hr2]; simp only []; omega) (by rw [hr2]; simp only []; omega) (by rw [hr2]; simp only []; omega) fun i j k _ _ _ => ?_
      exact chW_beh hf (by omega) ih hl hb (hr.one i j k) ⟨Int.le_refl _, Int.le_refl _, Int.le_refl _⟩
theorem wKnownN_eq {f : Fnd} (hf : f.chk = true) : f.wKnownN = f.knownN := by
  have hpg := Shop.pigsOK (Fnd.shopOK hf)
  have hb := tl_bnd (Fnd.shopOK hf)
  refine ahW_now hf f.nights.length 0 (by omega) f.pt0 _ f.zeros (left0 f.shop.pigs) 0 (left0_b hpg).1 (bef0 hpg.2) ?_ ?_
  · have := rep0 (f := f)
    unfold spOf at this
    exact this
  · unfold SpLe; simp only []; omega
theorem wKnownE_eq {f : Fnd} : f.wKnownE = f.knownE := by
  unfold Fnd.wKnownE Fnd.knownE
  cases hf : f.chk with
  | false => rfl
  | true => rw [wKnownN_eq hf]
theorem knownE_chk {f : Fnd} (h : f.knownE = 0) : f.chk = true := by
  unfold Fnd.knownE at h
  cases hc : f.chk with
  | true => rfl
  | false => rw [hc] at h; simp at h
theorem wKnownV_eq {f : Fnd} : f.wKnownV = f.knownV := by
  unfold Fnd.wKnownV Fnd.knownV
  rw [wKnownE_eq]
  split
  · rename_i h; exact wKnownN_eq (knownE_chk h)
  · rfl
theorem askTo_rel {f : Fnd} (hf : f.chk = true) : ∀ i : Nat, i ≤ f.nights.length → (f.wAskTo i = (-1, neverC) ∧ f.askTo i = (0, neverC)) ∨ (f.wAskTo i = f.askTo i ∧ 0 ≤ (f.askTo i).1 ∧ (f.askTo i).2 < neverC)
  | 0, _ => .inl ⟨rfl, rfl⟩
  | i + 1, hi => by
    have ih := askTo_rel hf i (by omega)
    have hc := tested_chk hf (show i < f.nights.length by omega)
    simp only [Fnd.wAskTo, Fnd.askTo]
    by_cases ht : (nth f.nights (i : Int)).test = 1
    · rw [if_pos ht, if_pos ht]; exact ih
    · rw [if_neg ht, if_neg ht]
      have e2 : (f.wAskTo i).2 = (f.askTo i).2 ∧ (f.askTo i).2 ≤ neverC := by
        rcases ih with ⟨h1, h2⟩ | ⟨h1, h2, h3⟩
        · rw [h1, h2]; exact ⟨rfl, Int.le_refl _⟩
        · rw [h1]; exact ⟨rfl, by omega⟩
      rw [wKnownE_eq, wKnownV_eq, e2.1]
      have key : ((f.tested i).knownE = 0 ∧ (f.tested i).knownV < (f.askTo i).2) ↔ (f.tested i).knownN < (f.askTo i).2 := by
        unfold Fnd.knownV Fnd.knownE
        rw [hc]
        simp only [if_true]
        by_cases hk : (f.tested i).knownN ≥ neverC
        · rw [if_pos hk]
          constructor
          · rintro ⟨h, _⟩; omega
          · intro h; omega
        · rw [if_neg hk]; simp
      by_cases hlt : (f.tested i).knownN < (f.askTo i).2
      · rw [if_pos (key.2 hlt), if_pos hlt]
        have hv : (f.tested i).knownV = (f.tested i).knownN := by
          have := (key.2 hlt).1
          unfold Fnd.knownV; rw [if_pos this]
        rw [hv]
        exact .inr ⟨rfl, by simp only []; omega, by simp only []; omega⟩
      · rw [if_neg (fun h => hlt (key.1 h)), if_neg hlt]; exact ih
/-- Known, Worth and Ask are as the document says. -/
theorem knownLaw (f : Fnd) : KnownLaw f := by
  have hwe : f.wWorthE = f.worthE := by unfold Fnd.wWorthE Fnd.worthE; rw [leastE_eq, wKnownE_eq]
  have hae : f.wAskE = f.askE := by
    unfold Fnd.wAskE Fnd.askE
    cases hf : f.chk with
    | false => rfl
    | true =>
      simp only [if_true]
      rcases askTo_rel hf f.nights.length (Nat.le_refl _) with ⟨h1, h2⟩ | ⟨h1, h2, h3⟩
      · rw [h1, h2]; simp
      · rw [h1, if_neg (by omega), if_neg (by omega)]
  refine ⟨wKnownE_eq, wKnownV_eq, hwe, ?_, hae, ?_⟩
  · unfold Fnd.wWorthV Fnd.worthV
    rw [hwe, wKnownV_eq, (cheapLaw f).c]
  · unfold Fnd.wAskV Fnd.askV
    rw [hae]
    split
    · rename_i h
      have hf : f.chk = true := by
        unfold Fnd.askE at h
        cases hc : f.chk with
        | true => rfl
        | false => rw [hc] at h; simp at h
      unfold Fnd.askE at h
      rw [hf] at h
      simp only [if_true] at h
      rcases askTo_rel hf f.nights.length (Nat.le_refl _) with ⟨h1, h2⟩ | ⟨h1, h2, h3⟩
      · rw [h2] at h; simp at h
      · rw [h1]
    · rfl
end Go.Flong
