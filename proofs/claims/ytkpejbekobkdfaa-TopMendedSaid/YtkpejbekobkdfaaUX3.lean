/- Part 3 of the texts behind the claim: LawB LawC Base11 LawD EngZa Cmp MB1 LawM1 LawE MB2 MB3 EngZd MB4 MB6 MB7 MB8 MB10 MB12 MN1 WM1 KTW1 KTW3 KTW4. -/
import Derived.Test.YtkpejbekobkdfaaUX2
set_option linter.unusedSimpArgs false
set_option linter.unusedVariables false
namespace Go.Flong
open Go Go.Eng
theorem flatTo_range {α : Type} (g : Nat → List α) : ∀ n : Nat, flatTo g n = (List.range n).flatMap g
  | 0 => rfl
  | n + 1 => by rw [flatTo, flatTo_range g n, List.range_succ, List.flatMap_append]; simp
theorem flatTo_list {α β : Type} [Inhabited α] (l : List α) (G : α → List β) : flatTo (fun i : Nat => G (nth l i)) l.length = l.flatMap G := by
  have key : ∀ k : Nat, k ≤ l.length → flatTo (fun i : Nat => G (nth l i)) k = (l.take k).flatMap G := by
    intro k
    induction k with
    | zero => intro _; simp [flatTo]
    | succ k ih => intro hk; rw [flatTo, ih (by omega), take_nth_succ (by omega), List.flatMap_append]; simp
  rw [key _ (Nat.le_refl _), List.take_length]
theorem toFold {α σ : Type} [Inhabited α] {F : Nat → σ} {step : σ → α → σ} {l : List α} (hs : ∀ i : Nat, i < l.length → F (i + 1) = step (F i) (nth l i)) : F l.length = l.foldl step (F 0) := by
  have key : ∀ k : Nat, k ≤ l.length → F k = (l.take k).foldl step (F 0) := by
    intro k
    induction k with
    | zero => intro _; simp
    | succ k ih => intro hk; rw [hs k (by omega), ih (by omega), take_nth_succ (by omega), List.foldl_append]; simp
  rw [key _ (Nat.le_refl _), List.take_length]
theorem foldl_congr' {α σ : Type} {f g : σ → α → σ} : ∀ {l : List α} {s : σ}, (∀ x ∈ l, ∀ b, f b x = g b x) → l.foldl f s = l.foldl g s
  | [], _, _ => rfl
  | x :: t, s, h => by
    rw [List.foldl_cons, List.foldl_cons, h x List.mem_cons_self]
    exact foldl_congr' fun y hy => h y (List.mem_cons_of_mem _ hy)
theorem nth_cons_succ {α : Type} [Inhabited α] {b : α} {t : List α} {j : Nat} : nth (b :: t) ((j + 1 : Nat) : Int) = nth t (j : Int) := by
  have e : ((j + 1 : Nat) : Int).toNat = j + 1 := by omega
  have e2 : ((j : Nat) : Int).toNat = j := by omega
  simp only [nth, e, e2, List.getD_cons_succ]
theorem nth_cons_zero {α : Type} [Inhabited α] {b : α} {t : List α} : nth (b :: t) ((0 : Nat) : Int) = b := rfl
theorem nth_ext {a b : List Int} (hl : a.length = b.length) (h : ∀ j : Nat, j < a.length → nth a j = nth b j) : a = b :=
  List.ext_getElem hl fun j h1 h2 => by
    have := h j h1
    rwa [nthN h1, nthN h2] at this
def remL (f : Fnd) (before : List Int) : List Int := (List.range f.shop.pigs.length).map fun j : Nat => (nth f.shop.pigs j).many - nth before j
theorem addsR_box {f : Fnd} {before : List Int} {d : Int} : ∀ (n : Nat) (first r : List Int), r.length = n → (∀ j : Nat, j < n → nth r j = (nth f.shop.pigs ((first.length + j : Nat) : Int)).many - nth before ((first.length + j : Nat) : Int)) →
    f.addsR before d n first = ((boxS r).map (first ++ ·)).filter fun x => isAdd (f.less d) (plus before x)
  | 0, first, r, hr, _ => by
    rw [List.eq_nil_of_length_eq_zero hr]
    simp only [Fnd.addsR, boxS, List.map_cons, List.map_nil, List.append_nil, List.filter_cons, List.filter_nil]
  | n + 1, first, b :: t, hr, h => by
    have h0 := h 0 (by omega)
    rw [nth_cons_zero] at h0
    simp only [Nat.add_zero] at h0
    simp only [Fnd.addsR, boxS]
    rw [flatTo_range, ← h0, List.map_flatMap, List.filter_flatMap]
    congr 1
    funext j
    rw [addsR_box n (first ++ [(j : Int)]) t (by simpa using hr) (fun k hk => ?_)]
    · rw [List.map_map]
      congr 2
      funext x
      simp
    · have := h (k + 1) (by omega)
      rw [nth_cons_succ] at this
      rw [this]
      simp only [List.length_append, List.length_cons, List.length_nil]
      congr 3 <;> omega
  | n + 1, first, [], hr, _ => by simp at hr
theorem remL_len (f : Fnd) (before : List Int) : (remL f before).length = f.shop.pigs.length := by simp [remL]
theorem remL_nth {f : Fnd} {before : List Int} {j : Nat} (hj : j < f.shop.pigs.length) : nth (remL f before) j = (nth f.shop.pigs j).many - nth before j := by
  rw [nthN (by rw [remL_len]; exact hj)]; simp [remL]
theorem addsL_box {f : Fnd} {before : List Int} {d : Int} : f.addsL before d = (boxS (remL f before)).filter fun x => isAdd (f.less d) (plus before x) := by
  rw [Fnd.addsL, addsR_box _ [] (remL f before) (remL_len f before) (fun j hj => by rw [remL_nth hj]; simp)]
  simp
theorem mem_boxS : ∀ {r x : List Int}, x ∈ boxS r ↔ x.length = r.length ∧ ∀ j : Nat, j < r.length → 0 ≤ nth x j ∧ nth x j ≤ nth r j
  | [], x => by
    simp only [boxS, List.mem_singleton, List.length_nil]
    constructor
    · rintro rfl; exact ⟨rfl, fun j hj => absurd hj (by omega)⟩
    · intro h; exact List.eq_nil_of_length_eq_zero h.1
  | b :: t, x => by
    constructor
    · intro h; exact ⟨boxS_len _ h, boxS_bnd h⟩
    · rintro ⟨h1, h2⟩
      match x, h1 with
      | y :: ys, h1 =>
        have h0 := h2 0 (by simp)
        rw [nth_cons_zero, nth_cons_zero] at h0
        simp only [boxS, List.mem_flatMap, List.mem_map, List.mem_range]
        refine ⟨y.toNat, by omega, ys, mem_boxS.2 ⟨by simpa using h1, fun j hj => ?_⟩, by rw [Int.toNat_of_nonneg h0.1]⟩
        have := h2 (j + 1) (by simpa using hj)
        rwa [nth_cons_succ, nth_cons_succ] at this
def nonneg (l : List Int) : Prop := ∀ j : Nat, j < l.length → 0 ≤ nth l j
structure BefOK (f : Fnd) (before left : List Int) : Prop where
  len : before.length = f.shop.pigs.length
  pos : nonneg before
  le : ∀ j : Nat, j < f.shop.pigs.length → nth left j = (nth f.shop.pigs j).many - nth before j
def Rep (f : Fnd) (p : Pt) (s : Sp) (before : List Int) (c : Int) : Prop :=
  p = ⟨f.shop.pounds + sumOf Pig.pounds f.shop.pigs before - c, s.tl + sumOf Pig.tin f.shop.pigs before - c, s.th + sumOf Pig.tin f.shop.pigs before - c, s.al + sumOf Pig.ant f.shop.pigs before, s.ah + sumOf Pig.ant f.shop.pigs before, s.dl - c, s.dh - c⟩
def SpLe (s : Sp) : Prop := s.tl ≤ s.th ∧ s.al ≤ s.ah ∧ s.dl ≤ s.dh
def Fnd.rowsS (f : Fnd) (s : Sp) (before : List Int) : List (List Int) := (f.addsL before s.dl).filter fun x => f.safeOn s.tl s.th s.al s.ah s.dl s.dh (plus before x)
theorem isAdd_box {f : Fnd} {before x : List Int} {d : Int} (hb : before.length = f.shop.pigs.length) (hp : nonneg before) (hx : x ∈ boxS (remL f before)) : isAdd (f.less d) (plus before x) = decide (f.shop.pounds - d + (sumOf Pig.pounds f.shop.pigs before + sumOf Pig.pounds f.shop.pigs x) ≤ f.shop.room) := by
  obtain ⟨h1, h2⟩ := mem_boxS.1 hx
  rw [remL_len] at h1 h2
  have e1 : decide (((plus before x).length : Int) = (f.less d).pigs.length) = true := by
    rw [plus_len, decide_eq_true_eq, hb]; rfl
  have e2 : allI (fitsMany (f.less d).pigs (plus before x)) (plus before x).length = true := allI_iff.2 fun j hj => by
    rw [plus_len] at hj
    have h3 := h2 j (by omega)
    rw [remL_nth (by omega)] at h3
    have h4 := hp j hj
    simp only [fitsMany, within, Bool.and_eq_true, decide_eq_true_eq]
    rw [nth_plus hj]
    show _ ∧ _ ≤ (nth f.shop.pigs j).many
    omega
  unfold isAdd
  rw [e1, e2, Bool.true_and, Bool.true_and]
  show decide (f.shop.pounds - d + sumOf Pig.pounds f.shop.pigs (plus before x) ≤ f.shop.room) = _
  rw [sumOf_plus (by omega)]
theorem chBox_eq {f : Fnd} {before left : List Int} (hl : left.length = 4) (hp : f.shop.pigs.length ≤ 4) (h : BefOK f before left) : f.chBox left = boxS (remL f before) := by
  unfold Fnd.chBox
  congr 1
  refine nth_ext (by rw [List.length_take, remL_len, hl]; omega) fun j hj => ?_
  rw [List.length_take, hl] at hj
  rw [take_nth (by omega) (by omega), h.le j (by omega), remL_nth (by omega)]
theorem chL_eq {f : Fnd} (hf : f.chk = true) {p : Pt} {s : Sp} {before left : List Int} {c : Int} (hl : left.length = 4) (h : BefOK f before left) (hr : Rep f p s before c) (hs : SpLe s) : f.chL p left = f.rowsS s before := by
  have hp4 := (Shop.pigsOK (Fnd.shopOK hf)).2
  rw [Fnd.chL, Fnd.rowsS, chBox_eq hl hp4 h, addsL_box, List.filter_filter]
  refine List.filter_congr fun x hx => ?_
  rw [isAdd_box h.len h.pos hx]
  have hxl := (mem_boxS.1 hx).1
  rw [remL_len] at hxl
  have hsum := fun g : Pig → Int => sumOf_plus (f := g) (pigs := f.shop.pigs) (a := before) (b := x) (by rw [hxl, h.len])
  have h2 := sure_safe hf hs.1 hs.2.1 hs.2.2 (add := plus before x)
  unfold Rep at hr
  subst hr
  rw [← h2]
  unfold Fnd.chOK
  rw [Bool.and_comm]
  congr 1
  · rw [addL_eq]
    simp only [Fnd.sureP, hsum]
    congr 1
    · congr 1
      · congr 1
        · rw [decide_eq_decide, show f.shop.pounds + sumOf Pig.pounds f.shop.pigs before - c + sumOf Pig.pounds f.shop.pigs x - (s.dh - c) = f.shop.pounds + (sumOf Pig.pounds f.shop.pigs before + sumOf Pig.pounds f.shop.pigs x) - s.dh by omega, show s.tl + sumOf Pig.tin f.shop.pigs before - c + sumOf Pig.tin f.shop.pigs x - (s.dh - c) = s.tl + (sumOf Pig.tin f.shop.pigs before + sumOf Pig.tin f.shop.pigs x) - s.dh by omega]
        · rw [decide_eq_decide, show f.shop.pounds + sumOf Pig.pounds f.shop.pigs before - c + sumOf Pig.pounds f.shop.pigs x - (s.dl - c) = f.shop.pounds + (sumOf Pig.pounds f.shop.pigs before + sumOf Pig.pounds f.shop.pigs x) - s.dl by omega, show s.th + sumOf Pig.tin f.shop.pigs before - c + sumOf Pig.tin f.shop.pigs x - (s.dl - c) = s.th + (sumOf Pig.tin f.shop.pigs before + sumOf Pig.tin f.shop.pigs x) - s.dl by omega]
      · rw [decide_eq_decide, show f.shop.pounds + sumOf Pig.pounds f.shop.pigs before - c + sumOf Pig.pounds f.shop.pigs x - (s.dl - c) = f.shop.pounds + (sumOf Pig.pounds f.shop.pigs before + sumOf Pig.pounds f.shop.pigs x) - s.dl by omega, show s.al + sumOf Pig.ant f.shop.pigs before + sumOf Pig.ant f.shop.pigs x = s.al + (sumOf Pig.ant f.shop.pigs before + sumOf Pig.ant f.shop.pigs x) by omega]
    · rw [decide_eq_decide, show f.shop.pounds + sumOf Pig.pounds f.shop.pigs before - c + sumOf Pig.pounds f.shop.pigs x - (s.dh - c) = f.shop.pounds + (sumOf Pig.pounds f.shop.pigs before + sumOf Pig.pounds f.shop.pigs x) - s.dh by omega, show s.ah + sumOf Pig.ant f.shop.pigs before + sumOf Pig.ant f.shop.pigs x = s.ah + (sumOf Pig.ant f.shop.pigs before + sumOf Pig.ant f.shop.pigs x) by omega]
  · rw [addL_eq]
    simp only [Fnd.fitsP]
    rw [decide_eq_decide]
    omega
theorem rowsS_box {f : Fnd} {s : Sp} {before x : List Int} (h : x ∈ f.rowsS s before) : x ∈ boxS (remL f before) := by
  unfold Fnd.rowsS at h
  rw [addsL_box] at h
  exact (List.mem_filter.1 (List.mem_filter.1 h).1).1
theorem BefOK.next {f : Fnd} {before left x : List Int} (hl : left.length = 4) (hp : f.shop.pigs.length ≤ 4) (h : BefOK f before left) (hx : x ∈ boxS (remL f before)) : BefOK f (plus before x) (takeL left x) := by
  obtain ⟨h1, h2⟩ := mem_boxS.1 hx
  rw [remL_len] at h1 h2
  refine ⟨by rw [plus_len, h.len], fun j hj => ?_, fun j hj => ?_⟩
  · rw [plus_len] at hj
    have h3 := h2 j (by have := h.len; omega)
    have h4 := h.pos j hj
    rw [nth_plus hj]; omega
  · rw [takeL_nth hl (by omega) (by omega), h.le j hj, nth_plus (by have := h.len; omega)]; omega
theorem Rep.next {f : Fnd} {p : Pt} {s : Sp} {before x : List Int} {c : Int} {n : Night} (hx : x.length = before.length) (h : Rep f p s before c) : Rep f ((p.addL f.shop.pigs x).lose n) { s with dl := s.dl + n.lo, dh := s.dh + n.hi } (plus before x) c := by
  have hsum := fun g : Pig → Int => sumOf_plus (f := g) (pigs := f.shop.pigs) (a := before) (b := x) hx
  unfold Rep at *
  subst h
  rw [addL_eq]
  simp only [Pt.lose, hsum, Pt.mk.injEq]
  refine ⟨?_, ?_, ?_, ?_, ?_, ?_, ?_⟩ <;> omega
def spOf (f : Fnd) (night : Int) : Sp := ⟨f.shop.tl, f.shop.th, f.shop.al, f.shop.ah, loTo f.nights night.toNat, hiTo f.nights night.toNat⟩
theorem flatMap_if {α β : Type} {q : α → Bool} {G : α → List β} : ∀ l : List α, l.flatMap (fun x => if q x then G x else []) = (l.filter q).flatMap G
  | [] => rfl
  | x :: t => by
    rw [List.flatMap_cons, flatMap_if t, List.filter_cons]
    cases q x <;> simp
theorem plansR_succ {f : Fnd} {n : Nat} {night : Int} {before : List Int} : f.plansR (n + 1) night before = (f.rowsS (spOf f night) before).flatMap fun x => (f.plansR n (night + 1) (plus before x)).map (x :: ·) := by
  have h1 : ∀ x : List Int, flatTo (fun k : Nat => [x :: nth (f.plansR n (night + 1) (plus before x)) k]) (f.plansR n (night + 1) (plus before x)).length = (f.plansR n (night + 1) (plus before x)).map (x :: ·) := fun x => by
    rw [flatTo_list (f.plansR n (night + 1) (plus before x)) (fun y => [x :: y])]
    induction f.plansR n (night + 1) (plus before x) with
    | nil => rfl
    | cons a t ih => rw [List.flatMap_cons, ih]; rfl
  have h2 := flatTo_list (f.addsL before (loTo f.nights night.toNat)) (fun x => if f.safeOn f.shop.tl f.shop.th f.shop.al f.shop.ah (loTo f.nights night.toNat) (hiTo f.nights night.toNat) (plus before x) then (f.plansR n (night + 1) (plus before x)).map (x :: ·) else [])
  rw [flatMap_if] at h2
  unfold Fnd.rowsS spOf
  rw [← h2]
  simp only [Fnd.plansR, h1]
def stepM (c : List (List Int) → Int) (b : BestR) (x : List (List Int)) : BestR := if !b.2.2 || decide (c x < b.1) then (c x, x, true) else b
def fmin (c : List (List Int) → Int) (L : List (List (List Int))) : BestR := L.foldl (stepM c) (0, [], false)
def gcost (g : Int → List Int → Int) (pigs : List Pig) : List (List Int) → Int
  | [] => 0
  | r :: x => gcost g pigs x + g (sumOf Pig.pence pigs r) r
def comb (gr : Int) (r : List Int) (b m : BestR) : BestR := if m.2.2 && (!b.2.2 || decide (m.1 + gr < b.1)) then (m.1 + gr, r :: m.2.1, true) else b
theorem stepM_comb {c c' : List (List Int) → Int} {gr : Int} {r : List Int} (hc : ∀ x, c' (r :: x) = c x + gr) (b m : BestR) (x : List (List Int)) : stepM c' (comb gr r b m) (r :: x) = comb gr r b (stepM c m x) := by
  obtain ⟨v, y, s⟩ := m
  obtain ⟨u, z, t⟩ := b
  unfold stepM comb
  simp only [hc]
  cases s <;> cases t <;> simp
  · by_cases h1 : c x < v
    · simp [h1]
    · simp [h1]
  · by_cases h1 : c x < v
    · by_cases h2 : v + gr < u
      · simp [h1, h2, show c x + gr < u by omega]
      · by_cases h3 : c x + gr < u <;> simp [h1, h2, h3]
    · by_cases h2 : v + gr < u
      · simp [h1, h2]
      · simp [h1, h2, show ¬ c x + gr < u by omega]
theorem foldl_comb {c c' : List (List Int) → Int} {gr : Int} {r : List Int} (hc : ∀ x, c' (r :: x) = c x + gr) (b : BestR) : ∀ (K : List (List (List Int))) (m : BestR), (K.map (r :: ·)).foldl (stepM c') (comb gr r b m) = comb gr r b (K.foldl (stepM c) m)
  | [], _ => rfl
  | x :: K, m => by
    rw [List.map_cons, List.foldl_cons, List.foldl_cons, stepM_comb hc]
    exact foldl_comb hc b K _
theorem fmin_flat {c : List Int → List (List Int) → Int} {c' : List (List Int) → Int} {gr : List Int → Int} (hc : ∀ r x, c' (r :: x) = c r x + gr r) (K : List Int → List (List (List Int))) : ∀ (rows : List (List Int)) (b : BestR), (rows.flatMap fun r => (K r).map (r :: ·)).foldl (stepM c') b = rows.foldl (fun b r => comb (gr r) r b (fmin (c r) (K r))) b
  | [], _ => rfl
  | r :: rows, b => by
    have h : comb (gr r) r b (0, [], false) = b := by simp [comb]
    rw [List.flatMap_cons, List.foldl_append, List.foldl_cons]
    have := foldl_comb (c := c r) (c' := c') (hc r) b (K r) (0, [], false)
    rw [h] at this
    rw [this]
    exact fmin_flat hc K rows _
theorem takeL_len {left x : List Int} : (takeL left x).length = left.length := takeTo_len _ _ _
theorem bestW_eq {f : Fnd} (hf : f.chk = true) (g : Int → List Int → Int) : ∀ (n : Nat) (night : Nat) (p : Pt) (before left : List Int), night + n = f.nights.length → left.length = 4 → BefOK f before left → Rep f p (spOf f night) before 0 →
    f.bestW g n night p left = fmin (gcost g f.shop.pigs) (f.plansR n night before)
  | 0, _, _, _, _, _, _, _, _ => by
    simp [Fnd.bestW, Fnd.plansR, fmin, stepM, gcost]
  | n + 1, night, p, before, left, hn, hl, hb, hr => by
    have hp4 := (Shop.pigsOK (Fnd.shopOK hf)).2
    have hlh := lohi_bnd (Fnd.nightsOK hf) night (by omega)
    have hsp := tl_bnd (Fnd.shopOK hf)
    have hs : SpLe (spOf f night) := by unfold SpLe spOf; simp only [Int.toNat_natCast]; omega
    have e3 : ((night : Int) + 1) = ((night + 1 : Nat) : Int) := by omega
    rw [plansR_succ, fmin]
    rw [fmin_flat (c := fun _ => gcost g f.shop.pigs) (gr := fun r => g (sumOf Pig.pence f.shop.pigs r) r) (fun r x => rfl)]
    simp only [Fnd.bestW]
    rw [chL_eq hf hl hb hr hs]
    rw [toFold (F := bestRows g f.shop.pigs (fun r => f.bestW g n ((night : Int) + 1) ((p.addL f.shop.pigs r).lose (nth f.nights (night : Int))) (takeL left r)) (f.rowsS (spOf f night) before)) (step := bestRow g f.shop.pigs (fun r => f.bestW g n ((night : Int) + 1) ((p.addL f.shop.pigs r).lose (nth f.nights (night : Int))) (takeL left r))) (fun i _ => rfl)]
    show List.foldl _ (0, [], false) _ = _
    refine foldl_congr' fun x hx b => ?_
    have hbx := rowsS_box hx
    have hxl := (mem_boxS.1 hbx).1
    rw [remL_len] at hxl
    have hrn := Rep.next (n := nth f.nights (night : Int)) (x := x) (by rw [hxl, hb.len]) hr
    have hspn : ({ spOf f night with dl := (spOf f night).dl + (nth f.nights (night : Int)).lo, dh := (spOf f night).dh + (nth f.nights (night : Int)).hi } : Sp) = spOf f ((night + 1 : Nat) : Int) := by
      simp only [spOf, Int.toNat_natCast, loTo, hiTo]
    rw [hspn] at hrn
    have ih := bestW_eq hf g n (night + 1) ((p.addL f.shop.pigs x).lose (nth f.nights (night : Int))) (plus before x) (takeL left x) (by omega) (by rw [takeL_len, hl]) (hb.next hl hp4 hbx) hrn
    simp only [bestRow, comb, e3, ih]
theorem bef0 {f : Fnd} (hp : f.shop.pigs.length ≤ 4) : BefOK f f.zeros (left0 f.shop.pigs) := by
  refine ⟨zeros_len f, fun j _ => ?_, fun j hj => ?_⟩
  · unfold Fnd.zeros; rw [nth_rep]; omega
  · unfold Fnd.zeros; rw [left0_nth hp hj, nth_rep]; omega
theorem rep0 {f : Fnd} : Rep f f.pt0 (spOf f ((0 : Nat) : Int)) f.zeros 0 := by
  unfold Rep Fnd.zeros spOf Fnd.pt0
  simp only [sumOf_zero, Int.toNat_natCast, loTo, hiTo, Pt.mk.injEq]
  refine ⟨?_, ?_, ?_, ?_, ?_, ?_, ?_⟩ <;> omega
theorem bestF_eq {f : Fnd} (hf : f.chk = true) (g : Int → List Int → Int) : f.bestF g = fmin (gcost g f.shop.pigs) f.allPlans := by
  have hpg := Shop.pigsOK (Fnd.shopOK hf)
  exact bestW_eq hf g f.nights.length 0 f.pt0 f.zeros (left0 f.shop.pigs) (by omega) (left0_b hpg).1 (bef0 hpg.2) rep0
theorem fmin_is (c : List (List Int) → Int) (L : List (List (List Int))) : (fmin c L).2.2 = decide (0 < L.length) := by
  have key : ∀ (L : List (List (List Int))) (b : BestR), (L.foldl (stepM c) b).2.2 = (b.2.2 || decide (0 < L.length)) := by
    intro L
    induction L with
    | nil => intro b; simp
    | cons x t ih =>
      intro b
      rw [List.foldl_cons, ih]
      unfold stepM
      by_cases h : (!b.2.2 || decide (c x < b.1)) = true
      · rw [if_pos h]; simp
      · rw [if_neg h]; cases hb : b.2.2 <;> simp_all
  unfold fmin
  rw [key]; simp
theorem fmin_cons {c : List (List Int) → Int} {x : List (List Int)} {t : List (List (List Int))} : fmin c (x :: t) = t.foldl (stepM c) (c x, x, true) := by
  simp [fmin, stepM]
theorem costTo_cons {s : Shop} {r : List Int} {x : List (List Int)} : ∀ i : Nat, s.costTo (r :: x) (i + 1) = sumOf Pig.pence s.pigs r + s.costTo x i
  | 0 => by simp [Shop.costTo, nth]
  | i + 1 => by
    rw [Shop.costTo, costTo_cons i, Shop.costTo, nth_cons_succ]; omega
theorem gcost_cost {s : Shop} : ∀ x : List (List Int), gcost costG s.pigs x = s.cost x
  | [] => rfl
  | r :: x => by
    rw [gcost, gcost_cost x]
    unfold Shop.cost
    rw [List.length_cons, costTo_cons]
    simp only [costG]; omega
theorem leastE_eq {f : Fnd} {g : Int → List Int → Int} : f.leastE g = f.plansE := by
  unfold Fnd.leastE Fnd.plansE
  cases hf : f.chk with
  | false => rfl
  | true =>
    rw [bestF_eq hf, fmin_is]
    simp only [if_true, decide_eq_true_eq]
    by_cases h : f.allPlans.length = 0
    · rw [if_pos h, if_neg (by omega)]
    · rw [if_neg h, if_pos (by omega)]
end Go.Flong
namespace Go.Flong
open Go Go.Eng
theorem iter_congr {σ : Type} {f g : Nat → σ → σ} {s : σ} : ∀ {n : Nat}, (∀ i x, i < n → f i x = g i x) → iter f s n = iter g s n
  | 0, _ => rfl
  | n + 1, h => by
    rw [show iter f s (n + 1) = f n (iter f s n) from rfl, show iter g s (n + 1) = g n (iter g s n) from rfl, iter_congr (fun i x hi => h i x (by omega)), h n _ (by omega)]
theorem worst3_congr {g h : Int → Int → Int → Int} {s s' : Sp} (ht : s'.th - s'.tl = s.th - s.tl) (ha : s'.ah - s'.al = s.ah - s.al) (hd : s'.dh - s'.dl = s.dh - s.dl)
    (H : ∀ i j k : Nat, (i : Int) ≤ s.th - s.tl → (j : Int) ≤ s.ah - s.al → (k : Int) ≤ s.dh - s.dl → g (s'.tl + i) (s'.al + j) (s'.dl + k) = h (s.tl + i) (s.al + j) (s.dl + k)) : worst3 g s' = worst3 h s := by
  unfold worst3
  rw [ht, ha, hd]
  refine iter_congr fun i x hi => iter_congr fun j y hj => iter_congr fun k z hk => ?_
  rw [H i j k (by omega) (by omega) (by omega)]
theorem beh_fold {f : Fnd} {nx : Sp → List Int → Int} {night : Int} {s : Sp} {before : List Int} : f.beh nx night s before =
    min ((f.rowsS s before).foldl (fun w r => min w (sumOf Pig.pence f.shop.pigs r + nx { s with dl := s.dl + (nth f.nights night).lo, dh := s.dh + (nth f.nights night).hi } (plus before r))) neverC) neverC := by
  unfold Fnd.beh Fnd.rowsS
  rw [List.foldl_filter]
  congr 1
  exact toFold (F := f.behTo nx night s before) (fun i _ => rfl)
theorem Rep.one {f : Fnd} {p : Pt} {s : Sp} {before : List Int} {c : Int} (h : Rep f p s before c) (i j k : Nat) : Rep f (p.one (p.tl + i) (p.al + j) (p.dl + k)) ⟨s.tl + i, s.tl + i, s.al + j, s.al + j, s.dl + k, s.dl + k⟩ before (c + (p.dl + k)) := by
  unfold Rep at *
  subst h
  simp only [Pt.mk.injEq]
  refine ⟨?_, ?_, ?_, ?_, ?_, ?_, ?_⟩ <;> omega
theorem chW_beh {f : Fnd} (hf : f.chk = true) {n night : Nat} (hn : night < f.nights.length)
    (ih : ∀ (p : Pt) (s : Sp) (before left : List Int) (c : Int), left.length = 4 → BefOK f before left → Rep f p s before c → SpLe s → f.ahW n ((night : Int) + 1) p left = f.now n ((night : Int) + 1) s before)
    {p : Pt} {s : Sp} {before left : List Int} {c : Int} (hl : left.length = 4) (hb : BefOK f before left) (hr : Rep f p s before c) (hs : SpLe s) : f.chW (n + 1) night p left = f.beh (f.now n ((night : Int) + 1)) night s before := by
  have hp4 := (Shop.pigsOK (Fnd.shopOK hf)).2
  rw [beh_fold]
  simp only [Fnd.chW]
  rw [chL_eq hf hl hb hr hs]
  congr 1
  rw [toFold (F := chRows f.shop.pigs (fun r => f.aheadOf (fun q => f.chW n ((night : Int) + 1) q (takeL left r)) ((night : Int) + 1) ((p.addL f.shop.pigs r).lose (nth f.nights (night : Int)))) (f.rowsS s before)) (step := fun w r => min w (sumOf Pig.pence f.shop.pigs r + f.aheadOf (fun q => f.chW n ((night : Int) + 1) q (takeL left r)) ((night : Int) + 1) ((p.addL f.shop.pigs r).lose (nth f.nights (night : Int))))) (fun i _ => rfl)]
  show List.foldl _ neverC _ = _
  refine foldl_congr' fun x hx b => ?_
  have hbx := rowsS_box hx
  have hxl := (mem_boxS.1 hbx).1
  rw [remL_len] at hxl
  have hnb := Night.bnds ((Fnd.nightsOK hf).at hn)
  have := ih ((p.addL f.shop.pigs x).lose (nth f.nights (night : Int))) _ (plus before x) (takeL left x) c (by rw [takeL_len, hl]) (hb.next hl hp4 hbx) (Rep.next (n := nth f.nights (night : Int)) (by rw [hxl, hb.len]) hr) (by
    unfold SpLe at *; simp only []; omega)
  rw [← this]; rfl
theorem ahW_now {f : Fnd} (hf : f.chk = true) : ∀ (n night : Nat), night + n = f.nights.length → ∀ (p : Pt) (s : Sp) (before left : List Int) (c : Int), left.length = 4 → BefOK f before left → Rep f p s before c → SpLe s → f.ahW n night p left = f.now n night s before
  | 0, night, hn, p, s, before, left, c, hl, hb, hr, hs => by
    unfold Fnd.ahW Fnd.aheadOf
    rw [if_pos (.inl (by omega))]; rfl
  | n + 1, night, hn, p, s, before, left, c, hl, hb, hr, hs => by
    have ih : ∀ (p : Pt) (s : Sp) (before left : List Int) (c : Int), left.length = 4 → BefOK f before left → Rep f p s before c → SpLe s → f.ahW n ((night : Int) + 1) p left = f.now n ((night : Int) + 1) s before := fun p s before left c a1 a2 a3 a4 => by
      have := ahW_now hf n (night + 1) (by omega) p s before left c a1 a2 a3 a4
      rwa [show ((night + 1 : Nat) : Int) = (night : Int) + 1 by omega] at this
    unfold Fnd.ahW Fnd.aheadOf
    simp only [Fnd.now]
    by_cases ht : (nth f.nights (night : Int)).test = 0
    · rw [if_pos (.inr ht), if_pos ht]
      exact chW_beh hf (by omega) ih hl hb hr hs
    · rw [if_neg (by rintro (h | h); omega; exact ht h), if_neg ht]
      have hr2 := hr
      unfold Rep at hr2
      refine worst3_congr (by rw [hr2]; simp only []; omega) (by rw [hr2]; simp only []; omega) (by rw [hr2]; simp only []; omega) fun i j k _ _ _ => ?_
      exact chW_beh hf (by omega) ih hl hb (hr.one i j k) ⟨Int.le_refl _, Int.le_refl _, Int.le_refl _⟩
theorem wKnownN_eq {f : Fnd} (hf : f.chk = true) : f.wKnownN = f.knownN := by
  have hpg := Shop.pigsOK (Fnd.shopOK hf)
  have hb := tl_bnd (Fnd.shopOK hf)
  refine ahW_now hf f.nights.length 0 (by omega) f.pt0 _ f.zeros (left0 f.shop.pigs) 0 (left0_b hpg).1 (bef0 hpg.2) ?_ ?_
  · have := rep0 (f := f)
    unfold spOf at this
    exact this
  · unfold SpLe; simp only []; omega
theorem wKnownE_eq {f : Fnd} : f.wKnownE = f.knownE := by
  unfold Fnd.wKnownE Fnd.knownE
  cases hf : f.chk with
  | false => rfl
  | true => rw [wKnownN_eq hf]
theorem knownE_chk {f : Fnd} (h : f.knownE = 0) : f.chk = true := by
  unfold Fnd.knownE at h
  cases hc : f.chk with
  | true => rfl
  | false => rw [hc] at h; simp at h
theorem wKnownV_eq {f : Fnd} : f.wKnownV = f.knownV := by
  unfold Fnd.wKnownV Fnd.knownV
  rw [wKnownE_eq]
  split
  · rename_i h; exact wKnownN_eq (knownE_chk h)
  · rfl
end Go.Flong
namespace Go.Flong
open Go Go.Eng
theorem safe_keeps {f : Fnd} {tl th al ah dl dh : Int} {add : List Int} (h : f.safeOn tl th al ah dl dh add = true) {t a d : Int} (h1 : tl ≤ t) (h2 : t ≤ th) (h3 : al ≤ a) (h4 : a ≤ ah) (h5 : dl ≤ d) (h6 : d ≤ dh) : f.keeps t a d add = true := by
  have := safeOn_iff.1 h (d - dl).toNat (by omega)
  rw [show dl + ((d - dl).toNat : Int) = d by omega, keeps4_iff, keeps4_iff] at this
  rw [Fnd.keeps, keeps4_iff]
  omega
theorem keeps_safe {f : Fnd} {tl th al ah dl dh : Int} {add : List Int} (ht : tl ≤ th) (ha : al ≤ ah) (h : ∀ t a d : Int, tl ≤ t → t ≤ th → al ≤ a → a ≤ ah → dl ≤ d → d ≤ dh → f.keeps t a d add = true) : f.safeOn tl th al ah dl dh add = true := by
  rw [safeOn_iff]
  intro j hj
  exact ⟨h tl al (dl + j) (by omega) ht (by omega) ha (by omega) (by omega), h th ah (dl + j) ht (by omega) ha (by omega) (by omega) (by omega)⟩
section
variable {f : Fnd} {plan : List (List Int)} {t : Tru}
theorem truth_parts (ht : f.isTruth t = true) : (f.shop.tl ≤ t.tin ∧ t.tin ≤ f.shop.th) ∧ (f.shop.al ≤ t.ant ∧ t.ant ≤ f.shop.ah) ∧ t.dross.length = f.nights.length ∧ ∀ i : Nat, i < f.nights.length → (nth f.nights i).lo ≤ nth t.dross i ∧ nth t.dross i ≤ (nth f.nights i).hi := by
  simp only [Fnd.isTruth, Bool.and_eq_true, decide_eq_true_eq, within] at ht
  refine ⟨ht.1.1.1, ht.1.1.2, by omega, fun i hi => ?_⟩
  have := allI_iff.1 ht.2 i (by omega)
  simpa only [Fnd.truthAt, within, Bool.and_eq_true, decide_eq_true_eq] using this
theorem safeV_cases (h : f.openE plan = 0) : (f.wSafeV plan = 1 ∧ (failsTo f plan f.nights.length).length = 0) ∨ (f.wSafeV plan = 3 ∧ (failsTo f plan f.nights.length).length ≠ 0 ∧ f.wCan plan = true) ∨ (f.wSafeV plan = 2 ∧ (failsTo f plan f.nights.length).length ≠ 0 ∧ f.wCan plan = false) := by
  obtain ⟨hf, hp⟩ := open_zero h
  unfold Fnd.wSafeV
  rw [if_pos (by rw [wOpen_eq]; exact h), wFails_eq hf hp]
  by_cases h0 : (failsTo f plan f.nights.length).length = 0
  · exact .inl ⟨if_pos h0, h0⟩
  · rw [if_neg h0]
    cases hc : f.wCan plan with
    | true => exact .inr (.inl ⟨rfl, h0, rfl⟩)
    | false => exact .inr (.inr ⟨rfl, h0, rfl⟩)
theorem openE_ok (hf : f.chk = true) (hp : f.isPlan plan = true) : f.openE plan = 0 := by
  unfold Fnd.openE; rw [hf, hp]; rfl
end
end Go.Flong
namespace Go.Flong
open Go Go.Eng
theorem foldl_min_le {α : Type} {c : α → Int} : ∀ (l : List α) (w : Int), l.foldl (fun w r => min w (c r)) w ≤ w ∧ ∀ r ∈ l, l.foldl (fun w r => min w (c r)) w ≤ c r
  | [], w => ⟨Int.le_refl _, fun r h => by simp at h⟩
  | x :: t, w => by
    have := foldl_min_le (c := c) t (min w (c x))
    rw [List.foldl_cons]
    refine ⟨by omega, fun r hr => ?_⟩
    rcases List.mem_cons.1 hr with rfl | h
    · omega
    · exact this.2 r h
theorem foldl_min_at {α : Type} {c : α → Int} : ∀ (l : List α) (w : Int), l.foldl (fun w r => min w (c r)) w = w ∨ ∃ r ∈ l, l.foldl (fun w r => min w (c r)) w = c r
  | [], w => .inl rfl
  | x :: t, w => by
    rw [List.foldl_cons]
    rcases foldl_min_at (c := c) t (min w (c x)) with h | ⟨r, hr, h⟩
    · rw [h]
      by_cases g : w ≤ c x
      · exact .inl (by omega)
      · exact .inr ⟨x, List.mem_cons_self, by omega⟩
    · exact .inr ⟨r, List.mem_cons_of_mem _ hr, h⟩
abbrev nextS (f : Fnd) (night : Int) (s : Sp) : Sp := { s with dl := s.dl + (nth f.nights night).lo, dh := s.dh + (nth f.nights night).hi }
theorem beh_foldN {f : Fnd} {nx : Sp → List Int → Int} {night : Int} {s : Sp} {before : List Int} : f.beh nx night s before = min ((f.rowsS s before).foldl (fun w r => min w (sumOf Pig.pence f.shop.pigs r + nx (nextS f night s) (plus before r))) neverC) neverC := beh_fold
theorem beh_le {f : Fnd} {nx : Sp → List Int → Int} {night : Int} {s : Sp} {before : List Int} : f.beh nx night s before ≤ neverC ∧ ∀ r ∈ f.rowsS s before, f.beh nx night s before ≤ sumOf Pig.pence f.shop.pigs r + nx (nextS f night s) (plus before r) := by
  rw [beh_foldN]
  have := foldl_min_le (c := fun r => sumOf Pig.pence f.shop.pigs r + nx (nextS f night s) (plus before r)) (f.rowsS s before) neverC
  exact ⟨by omega, fun r hr => by have := this.2 r hr; omega⟩
theorem beh_at {f : Fnd} {nx : Sp → List Int → Int} {night : Int} {s : Sp} {before : List Int} : f.beh nx night s before = neverC ∨ ∃ r ∈ f.rowsS s before, f.beh nx night s before = sumOf Pig.pence f.shop.pigs r + nx (nextS f night s) (plus before r) := by
  rw [beh_foldN]
  have h0 := (foldl_min_le (c := fun r => sumOf Pig.pence f.shop.pigs r + nx (nextS f night s) (plus before r)) (f.rowsS s before) neverC).1
  rcases foldl_min_at (c := fun r => sumOf Pig.pence f.shop.pigs r + nx (nextS f night s) (plus before r)) (f.rowsS s before) neverC with h | ⟨r, hr, h⟩
  · exact .inl (by omega)
  · exact .inr ⟨r, hr, by omega⟩
theorem iter_ge {F : Nat → Int → Int} {v : Int} (hF : ∀ i x, x ≤ F i x) : ∀ {n : Nat} {s : Int}, (∃ i, i < n ∧ ∀ x, v ≤ F i x) → v ≤ iter F s n
  | 0, s, h => by obtain ⟨i, hi, _⟩ := h; omega
  | n + 1, s, ⟨i, hi, h⟩ => by
    rw [show iter F s (n + 1) = F n (iter F s n) from rfl]
    by_cases e : i = n
    · subst e; exact h _
    · exact Int.le_trans (iter_ge hF ⟨i, by omega, h⟩) (hF n _)
theorem iter_le_self {F : Nat → Int → Int} (hF : ∀ i x, x ≤ F i x) : ∀ {n : Nat} {s : Int}, s ≤ iter F s n
  | 0, s => Int.le_refl _
  | n + 1, s => Int.le_trans (iter_le_self hF (n := n)) (hF n _)
theorem worst3_ge {g : Int → Int → Int → Int} {s : Sp} {t a d : Int} (h1 : s.tl ≤ t) (h2 : t ≤ s.th) (h3 : s.al ≤ a) (h4 : a ≤ s.ah) (h5 : s.dl ≤ d) (h6 : d ≤ s.dh) : g t a d ≤ worst3 g s := by
  unfold worst3
  have m3 : ∀ (t a : Int) (k : Nat) (x : Int), x ≤ max x (g t a (s.dl + (k : Int))) := fun t a k x => by omega
  have m2 : ∀ (t : Int) (j : Nat) (x : Int), x ≤ iter (fun k w => max w (g t (s.al + (j : Int)) (s.dl + (k : Int)))) x (s.dh - s.dl + 1).toNat := fun t j x => iter_le_self (m3 t _)
  have m1 : ∀ (i : Nat) (x : Int), x ≤ iter (fun j w => iter (fun k w => max w (g (s.tl + (i : Int)) (s.al + (j : Int)) (s.dl + (k : Int)))) w (s.dh - s.dl + 1).toNat) x (s.ah - s.al + 1).toNat := fun i x => iter_le_self (m2 _)
  refine iter_ge m1 ⟨(t - s.tl).toNat, by omega, fun x => iter_ge (m2 _) ⟨(a - s.al).toNat, by omega, fun y => iter_ge (m3 _ _) ⟨(d - s.dl).toNat, by omega, fun z => ?_⟩⟩⟩
  rw [show s.tl + ((t - s.tl).toNat : Int) = t by omega, show s.al + ((a - s.al).toNat : Int) = a by omega, show s.dl + ((d - s.dl).toNat : Int) = d by omega]
  omega
theorem worst3_nonneg {g : Int → Int → Int → Int} {s : Sp} : 0 ≤ worst3 g s := by
  unfold worst3
  exact iter_le_self fun i x => iter_le_self fun j y => iter_le_self fun k z => by omega
theorem worst3_le {g : Int → Int → Int → Int} {s : Sp} {m : Int} (hm : 0 ≤ m) (hg : ∀ t a d, s.tl ≤ t → t ≤ s.th → s.al ≤ a → a ≤ s.ah → s.dl ≤ d → d ≤ s.dh → g t a d ≤ m) : worst3 g s ≤ m := by
  unfold worst3
  refine iter_ind (P := fun w => w ≤ m) hm fun i x hi hx => iter_ind (P := fun w => w ≤ m) hx fun j y hj hy => iter_ind (P := fun w => w ≤ m) hy fun k z hk hz => ?_
  have := hg (s.tl + i) (s.al + j) (s.dl + k) (by omega) (by omega) (by omega) (by omega) (by omega) (by omega)
  omega
theorem worst3_at {g : Int → Int → Int → Int} {s : Sp} : worst3 g s = 0 ∨ ∃ t a d, (s.tl ≤ t ∧ t ≤ s.th) ∧ (s.al ≤ a ∧ a ≤ s.ah) ∧ (s.dl ≤ d ∧ d ≤ s.dh) ∧ worst3 g s = g t a d := by
  have : ∀ w : Int, w = 0 ∨ (∃ t a d, (s.tl ≤ t ∧ t ≤ s.th) ∧ (s.al ≤ a ∧ a ≤ s.ah) ∧ (s.dl ≤ d ∧ d ≤ s.dh) ∧ w = g t a d) → True := fun _ _ => trivial
  unfold worst3
  refine iter_ind (P := fun w => w = 0 ∨ ∃ t a d, (s.tl ≤ t ∧ t ≤ s.th) ∧ (s.al ≤ a ∧ a ≤ s.ah) ∧ (s.dl ≤ d ∧ d ≤ s.dh) ∧ w = g t a d) (.inl rfl) fun i x hi hx => iter_ind (P := fun w => w = 0 ∨ ∃ t a d, (s.tl ≤ t ∧ t ≤ s.th) ∧ (s.al ≤ a ∧ a ≤ s.ah) ∧ (s.dl ≤ d ∧ d ≤ s.dh) ∧ w = g t a d) hx fun j y hj hy => iter_ind (P := fun w => w = 0 ∨ ∃ t a d, (s.tl ≤ t ∧ t ≤ s.th) ∧ (s.al ≤ a ∧ a ≤ s.ah) ∧ (s.dl ≤ d ∧ d ≤ s.dh) ∧ w = g t a d) hy fun k z hk hz => ?_
  clear hx hy
  by_cases h : z ≤ g (s.tl + (i : Int)) (s.al + (j : Int)) (s.dl + (k : Int))
  · clear hz
    exact .inr ⟨s.tl + i, s.al + j, s.dl + k, ⟨by omega, by omega⟩, ⟨by omega, by omega⟩, ⟨by omega, by omega⟩, by omega⟩
  · rw [show max z (g (s.tl + (i : Int)) (s.al + (j : Int)) (s.dl + (k : Int))) = z by omega]; exact hz
structure BefP (f : Fnd) (before : List Int) : Prop where
  len : before.length = f.shop.pigs.length
  pos : nonneg before
theorem bef_zeros (f : Fnd) : BefP f f.zeros := ⟨zeros_len f, fun j hj => by have := zeros_bnd f 5 (by omega) j hj; exact this.1⟩
theorem mem_rowsS {f : Fnd} {s : Sp} {before x : List Int} (hb : BefP f before) : x ∈ f.rowsS s before ↔ x ∈ boxS (remL f before) ∧ f.shop.pounds - s.dl + (sumOf Pig.pounds f.shop.pigs before + sumOf Pig.pounds f.shop.pigs x) ≤ f.shop.room ∧ f.safeOn s.tl s.th s.al s.ah s.dl s.dh (plus before x) = true := by
  unfold Fnd.rowsS
  rw [addsL_box, List.mem_filter, List.mem_filter]
  constructor
  · rintro ⟨⟨h1, h2⟩, h3⟩
    rw [isAdd_box hb.len hb.pos h1, decide_eq_true_eq] at h2
    exact ⟨h1, h2, h3⟩
  · rintro ⟨h1, h2, h3⟩
    refine ⟨⟨h1, ?_⟩, h3⟩
    rw [isAdd_box hb.len hb.pos h1, decide_eq_true_eq]; exact h2
theorem BefP.next {f : Fnd} {before x : List Int} (hb : BefP f before) (hx : x ∈ boxS (remL f before)) : BefP f (plus before x) := by
  obtain ⟨h1, h2⟩ := mem_boxS.1 hx
  rw [remL_len] at h1 h2
  refine ⟨by rw [plus_len, hb.len], fun j hj => ?_⟩
  rw [plus_len] at hj
  have h3 := h2 j (by have := hb.len; omega)
  have h4 := hb.pos j hj
  rw [nth_plus hj]; omega
theorem pence_pos {f : Fnd} (hp : PigsOK f.shop.pigs) {before x : List Int} (hb : BefP f before) (hx : x ∈ boxS (remL f before)) : 0 ≤ sumOf Pig.pence f.shop.pigs x ∧ sumOf Pig.pence f.shop.pigs x ≤ 2000 := by
  obtain ⟨h1, h2⟩ := mem_boxS.1 hx
  rw [remL_len] at h1 h2
  refine pence_bnd hp h1 fun j hj => ?_
  have h3 := h2 j (by omega)
  rw [remL_nth (by omega)] at h3
  have h4 := hb.pos j (by rw [hb.len]; omega)
  have h5 := Pig.bnds (hp.at (show j < f.shop.pigs.length by omega))
  omega
def SpIn (s s' : Sp) : Prop := (s'.tl ≤ s.tl ∧ s.tl ≤ s.th ∧ s.th ≤ s'.th) ∧ (s'.al ≤ s.al ∧ s.al ≤ s.ah ∧ s.ah ≤ s'.ah) ∧ (s'.dl ≤ s.dl ∧ s.dl ≤ s.dh ∧ s.dh ≤ s'.dh)
theorem safe_sub {f : Fnd} {s s' : Sp} (h : SpIn s s') {add : List Int} (hs : f.safeOn s'.tl s'.th s'.al s'.ah s'.dl s'.dh add = true) : f.safeOn s.tl s.th s.al s.ah s.dl s.dh add = true := by
  unfold SpIn at h
  exact keeps_safe (by omega) (by omega) fun t a d _ _ _ _ _ _ => safe_keeps hs (by omega) (by omega) (by omega) (by omega) (by omega) (by omega)
structure Better (f o : Fnd) : Prop where
  n : o.nights.length ≤ f.nights.length
  k : o.shop.pigs.length = f.shop.pigs.length
  g : ∀ j : Nat, (nth o.shop.pigs j).pounds = (nth f.shop.pigs j).pounds ∧ (nth o.shop.pigs j).tin = (nth f.shop.pigs j).tin ∧ (nth o.shop.pigs j).ant = (nth f.shop.pigs j).ant ∧ (nth o.shop.pigs j).pence = (nth f.shop.pigs j).pence ∧ (nth f.shop.pigs j).many ≤ (nth o.shop.pigs j).many
  p : o.shop.pounds = f.shop.pounds ∧ f.shop.room ≤ o.shop.room
  l : o.shop.tpl = f.shop.tpl ∧ o.shop.tph = f.shop.tph ∧ o.shop.apl = f.shop.apl ∧ o.shop.aph = f.shop.aph
  d : ∀ i : Nat, i < o.nights.length → (nth f.nights i).lo ≤ (nth o.nights i).lo ∧ (nth o.nights i).lo ≤ (nth o.nights i).hi ∧ (nth o.nights i).hi ≤ (nth f.nights i).hi
  s : (f.shop.tl ≤ o.shop.tl ∧ o.shop.tl ≤ o.shop.th ∧ o.shop.th ≤ f.shop.th) ∧ (f.shop.al ≤ o.shop.al ∧ o.shop.al ≤ o.shop.ah ∧ o.shop.ah ≤ f.shop.ah)
section
variable {f o : Fnd} (B : Better f o)
theorem sum_same {g : Pig → Int} {p q : List Pig} (h : ∀ j : Nat, g (nth p j) = g (nth q j)) : ∀ (add : List Int) (i : Nat), sumTo g p add i = sumTo g q add i
  | _, 0 => rfl
  | add, i + 1 => by simp only [sumTo]; rw [sum_same h add i, h i]
theorem Better.pounds (B : Better f o) (add : List Int) : sumOf Pig.pounds o.shop.pigs add = sumOf Pig.pounds f.shop.pigs add := sum_same (fun j => (B.g j).1) _ _
theorem Better.tin (B : Better f o) (add : List Int) : sumOf Pig.tin o.shop.pigs add = sumOf Pig.tin f.shop.pigs add := sum_same (fun j => (B.g j).2.1) _ _
theorem Better.ant (B : Better f o) (add : List Int) : sumOf Pig.ant o.shop.pigs add = sumOf Pig.ant f.shop.pigs add := sum_same (fun j => (B.g j).2.2.1) _ _
theorem Better.pence (B : Better f o) (add : List Int) : sumOf Pig.pence o.shop.pigs add = sumOf Pig.pence f.shop.pigs add := sum_same (fun j => (B.g j).2.2.2.1) _ _
theorem Better.keeps (B : Better f o) (t a d : Int) (add : List Int) : o.keeps t a d add = f.keeps t a d add := by
  rw [Bool.eq_iff_iff, Fnd.keeps, Fnd.keeps, keeps4_iff, keeps4_iff, B.pounds, B.tin, B.ant, B.p.1, B.l.1, B.l.2.1, B.l.2.2.1, B.l.2.2.2]
theorem Better.safe (B : Better f o) (tl th al ah dl dh : Int) (add : List Int) : o.safeOn tl th al ah dl dh add = f.safeOn tl th al ah dl dh add := by
  unfold Fnd.safeOn; simp only [B.keeps]
theorem Better.bef (B : Better f o) {before : List Int} (h : BefP f before) : BefP o before := ⟨by rw [h.len, B.k], h.pos⟩
theorem Better.row (B : Better f o) {s s' : Sp} (hs : SpIn s s') {before x : List Int} (hb : BefP f before) (hx : x ∈ f.rowsS s' before) : x ∈ o.rowsS s before := by
  obtain ⟨h1, h2, h3⟩ := (mem_rowsS hb).1 hx
  refine (mem_rowsS (B.bef hb)).2 ⟨?_, ?_, ?_⟩
  · obtain ⟨g1, g2⟩ := mem_boxS.1 h1
    rw [remL_len] at g1 g2
    refine mem_boxS.2 ⟨by rw [remL_len, g1, B.k], fun j hj => ?_⟩
    rw [remL_len, B.k] at hj
    have := g2 j hj
    rw [remL_nth hj] at this
    rw [remL_nth (by rw [B.k]; exact hj)]
    have := (B.g j).2.2.2.2
    omega
  · have := hs.2.2
    have := B.p
    rw [B.pounds, B.pounds]; omega
  · rw [B.safe]; exact safe_sub hs h3
theorem Better.next (B : Better f o) {s s' : Sp} (hs : SpIn s s') {i : Nat} (hi : i < o.nights.length) : SpIn (nextS o i s) (nextS f i s') := by
  have := B.d i hi
  unfold SpIn at *
  simp only [nextS]; omega
theorem Better.sp (B : Better f o) : ∀ i : Nat, i ≤ o.nights.length → SpIn (spOf o i) (spOf f i)
  | 0, _ => by
    have := B.s
    unfold SpIn spOf; simp only [Int.toNat_natCast, loTo, hiTo]; omega
  | i + 1, hi => by
    have ih := B.sp i (by omega)
    have h := B.d i (by omega)
    unfold SpIn spOf at *
    simp only [Int.toNat_natCast, loTo, hiTo] at *
    omega
theorem Better.plans (B : Better f o) : ∀ (n night m : Nat) (before : List Int) (p : List (List Int)), night + n = f.nights.length → night + m = o.nights.length → BefP f before → p ∈ f.plansR n night before → p.take m ∈ o.plansR m night before
  | n, night, 0, before, p, hn, hm, hb, hp => by simp [Fnd.plansR]
  | 0, night, m + 1, before, p, hn, hm, hb, hp => by have := B.n; omega
  | n + 1, night, m + 1, before, p, hn, hm, hb, hp => by
    rw [plansR_succ, List.mem_flatMap] at hp
    obtain ⟨x, hx, hp⟩ := hp
    obtain ⟨q, hq, rfl⟩ := List.mem_map.1 hp
    have hx2 := B.row (B.sp night (by omega)) hb hx
    have e3 : ((night : Int) + 1) = ((night + 1 : Nat) : Int) := by omega
    rw [e3] at hq
    have ih := B.plans n (night + 1) m (plus before x) q (by omega) (by omega) (hb.next (rowsS_box hx)) hq
    rw [plansR_succ, List.mem_flatMap]
    exact ⟨x, hx2, List.mem_map.2 ⟨q.take m, by rw [e3]; exact ih, rfl⟩⟩
theorem Better.known (B : Better f o) (hf : f.chk = true) (ho : o.chk = true) (ht : ∀ i : Nat, i < o.nights.length → (nth o.nights i).test = (nth f.nights i).test ∨ (nth f.nights i).test = 0) : ∀ (n night m : Nat) (s s' : Sp) (before : List Int), night + n = f.nights.length → night + m = o.nights.length → BefP f before → bnd before 5 → SpIn s s' → o.now m night s before ≤ f.now n night s' before
  | n, night, 0, s, s', before, hn, hm, hb, hb5, hs => (now_bnd hf n night s' before hb.len hb5).1
  | 0, night, m + 1, s, s', before, hn, hm, hb, hb5, hs => by have := B.n; omega
  | n + 1, night, m + 1, s, s', before, hn, hm, hb, hb5, hs => by
    have e3 : ((night : Int) + 1) = ((night + 1 : Nat) : Int) := by omega
    have hpg := Shop.pigsOK (Fnd.shopOK hf)
    have key : ∀ s s' : Sp, SpIn s s' → o.beh (o.now m ((night : Int) + 1)) night s before ≤ f.beh (f.now n ((night : Int) + 1)) night s' before := fun s s' hs => by
      rcases beh_at (f := f) (nx := f.now n ((night : Int) + 1)) (night := night) (s := s') (before := before) with h | ⟨r, hr, h⟩
      · rw [h]; exact beh_le.1
      · rw [h]
        have h1 := (beh_le (nx := o.now m ((night : Int) + 1)) (night := (night : Int))).2 r (B.row hs hb hr)
        have hbx := rowsS_box hr
        have hb5' : bnd (plus before r) 5 := by
          obtain ⟨g1, g2⟩ := mem_boxS.1 hbx
          rw [remL_len] at g1 g2
          intro j hj
          rw [plus_len] at hj
          have h3 := g2 j (by have := hb.len; omega)
          rw [remL_nth (by have := hb.len; omega)] at h3
          have h4 := hb.pos j hj
          have h5 := Pig.bnds (hpg.at (show j < f.shop.pigs.length by have := hb.len; omega))
          rw [nth_plus hj]; omega
        have ih := B.known hf ho ht n (night + 1) m (nextS o night s) (nextS f night s') (plus before r) (by omega) (by omega) (hb.next hbx) hb5' (B.next hs (by omega))
        rw [B.pence] at h1
        rw [e3] at h1 ⊢
        omega
    simp only [Fnd.now]
    have hpos : 0 ≤ worst3 (fun t a d => f.beh (f.now n ((night : Int) + 1)) night ⟨t, t, a, a, d, d⟩ before) s' := worst3_nonneg
    have hs2 := hs
    unfold SpIn at hs2
    have hbp : 0 ≤ f.beh (f.now n ((night : Int) + 1)) night s' before := by
      rcases beh_at (f := f) (nx := f.now n ((night : Int) + 1)) (night := night) (s := s') (before := before) with h | ⟨r, hr, h⟩
      · rw [h]; decide
      · rw [h]
        have hbx := rowsS_box hr
        have h1 := pence_pos hpg hb hbx
        have hb5' : bnd (plus before r) 5 := by
          obtain ⟨g1, g2⟩ := mem_boxS.1 hbx
          rw [remL_len] at g1 g2
          intro j hj
          rw [plus_len] at hj
          have h3 := g2 j (by have := hb.len; omega)
          rw [remL_nth (by have := hb.len; omega)] at h3
          have h4 := hb.pos j hj
          have h5 := Pig.bnds (hpg.at (show j < f.shop.pigs.length by have := hb.len; omega))
          rw [nth_plus hj]; omega
        have := (now_bnd hf n ((night : Int) + 1) (nextS f night s') (plus before r) (hb.next hbx).len hb5').1
        omega
    by_cases h0 : (nth f.nights (night : Int)).test = 0
    · rw [if_pos h0]
      by_cases h1 : (nth o.nights (night : Int)).test = 0
      · rw [if_pos h1]; exact key s s' hs
      · rw [if_neg h1]
        exact worst3_le hbp fun t a d _ _ _ _ _ _ => key _ _ (by unfold SpIn; simp only []; omega)
    · rw [if_neg h0]
      have h1 : (nth o.nights (night : Int)).test ≠ 0 := by
        rcases ht night (by omega) with h | h
        · rw [h]; exact h0
        · exact absurd h h0
      rw [if_neg h1]
      refine worst3_le hpos fun t a d _ _ _ _ _ _ => Int.le_trans (key _ ⟨t, t, a, a, d, d⟩ (by unfold SpIn; simp only []; omega)) ?_
      exact worst3_ge (g := fun t a d => f.beh (f.now n ((night : Int) + 1)) night ⟨t, t, a, a, d, d⟩ before) (by omega) (by omega) (by omega) (by omega) (by omega) (by omega)
end
end Go.Flong
namespace Go.Flong
open Go Go.Eng
def befTo (before : List Int) (p : List (List Int)) : Nat → List Int
  | 0 => before
  | i + 1 => plus (befTo before p i) (nth p i)
theorem befTo_upTo {n : Nat} {p : List (List Int)} : ∀ i : Nat, befTo (List.replicate n 0) p i = upTo n p i
  | 0 => rfl
  | i + 1 => by rw [befTo, upTo, befTo_upTo i]
theorem befTo_cons {before x : List Int} {p : List (List Int)} : ∀ i : Nat, befTo before (x :: p) (i + 1) = befTo (plus before x) p i
  | 0 => rfl
  | i + 1 => by rw [befTo, befTo_cons i, befTo, nth_cons_succ]
theorem mem_plansR {f : Fnd} : ∀ (n night : Nat) (before : List Int) (p : List (List Int)), p ∈ f.plansR n night before ↔ p.length = n ∧ ∀ i : Nat, i < n → nth p i ∈ f.rowsS (spOf f ((night + i : Nat) : Int)) (befTo before p i)
  | 0, night, before, p => by
    simp only [Fnd.plansR, List.mem_singleton]
    constructor
    · rintro rfl; exact ⟨rfl, fun i hi => absurd hi (by omega)⟩
    · intro h; exact List.eq_nil_of_length_eq_zero h.1
  | n + 1, night, before, p => by
    have e3 : ((night : Int) + 1) = ((night + 1 : Nat) : Int) := by omega
    rw [plansR_succ, List.mem_flatMap]
    constructor
    · rintro ⟨x, hx, hp⟩
      obtain ⟨q, hq, rfl⟩ := List.mem_map.1 hp
      rw [e3] at hq
      obtain ⟨h1, h2⟩ := (mem_plansR n (night + 1) (plus before x) q).1 hq
      refine ⟨by simp [h1], fun i hi => ?_⟩
      cases i with
      | zero => exact hx
      | succ i =>
        rw [nth_cons_succ, befTo_cons, show night + (i + 1) = night + 1 + i by omega]
        exact h2 i (by omega)
    · rintro ⟨h1, h2⟩
      match p, h1 with
      | x :: q, h1 =>
        refine ⟨x, h2 0 (by omega), List.mem_map.2 ⟨q, ?_, rfl⟩⟩
        rw [e3]
        refine (mem_plansR n (night + 1) (plus before x) q).2 ⟨by simpa using h1, fun i hi => ?_⟩
        have := h2 (i + 1) (by omega)
        rw [nth_cons_succ, befTo_cons, show night + (i + 1) = night + 1 + i by omega] at this
        exact this
theorem befP_upTo {f : Fnd} {p : List (List Int)} : ∀ i : Nat, (∀ k : Nat, k < i → nth p k ∈ boxS (remL f (upTo f.shop.pigs.length p k))) → BefP f (upTo f.shop.pigs.length p i)
  | 0, _ => bef_zeros f
  | i + 1, h => (befP_upTo i (fun k hk => h k (by omega))).next (h i (by omega))
theorem mem_allPlans {f : Fnd} (hf : f.chk = true) {p : List (List Int)} : p ∈ f.allPlans ↔ f.isPlan p = true ∧ ∀ i : Nat, i < f.nights.length → f.safeAt p i = true := by
  have h0 := mem_plansR (f := f) f.nights.length 0 f.zeros p
  unfold Fnd.zeros at h0
  simp only [befTo_upTo, Nat.zero_add] at h0
  have hmem : p ∈ f.allPlans ↔ p.length = f.nights.length ∧ ∀ i : Nat, i < f.nights.length → nth p i ∈ f.rowsS (spOf f (i : Int)) (upTo f.shop.pigs.length p i) := h0
  have hpg := Shop.pigsOK (Fnd.shopOK hf)
  rw [hmem]
  constructor
  · rintro ⟨h1, h2⟩
    have hbx : ∀ i : Nat, i < f.nights.length → nth p i ∈ boxS (remL f (upTo f.shop.pigs.length p i)) := fun i hi => rowsS_box (h2 i hi)
    have hB : ∀ i : Nat, i ≤ f.nights.length → BefP f (upTo f.shop.pigs.length p i) := fun i hi => befP_upTo i fun k hk => hbx k (by omega)
    refine ⟨?_, fun i hi => ?_⟩
    · simp only [Fnd.isPlan, Bool.and_eq_true, decide_eq_true_eq, allI_iff]
      refine ⟨⟨by omega, fun i hi => ?_⟩, fun i hi => ?_⟩
      · obtain ⟨g1, g2⟩ := mem_boxS.1 (hbx i (by omega))
        rw [remL_len] at g1 g2
        simp only [rowOK, Bool.and_eq_true, decide_eq_true_eq, allI_iff, fitsMany, within]
        refine ⟨by omega, fun j hj => ?_⟩
        have g3 := g2 j (by omega)
        rw [remL_nth (by omega)] at g3
        have g4 := (hB i (by omega)).pos j (by rw [(hB i (by omega)).len]; omega)
        omega
      · rw [fitsAt_iff]
        have g0 := hB (i + 1) (by omega)
        obtain ⟨g1, g2, _⟩ := (mem_rowsS (hB i (by omega))).1 (h2 i (by omega))
        obtain ⟨g3, g4⟩ := mem_boxS.1 g1
        rw [remL_len] at g3 g4
        refine ⟨fun j hj => ⟨g0.pos j (by rw [g0.len]; exact hj), ?_⟩, ?_⟩
        · have g5 := g4 j hj
          rw [remL_nth hj] at g5
          rw [upTo, nth_plus (by rw [upTo_len]; exact hj)]
          omega
        · rw [upTo, sumOf_plus (by rw [upTo_len, g3])]
          simp only [spOf, Int.toNat_natCast] at g2
          omega
    · exact ((mem_rowsS (hB i (by omega))).1 (h2 i hi)).2.2
  · rintro ⟨h1, h2⟩
    have hPB := Fnd.planB hf h1
    simp only [Fnd.isPlan, Bool.and_eq_true, decide_eq_true_eq, allI_iff] at h1
    obtain ⟨⟨h3, h4⟩, h5⟩ := h1
    refine ⟨by omega, fun i hi => ?_⟩
    have hfa := fun k (hk : k < p.length) => fitsAt_iff.1 (h5 k hk)
    have hb : BefP f (upTo f.shop.pigs.length p i) := by
      refine ⟨upTo_len _ _ _, fun j hj => ?_⟩
      rw [upTo_len] at hj
      have := upTo_bnd (by omega) hPB.2 i (by have := hPB.1; omega) j (by rw [upTo_len]; exact hj)
      exact this.1
    have g1 := hfa i (by omega)
    have g2 := hPB.2 i (by omega)
    refine (mem_rowsS hb).2 ⟨mem_boxS.2 ⟨by rw [remL_len]; exact g2.1, fun j hj => ?_⟩, ?_, h2 i hi⟩
    · rw [remL_len] at hj
      have g3 := (g1.1 j hj).2
      rw [upTo, nth_plus (by rw [upTo_len]; exact hj)] at g3
      rw [remL_nth hj]
      have := (g2.2 j (by rw [g2.1]; exact hj)).1
      omega
    · have g3 := g1.2
      rw [upTo, sumOf_plus (by rw [upTo_len, g2.1])] at g3
      simp only [spOf, Int.toNat_natCast]
      omega
theorem foldl_stepM {c : List (List Int) → Int} : ∀ (t : List (List (List Int))) (b : List (List Int)), ∃ x, (x = b ∨ x ∈ t) ∧ t.foldl (stepM c) (c b, b, true) = (c x, x, true) ∧ c x ≤ c b ∧ (∀ y ∈ t, c x ≤ c y)
  | [], b => ⟨b, .inl rfl, rfl, Int.le_refl _, fun y h => by simp at h⟩
  | y :: t, b => by
    rw [List.foldl_cons]
    by_cases h : c y < c b
    · have e : stepM c (c b, b, true) y = (c y, y, true) := by simp [stepM, h]
      rw [e]
      obtain ⟨x, h1, h2, h3, h4⟩ := foldl_stepM t y
      refine ⟨x, ?_, h2, by omega, fun z hz => ?_⟩
      · rcases h1 with rfl | h1
        · exact .inr List.mem_cons_self
        · exact .inr (List.mem_cons_of_mem _ h1)
      · rcases List.mem_cons.1 hz with rfl | hz
        · exact h3
        · exact h4 z hz
    · have e : stepM c (c b, b, true) y = (c b, b, true) := by simp [stepM, h]
      rw [e]
      obtain ⟨x, h1, h2, h3, h4⟩ := foldl_stepM t b
      refine ⟨x, ?_, h2, h3, fun z hz => ?_⟩
      · rcases h1 with rfl | h1
        · exact .inl rfl
        · exact .inr (List.mem_cons_of_mem _ h1)
      · rcases List.mem_cons.1 hz with rfl | hz
        · omega
        · exact h4 z hz
theorem fmin_spec {c : List (List Int) → Int} {L : List (List (List Int))} (h : 0 < L.length) : ∃ x ∈ L, fmin c L = (c x, x, true) ∧ ∀ y ∈ L, c x ≤ c y := by
  match L, h with
  | b :: t, _ =>
    rw [fmin_cons]
    obtain ⟨x, h1, h2, h3, h4⟩ := foldl_stepM (c := c) t b
    refine ⟨x, ?_, h2, fun y hy => ?_⟩
    · rcases h1 with rfl | h1
      · exact List.mem_cons_self
      · exact List.mem_cons_of_mem _ h1
    · rcases List.mem_cons.1 hy with rfl | hy
      · exact h3
      · exact h4 y hy
theorem least_spec {f : Fnd} (hf : f.chk = true) (g : Int → List Int → Int) : (f.allPlans = [] ∧ f.leastE g = 3) ∨ (0 < f.allPlans.length ∧ f.leastE g = 0 ∧ ∃ p ∈ f.allPlans, f.bestF g = (gcost g f.shop.pigs p, p, true) ∧ f.leastV g = gcost g f.shop.pigs p ∧ ∀ q ∈ f.allPlans, gcost g f.shop.pigs p ≤ gcost g f.shop.pigs q) := by
  have hE : f.leastE g = if f.allPlans.length = 0 then 3 else 0 := by rw [leastE_eq, Fnd.plansE, hf]; rfl
  by_cases h : f.allPlans.length = 0
  · exact .inl ⟨List.length_eq_zero_iff.1 h, by rw [hE, if_pos h]⟩
  · rw [if_neg h] at hE
    obtain ⟨p, h1, h2, h3⟩ := fmin_spec (c := gcost g f.shop.pigs) (show 0 < f.allPlans.length by omega)
    refine .inr ⟨by omega, hE, p, h1, by rw [bestF_eq hf, h2], ?_, h3⟩
    unfold Fnd.leastV
    rw [if_pos hE, bestF_eq hf, h2]
theorem leastV_small {f : Fnd} (hf : f.chk = true) {g : Int → List Int → Int} (hg : OfB g) : 0 ≤ f.leastV g ∧ f.leastV g ≤ 8000 := by
  unfold Fnd.leastV
  split
  · have h1 := bestW_bnd hg (Shop.pigsOK (Fnd.shopOK hf)) f.nights.length 0 f.pt0 (left0 f.shop.pigs) (left0_b (Shop.pigsOK (Fnd.shopOK hf)))
    have h2 := (Fnd.nightsOK hf).2
    unfold Fnd.bestF
    omega
  · omega
theorem now_small {f : Fnd} (hf : f.chk = true) : ∀ (n : Nat) (night : Int) (s : Sp) (before : List Int), BefP f before → f.now n night s before = neverC ∨ (0 ≤ f.now n night s before ∧ f.now n night s before ≤ 2000 * n)
  | 0, _, _, _, _ => .inr (by simp [Fnd.now])
  | n + 1, night, s, before, hb => by
    have hpg := Shop.pigsOK (Fnd.shopOK hf)
    have key : ∀ s : Sp, f.beh (f.now n (night + 1)) night s before = neverC ∨ (0 ≤ f.beh (f.now n (night + 1)) night s before ∧ f.beh (f.now n (night + 1)) night s before ≤ 2000 * (n + 1 : Nat)) := fun s => by
      have h0 := (beh_le (f := f) (nx := f.now n (night + 1)) (night := night) (s := s) (before := before)).1
      rcases beh_at (f := f) (nx := f.now n (night + 1)) (night := night) (s := s) (before := before) with h | ⟨r, hr, h⟩
      · exact .inl h
      · have hbx := rowsS_box hr
        have h1 := pence_pos hpg hb hbx
        rcases now_small hf n (night + 1) (nextS f night s) (plus before r) (hb.next hbx) with h2 | h2
        · rw [h2] at h; exact .inl (by omega)
        · exact .inr (by omega)
    simp only [Fnd.now]
    split
    · exact key s
    · rcases worst3_at (g := fun t a d => f.beh (f.now n (night + 1)) night ⟨t, t, a, a, d, d⟩ before) (s := s) with h | ⟨t, a, d, _, _, _, h⟩
      · rw [h]; exact .inr (by omega)
      · rw [h]; exact key _
theorem knownN_small {f : Fnd} (hf : f.chk = true) : f.knownN = neverC ∨ (0 ≤ f.knownN ∧ f.knownN ≤ 8000) := by
  have h2 := (Fnd.nightsOK hf).2
  rcases now_small hf f.nights.length 0 ⟨f.shop.tl, f.shop.th, f.shop.al, f.shop.ah, 0, 0⟩ f.zeros (bef_zeros f) with h | h
  · exact .inl h
  · exact .inr (by unfold Fnd.knownN; omega)
theorem knownC_eq {f : Fnd} (hf : f.chk = true) : (f.knownN = neverC ∧ f.wKnownE = 3 ∧ f.knownC = 1000000) ∨ (0 ≤ f.knownN ∧ f.knownN ≤ 8000 ∧ f.wKnownE = 0 ∧ f.wKnownV = f.knownN ∧ f.knownC = f.knownN) := by
  have hn : neverC = 1073741824 := rfl
  have hE : f.wKnownE = if f.knownN ≥ neverC then 3 else 0 := by rw [wKnownE_eq, Fnd.knownE, hf]; rfl
  unfold Fnd.knownC costN
  rcases knownN_small hf with h | h
  · rw [if_pos (by omega)] at hE
    exact .inl ⟨h, hE, by rw [hE]; rfl⟩
  · rw [if_neg (by omega)] at hE
    have hv : f.wKnownV = f.knownN := by rw [wKnownV_eq, Fnd.knownV, ← wKnownE_eq, if_pos hE]
    exact .inr ⟨h.1, h.2, hE, hv, by rw [hE, hv]; rfl⟩
theorem leastC_eq {f : Fnd} (hf : f.chk = true) {g : Int → List Int → Int} (hg : OfB g) : (f.allPlans = [] ∧ f.leastE g = 3 ∧ costN (f.leastV g) (f.leastE g) = 1000000) ∨ (0 < f.allPlans.length ∧ f.leastE g = 0 ∧ costN (f.leastV g) (f.leastE g) = f.leastV g ∧ 0 ≤ f.leastV g ∧ f.leastV g ≤ 8000 ∧ ∃ p ∈ f.allPlans, f.bestF g = (gcost g f.shop.pigs p, p, true) ∧ f.leastV g = gcost g f.shop.pigs p ∧ ∀ q ∈ f.allPlans, f.leastV g ≤ gcost g f.shop.pigs q) := by
  have h1 := leastV_small hf hg
  rcases least_spec hf g with ⟨h2, h3⟩ | ⟨h2, h3, p, h4, h5, h6, h7⟩
  · exact .inl ⟨h2, h3, by rw [h3]; rfl⟩
  · exact .inr ⟨h2, h3, by rw [h3]; rfl, h1.1, h1.2, p, h4, h5, h6, fun q hq => by rw [h6]; exact h7 q hq⟩
theorem costsLaw {f : Fnd} (hf : f.chk = true) : CostsLaw f := by
  have key : ∀ g, OfB g → costB (f.leastV g) (f.leastE g) = true := fun g hg => by
    rcases leastC_eq hf hg with ⟨_, h, _⟩ | ⟨_, h, _, h1, h2, _⟩
    · rw [h]; rfl
    · rw [h]; simp [costB, h1]; omega
  refine ⟨key _ costG_b, key _ onceG_b, ?_, ?_⟩
  · rcases knownC_eq hf with ⟨_, h, _⟩ | ⟨h1, h2, h, h3, _⟩
    · rw [h]; rfl
    · rw [h, h3]; simp [costB, h1]; omega
  · rw [decide_eq_decide]
    unfold Fnd.cheapC Fnd.onceC
    rcases leastC_eq hf costG_b with ⟨h1, h2, h3⟩ | ⟨h1, h2, h3, h4, h5, _⟩
    · rcases leastC_eq hf onceG_b with ⟨g1, g2, g3⟩ | ⟨g1, g2, g3, g4, g5, _⟩
      · rw [h3, g3]
      · rw [h1] at g1; simp at g1
    · rcases leastC_eq hf onceG_b with ⟨g1, g2, g3⟩ | ⟨g1, g2, g3, g4, g5, _⟩
      · rw [g1] at h1; simp at h1
      · rw [h3, g3]; omega
theorem gcost_take {g : Int → List Int → Int} {pigs : List Pig} : ∀ (p : List (List Int)) (m : Nat), (∀ r ∈ p, 0 ≤ g (sumOf Pig.pence pigs r) r) → gcost g pigs (p.take m) ≤ gcost g pigs p
  | [], m, _ => by simp
  | r :: p, 0, h => by
    have h1 := h r List.mem_cons_self
    have h2 := gcost_take p 0 (fun x hx => h x (List.mem_cons_of_mem _ hx))
    simp only [List.take_zero, gcost] at h2 ⊢
    omega
  | r :: p, m + 1, h => by
    have h2 := gcost_take p m (fun x hx => h x (List.mem_cons_of_mem _ hx))
    simp only [List.take_succ_cons, gcost]
    omega
theorem gcost_congr {g : Int → List Int → Int} {p q : List Pig} (h : ∀ r, sumOf Pig.pence p r = sumOf Pig.pence q r) : ∀ x : List (List Int), gcost g p x = gcost g q x
  | [] => rfl
  | r :: x => by rw [gcost, gcost, gcost_congr h x, h]
theorem allPlans_row {f : Fnd} (hf : f.chk = true) {p : List (List Int)} (hp : p ∈ f.allPlans) {r : List Int} (hr : r ∈ p) : r.length = f.shop.pigs.length ∧ bnd r 5 ∧ nonneg r := by
  have hB := Fnd.planB hf ((mem_allPlans hf).1 hp).1
  obtain ⟨j, hj, rfl⟩ := List.mem_iff_getElem.1 hr
  have := hB.2 j hj
  rw [nthN hj] at this
  exact ⟨this.1, this.2, fun k hk => (this.2 k hk).1⟩
theorem row_cost {f : Fnd} (hf : f.chk = true) {g : Int → List Int → Int} (hg : OfB g) {p : List (List Int)} (hp : p ∈ f.allPlans) {r : List Int} (hr : r ∈ p) : 0 ≤ g (sumOf Pig.pence f.shop.pigs r) r ∧ g (sumOf Pig.pence f.shop.pigs r) r ≤ 2000 := by
  have h1 := allPlans_row hf hp hr
  have h2 := pence_bnd (Shop.pigsOK (Fnd.shopOK hf)) h1.1 h1.2.1
  exact hg _ _ h2.1 h2.2
theorem Better.least {f o : Fnd} (B : Better f o) (hf : f.chk = true) (ho : o.chk = true) {g : Int → List Int → Int} (hg : OfB g) : costN (o.leastV g) (o.leastE g) ≤ costN (f.leastV g) (f.leastE g) := by
  rcases leastC_eq hf hg with ⟨_, _, h1⟩ | ⟨_, _, h1, h2, h3, p, hp, _, h4, _⟩
  · rw [h1]
    rcases leastC_eq ho hg with ⟨_, _, g1⟩ | ⟨_, _, g1, g2, g3, _⟩
    · rw [g1]; exact Int.le_refl _
    · rw [g1]; omega
  · have hq := B.plans f.nights.length 0 o.nights.length f.zeros p (by omega) (by omega) (bef_zeros f) hp
    have hz : f.zeros = o.zeros := by unfold Fnd.zeros; rw [B.k]
    rw [hz] at hq
    have hq2 : p.take o.nights.length ∈ o.allPlans := hq
    rcases leastC_eq ho hg with ⟨g0, _, _⟩ | ⟨_, _, g1, _, _, q, _, _, _, g4⟩
    · rw [g0] at hq2; simp at hq2
    · have h5 := g4 _ hq2
      have h6 := gcost_take (g := g) (pigs := f.shop.pigs) p o.nights.length (fun r hr => (row_cost hf hg hp hr).1)
      rw [gcost_congr (fun r => B.pence r)] at h5
      rw [h1, g1]; omega
theorem Better.less {f o : Fnd} (B : Better f o) (hf : f.chk = true) (ho : o.chk = true) (ht : ∀ i : Nat, i < o.nights.length → (nth o.nights i).test = (nth f.nights i).test ∨ (nth f.nights i).test = 0) : LessLaw o f := by
  refine ⟨costsLaw ho, costsLaw hf, B.least hf ho costG_b, B.least hf ho onceG_b, ?_⟩
  have hz : f.zeros = o.zeros := by unfold Fnd.zeros; rw [B.k]
  have h1 := B.known hf ho ht f.nights.length 0 o.nights.length ⟨o.shop.tl, o.shop.th, o.shop.al, o.shop.ah, 0, 0⟩ ⟨f.shop.tl, f.shop.th, f.shop.al, f.shop.ah, 0, 0⟩ f.zeros (by omega) (by omega) (bef_zeros f) (zeros_bnd f 5 (by omega)) (by have := B.s; unfold SpIn; simp only []; omega)
  rw [show o.now o.nights.length ((0 : Nat) : Int) ⟨o.shop.tl, o.shop.th, o.shop.al, o.shop.ah, 0, 0⟩ f.zeros = o.knownN from by rw [hz]; rfl] at h1
  have h1 : o.knownN ≤ f.knownN := h1
  have hn : neverC = 1073741824 := rfl
  rcases knownC_eq hf with ⟨h2, _, h3⟩ | ⟨h2, h3, _, _, h4⟩
  · rw [h3]
    rcases knownC_eq ho with ⟨_, _, g3⟩ | ⟨_, g3, _, _, g4⟩
    · omega
    · omega
  · rw [h4]
    rcases knownC_eq ho with ⟨g2, _, g3⟩ | ⟨_, g3, _, _, g4⟩
    · omega
    · omega
end Go.Flong
namespace Go.Flong
open Go Go.Eng
structure Clr where
  tl : Int
  th : Int
  al : Int
  ah : Int
  night : Int
  dl : Int
  dh : Int
def Fnd.pigged (f : Fnd) (k : Int) : Fnd := { f with shop := { f.shop with pigs := lset f.shop.pigs k { nth f.shop.pigs k with many := (nth f.shop.pigs k).many + 1 } } }
end Go.Flong
namespace Go.Flong
open Go Go.Eng
theorem hiTo_le {l l' : List Night} : ∀ {n : Nat}, (∀ i : Nat, i < n → (nth l i).hi ≤ (nth l' i).hi) → hiTo l n ≤ hiTo l' n
  | 0, _ => Int.le_refl _
  | n + 1, h => by
    have h1 := hiTo_le (l := l) (l' := l') (n := n) (fun i hi => h i (by omega))
    have h2 := h n (by omega)
    simp only [hiTo]; omega
theorem chk_of {f : Fnd} (h1 : f.shop.chk = true) (h2 : f.nights.length ≤ 4) (h3 : ∀ i : Nat, i < f.nights.length → (nth f.nights i).chk = true) (h4 : hiTo f.nights f.nights.length ≤ f.shop.tl) : f.chk = true := by
  simp only [Fnd.chk, Bool.and_eq_true, decide_eq_true_eq]
  exact ⟨⟨⟨h1, by omega⟩, all_of h3⟩, h4⟩
section
variable {f o : Fnd}
theorem Better.zeros (B : Better f o) : o.zeros = f.zeros := by unfold Fnd.zeros; rw [B.k]
end
section
variable {f : Fnd} {c : Clr}
end
section
variable {f o : Fnd} {plan : List (List Int)}
theorem Better.isPlan (B : Better f o) (hn : o.nights.length = f.nights.length) (hf : f.chk = true) (h : f.isPlan plan = true) : o.isPlan plan = true := by
  simp only [Fnd.isPlan, Bool.and_eq_true, decide_eq_true_eq, allI_iff] at h ⊢
  obtain ⟨⟨h1, h2⟩, h3⟩ := h
  refine ⟨⟨by omega, fun i hi => ?_⟩, fun i hi => ?_⟩
  · have := h2 i hi
    simp only [rowOK, Bool.and_eq_true, decide_eq_true_eq, allI_iff, fitsMany, within] at this ⊢
    refine ⟨by rw [B.k]; exact this.1, fun j hj => ?_⟩
    have h4 := this.2 j hj
    have h5 := (B.g j).2.2.2.2
    omega
  · have h4 := fitsAt_iff.1 (h3 i hi)
    rw [fitsAt_iff, B.k]
    refine ⟨fun j hj => ?_, ?_⟩
    · have h5 := h4.1 j hj
      have h6 := (B.g j).2.2.2.2
      omega
    · have h5 := (B.sp i (by omega)).2.2.1
      simp only [spOf, Int.toNat_natCast] at h5
      have h6 := B.p
      rw [B.pounds]; omega
theorem Better.safeAt (B : Better f o) {i : Nat} (hi : i < o.nights.length) (h : f.safeAt plan i = true) : o.safeAt plan i = true := by
  unfold Fnd.safeAt at *
  rw [B.safe, B.k]
  have := B.sp i (by omega)
  unfold spOf at this
  simp only [Int.toNat_natCast] at this
  exact safe_sub this h
theorem Better.holds (B : Better f o) (hn : o.nights.length = f.nights.length) {t a : Int} : ∀ (n : Nat) (d : Int), n ≤ f.nights.length → o.holds plan t a n d = true → f.holds plan t a n d = true
  | 0, _, _, _ => rfl
  | n + 1, d, hle, h => by
    simp only [Fnd.holds, Bool.and_eq_true, not_allI_iff, Bool.not_eq_false'] at h ⊢
    rw [hn, B.keeps, B.k] at h
    obtain ⟨h1, i, h2, h3⟩ := h
    have hd := B.d (f.nights.length - (n + 1)) (by omega)
    refine ⟨h1, (i + ((nth o.nights ((f.nights.length - (n + 1) : Nat) : Int)).lo - (nth f.nights ((f.nights.length - (n + 1) : Nat) : Int)).lo).toNat), by omega, ?_⟩
    have := B.holds hn n _ (by omega) h3
    rw [← this]
    congr 1
    omega
end
end Go.Flong
namespace Go.Eng
open Go
def PZ {α : Type} (E : EP α) (l : List α) : Pred := ⟨fun I v => (PL E l).h I v ∧ (l = [] → v = .slice none 0 0), fun hI h => ⟨(PL E l).mono hI h.1, h.2⟩⟩
theorem lxz {X : List (Nat × Pred)} {j : Nat} {α : Type} {E : EP α} {l : List α} (h : look j X = some (PZ E l)) : Has X j (PL E l) := ⟨_, h, fun _ _ h => h.1⟩
theorem lxzn {X : List (Nat × Pred)} {j : Nat} {α : Type} {E : EP α} (h : look j X = some (PZ E [])) : Has X j (Pred.is (.slice none 0 0)) := ⟨_, h, fun _ _ h => h.2 rfl⟩
theorem pz_ok {α : Type} {E : EP α} : ∀ I, (PZ E []).h I (.slice none 0 0) := fun _ => ⟨pl_nil, fun _ => rfl⟩
theorem PZ.of {α : Type} {E : EP α} {l : List α} (hl : l ≠ []) : ∀ I v, (PL E l).h I v → (PZ E l).h I v := fun _ _ h => ⟨h, fun e => absurd e hl⟩
theorem o_eqz {cx : Cx} {S : St} {dst : Option Tmp} {ty : TypeId} {pos : String} {af : Array Edge} {gd : Option (Nat × Bool)} {x : Operand} {t t' e : TypeId} {j : Nat} {α : Type} {E : EP α} {l : List α} (hT : cx.P.underlying t = some (.slice e)) (hx : S.op x = some (.e (.a (.q j)))) (hj : Has S.X j (PZ E l)) :
    OpG cx S ⟨dst, .binOp .eql t x (.const (.slice none 0 0)) t', ty, pos, af, gd⟩ (.val (.b (decide ((l.length : Int) = 0)))) :=
  OpG.pure (fun _ => by simp) fun M ε I ac w hs => ⟨trivial, by
    have h1 := hs.eval hx
    obtain ⟨⟨ad, cap, hv, hc, hl⟩, hz⟩ := hs.has hj
    simp only [SV.den, El.den, At.den, hv] at h1
    have h3 : ac.eval (.const (.slice none 0 0)) = .slice none 0 0 := rfl
    have h4 : ad.isNone = decide ((l.length : Int) = 0) := by
      cases l with
      | nil =>
        have h5 := hz rfl
        rw [hv] at h5
        simp at h5
        rw [h5.1]; rfl
      | cons y t =>
        obtain ⟨cs, ad', _, h2, _⟩ := hl 0 (by simp)
        rw [h2]
        simp only [Option.isNone, List.length_cons]
        exact (decide_eq_false (by omega)).symm
    simp [execOp, h1, h3, eqGuard, binOp, run_eqsl hT, SV.den, El.den, At.den, h4]⟩
def ItQ (P : Program) (items : List Item) : Pred := ⟨fun I v => ∃ f fs cs, v = .func (.func f) fs cs ∧ Enters' P f ∧ ∀ I' w, I.le I' → I'.on w → ItC P f (fun y => fs ++ #[y] ++ cs) I' w items, fun hI ⟨f, fs, cs, h1, h2, h3⟩ => ⟨f, fs, cs, h1, h2, fun I' w hle => h3 I' w (hI.trans hle)⟩⟩
def SigJ (P : Program) (f : FuncId) (bs : List SV) (Xc : List (Nat × Pred)) (items : List Item) : Prop := ∀ (I : IH) (w : World) (ν : Nat → Value), I.on w → FactsOK ν I Xc → ItC P f (fun y => (bs.map (den0 ν)).toArray ++ #[y] ++ #[]) I w items
theorem ItQ.hit {cx : Cx} {S : St} {j : Nat} {items : List Item} (hj : Has S.X j (ItQ cx.P items)) : ∀ M ε I a w, SatM cx M ε I S a w → ∃ f fs cs, (SV.e (.a (.q j))).den ε = .func (.func f) fs cs ∧ Enters' cx.P f ∧ ∀ w2, I.on w2 → ItC cx.P f (fun y => fs ++ #[y] ++ cs) I w2 items := fun M ε I a w hs => by
  obtain ⟨f, fs, cs, h1, h2, h3⟩ := hs.has hj
  exact ⟨f, fs, cs, h1, h2, fun w2 h => h3 I w2 IH.le.rfl' h⟩
theorem SigI.hit {cx : Cx} {S : St} {f : FuncId} {items : List Item} (hs : SigI cx.P f [] [] items) (hen : Enters' cx.P f) : ∀ M ε I a w, SatM cx M ε I S a w → ∃ f' fs cs, (SV.e (.a (.f f []))).den ε = .func (.func f') fs cs ∧ Enters' cx.P f' ∧ ∀ w2, I.on w2 → ItC cx.P f' (fun y => fs ++ #[y] ++ cs) I w2 items := fun M ε I a w _ =>
  ⟨f, #[], #[], rfl, hen, fun w2 h => hs I w2 (fun _ => undef) h trivial⟩
theorem o_mkbit {cx : Cx} {S : St} {dst : Option Tmp} {ty : TypeId} {pos : String} {af : Array Edge} {gd : Option (Nat × Bool)} {P : Program} {f : FuncId} {l : List Operand} {bs svs : List SV} {Xc : List (Nat × Pred)} {items : List Item} (k : Nat) (ρ : Nat → Nat) (hs : SigJ P f bs Xc items) (hen : Enters' P f)
    (hl : S.ops l = some svs) (hren : SvsOK S svs (bs.map (SV.ren ρ))) (hwc : ∀ x ∈ bs, x.res (keys Xc)) (hX : RenOK S.X ρ Xc) :
    OpG cx S ⟨dst, .makeFunc (.func f) l.toArray #[], ty, pos, af, gd⟩ ⟨.e (.a (.q k)), [k], [(k, ItQ P items)], [], []⟩ :=
  o_mkfn (l' := []) hl rfl fun M ε I a w h => by
    rw [hren.den h, svs_ren hwc]
    exact ⟨f, _, _, rfl, hen, fun I' w' hle hon => hs I' w' _ hon (FactsOK.mono hle (FactsOK.of (fun j R hj => h.has hj) hX))⟩
theorem SigJ.intro {P : Program} {f : FuncId} {fn : Func} {c : Code} {bs : List SV} {Xc : List (Nat × Pred)} {items : List Item} (hf : P.funcs[f]? = some fn) (hb : fn.body = some c) (n ky : Nat) (hwf : ∀ x ∈ bs, x.res (keys Xc)) (hn : (keys Xc).all (Nat.blt · n) = true) (hky : Nat.blt ky n = true) (hN : Nat.ble (bs.length + 1) fn.ntmps = true)
    (h : ∀ (I : IH) (w : World) (l : Nat) (Y : Nat → YI w.heap.size) (K : YI w.heap.size) (F0 : Nat → Prop),
      (∀ i it, items[i]? = some it → ∀ F I' w' us vs, (Y i).J F I' w' → I.le I' → I'.on w' → w.heap.size ≤ w'.heap.size → (∀ b, F0 b → F b) → it.ok F I' w' us vs → RoundR P l vs w.heap.size F I' w' (Y (i + 1)) K) →
      WP ⟨P, none, w, fn.ntmps, F0, I, 0, fun _ => 0, fun _ => undef⟩ ⟨n, frOf 0 (bs ++ [SV.e (.a (.v (yv l)))]), Xc, [(ky, .ext ((Y 0).xp F0))], [], []⟩ c (PostI P fn (ItR I w F0 fun F' I' w' => (Y items.length).J F' I' w' ∨ K.J F' I' w'))) :
    SigJ P f bs Xc items := fun I w ν hI hX l Y K F0 hY hround => by
  have hky' : ky < n := by rw [Nat.blt_eq] at hky; exact hky
  refine It.intro hf hb hI hY ν (bs ++ [SV.e (.a (.v (yv l)))]) Xc n ky _ rfl ?_ hX ?_ (fun k hk => by simpa [Nat.blt_eq] using List.all_eq_true.1 hn k hk) hky' (by simpa using hN) (h I w l Y K F0 hround)
  · show _ = ((bs ++ [SV.e (.a (.v (yv l)))]).map (den0 ν)).toArray
    rw [List.map_append]
    simp [den0, SV.den, El.den, At.den]
  · intro x hx
    rcases List.mem_append.1 hx with hx | hx
    · exact hwf x hx
    · rw [List.mem_singleton] at hx; subst hx; trivial
section
variable {cx : Cx} {Q : Exit → Act → World → Prop} {g : Operand} {ps : List Tmp} {assign body : Code} {j : Nat} {items : List Item} {fid : FuncId}
variable {n : Nat} {fr : List (Nat × SV)} {X : List (Nat × Pred)} {L : List (Nat × Ent)} {D : List Nat} {G : List (Nat × Bool)}
theorem WP.rangeV {fv : SV} (m q N : Nat) (gI : Nat → Item) (Sg : Nat → St) (Kx : Code → St → Prop) (hr : cx.r = none) (hg : St.op ⟨n, fr, X, L, D, G⟩ g = some fv)
    (hv : ∀ M ε I a w, SatM cx M ε I ⟨n, fr, X, L, D, G⟩ a w → ∃ f fs cs, fv.den ε = .func (.func f) fs cs ∧ Enters' cx.P f ∧ ∀ w2, I.on w2 → ItC cx.P f (fun y => fs ++ #[y] ++ cs) I w2 items) (hit : items = (List.range N).map gI)
    (hst : ∀ i, RSt fr (n :: D) m (n + 1) (Sg i)) (hkx : ∀ c T, Kx c T → RSt fr (n :: D) m (n + 1) T) (hfr : fr.all (fun p => p.2.kbp (n + 2)) = true) (hD : (n :: D).all (Nat.blt · (n + 2)) = true) (hm : Nat.ble (n + 2) m = true)
    (hitem : ∀ i, i < N → ItemOK q ps (gI i)) (hnd : nodupb ps = true) (hps : ps.all (Nat.blt · cx.N) = true)
    (ρ : Nat → Nat) (h0 : LeR (n + 2) ⟨n + 2, fr, X, (n, .ob (.deferred (some []))) :: L, n :: D, []⟩ (Sg 0) ρ)
    (round : ∀ i, i < N → ∀ (w0 : World) (E : Nat → Prop) (I0 : IH) (R1 : Loop) (pβ : Nat → Nat) (pν us : Nat → Value), WP ⟨cx.P, some (pβ (n + 1)), w0, cx.N, E, I0, n + 2, pβ, pν⟩ (roundSt m q (n + 1) ps (gI i) (Sg i) { R1 with state := .ready } us) assign
      (AsgQ ⟨cx.P, some (pβ (n + 1)), w0, cx.N, E, I0, n + 2, pβ, pν⟩ (n + 1) { R1 with state := .ready } body (RndQ ⟨cx.P, some (pβ (n + 1)), w0, cx.N, E, I0, n + 2, pβ, pν⟩ (n + 1) { R1 with state := .busy } (Sg (i + 1)) Kx)))
    (hjump : ∀ c T, Kx c T → WP cx T c Q) (hnorm : EX cx (Sg N) .normal Q) : WP cx ⟨n, fr, X, L, D, G⟩ (.rangeFunc g ps.toArray assign body) Q := by
  subst hit
  exact WP.range hr (Rng.ofG hst hkx hfr hD hm hitem hnd hps round) hg hv ρ h0 (by simpa using hnorm) hjump
end
section
variable {cx : Cx} {n : Nat} {fr : List (Nat × SV)} {X : List (Nat × Pred)} {L : List (Nat × Ent)} {D : List Nat} {G : List (Nat × Bool)}
theorem Imp.fact (k : Nat) {R R' : Pred} (hk : Has X k R) (h : ∀ I v, R.h I v → R'.h I v) : Imp cx ⟨n, fr, X, L, D, G⟩ ⟨n, fr, (k, R') :: X, L, D, G⟩ := fun ε I a w hs => by
  have h0 := hs.has hk
  obtain ⟨R0, h1, h2⟩ := hk
  refine ⟨ε, I, { hs with wfX := fun j R hj => ?_, X := fun j R hj => ?_ }⟩
  · have hj : look j ((k, R') :: X) = some R := hj
    rw [look_cons] at hj
    by_cases h : k = j
    · subst h; exact hs.wfX k _ h1
    · simp [h] at hj; exact hs.wfX j R hj
  · have hj : look j ((k, R') :: X) = some R := hj
    rw [look_cons] at hj
    by_cases h3 : k = j
    · subst h3; simp at hj; subst hj; exact h _ _ h0
    · simp [h3] at hj; exact hs.X j R hj
end
end Go.Eng
namespace Go.Flong
open Go Go.Eng
def cmpI (a b : Int) : Int := if a < b then -1 else if b < a then 1 else 0
def cmpL : List Int → List Int → Int
  | [], [] => 0
  | [], _ :: _ => -1
  | _ :: _, [] => 1
  | x :: a, y :: b => if cmpI x y = 0 then cmpL a b else cmpI x y
theorem cmpI_eq {a b : Int} : cmpI a b = 0 ↔ a = b := by unfold cmpI; split; omega; split <;> omega
theorem nthSc {α : Type} [Inhabited α] {b : α} {t : List α} {j : Nat} : nth (b :: t) ((j + 1 : Nat) : Int) = nth t (j : Int) := by
  have e : ((j + 1 : Nat) : Int).toNat = j + 1 := by omega
  have e2 : ((j : Nat) : Int).toNat = j := by omega
  simp only [nth, e, e2, List.getD_cons_succ]
theorem cmpL_drop : ∀ {i : Nat} {a b : List Int}, allI (sameAt a b) i = true → i ≤ a.length → i ≤ b.length → cmpL a b = cmpL (a.drop i) (b.drop i)
  | 0, _, _, _, _, _ => by simp
  | i + 1, [], _, _, h, _ => by simp at h
  | i + 1, _ :: _, [], _, _, h => by simp at h
  | i + 1, x :: a, y :: b, h, h1, h2 => by
    have h0 := allI_iff.1 h 0 (by omega)
    have e : x = y := by simpa [sameAt, nth] using h0
    have := cmpL_drop (i := i) (a := a) (b := b) (allI_iff.2 fun j hj => by
      have := allI_iff.1 h (j + 1) (by omega)
      simpa only [sameAt, nthSc] using this) (by simpa using h1) (by simpa using h2)
    simp only [cmpL, if_pos (cmpI_eq.2 e), List.drop_succ_cons, this]
theorem drop_at {l : List Int} {i : Nat} (h : i < l.length) : l.drop i = nth l i :: l.drop (i + 1) := by
  rw [nthN h]; exact List.drop_eq_getElem_cons h
theorem cmpL_at {i : Nat} {a b : List Int} (h : allI (sameAt a b) i = true) (h1 : i < a.length) (h2 : i < b.length) (hne : cmpI (nth a i) (nth b i) ≠ 0) : cmpL a b = cmpI (nth a i) (nth b i) := by
  rw [cmpL_drop h (by omega) (by omega), drop_at h1, drop_at h2]
  simp only [cmpL, if_neg hne]
theorem cmpL_long {i : Nat} {a b : List Int} (h : allI (sameAt a b) i = true) (h1 : i < a.length) (h2 : i = b.length) : cmpL a b = 1 := by
  rw [cmpL_drop h (by omega) (by omega), drop_at h1, List.drop_of_length_le (show b.length ≤ i by omega)]; rfl
theorem cmpL_short {i : Nat} {a b : List Int} (h : allI (sameAt a b) i = true) (h1 : i = a.length) (h2 : i < b.length) : cmpL a b = -1 := by
  rw [cmpL_drop h (by omega) (by omega), drop_at h2, List.drop_of_length_le (show a.length ≤ i by omega)]; rfl
theorem cmpL_same {i : Nat} {a b : List Int} (h : allI (sameAt a b) i = true) (h1 : i = a.length) (h2 : i = b.length) : cmpL a b = 0 := by
  rw [cmpL_drop h (by omega) (by omega), List.drop_of_length_le (show b.length ≤ i by omega), List.drop_of_length_le (show a.length ≤ i by omega)]; rfl
theorem cmpI_refl (a : Int) : cmpI a a = 0 := cmpI_eq.2 rfl
theorem cmpI_lt {a b : Int} : cmpI a b < 0 ↔ a < b := by unfold cmpI; split; omega; split <;> omega
theorem cmpL_refl : ∀ a : List Int, cmpL a a = 0
  | [] => rfl
  | x :: a => by rw [cmpL, if_pos (cmpI_refl x), cmpL_refl a]
theorem cmpL_trans : ∀ {a b c : List Int}, cmpL a b < 0 → cmpL b c ≤ 0 → cmpL a c < 0
  | [], [], _, h, _ => by simp [cmpL] at h
  | [], _ :: _, [], _, h => by simp [cmpL] at h
  | [], _ :: _, _ :: _, _, _ => by simp [cmpL]
  | _ :: _, [], _, h, _ => by simp [cmpL] at h
  | _ :: _, _ :: _, [], _, h => by simp [cmpL] at h
  | x :: a, y :: b, z :: c, h1, h2 => by
    simp only [cmpL] at h1 h2 ⊢
    by_cases e1 : cmpI x y = 0
    · rw [if_pos e1] at h1
      have e := cmpI_eq.1 e1
      subst e
      by_cases e2 : cmpI x z = 0
      · rw [if_pos e2] at h2 ⊢; exact cmpL_trans h1 h2
      · rw [if_neg e2] at h2 ⊢; omega
    · rw [if_neg e1] at h1
      have l1 := cmpI_lt.1 h1
      by_cases e2 : cmpI y z = 0
      · have e := cmpI_eq.1 e2
        subst e
        rw [if_neg e1]; exact h1
      · rw [if_neg e2] at h2
        have l2 := cmpI_lt.1 (show cmpI y z < 0 by omega)
        have l3 := cmpI_lt.2 (show x < z by omega)
        rw [if_neg (by omega)]; exact l3
theorem cmpL_flip : ∀ {a b : List Int}, ¬ cmpL a b < 0 → cmpL b a ≤ 0
  | [], [], _ => by simp [cmpL]
  | [], _ :: _, h => by simp [cmpL] at h
  | _ :: _, [], _ => by simp [cmpL]
  | x :: a, y :: b, h => by
    simp only [cmpL] at h ⊢
    by_cases e1 : cmpI x y = 0
    · rw [if_pos e1] at h
      have e := cmpI_eq.1 e1
      subst e
      rw [if_pos (cmpI_refl x)]; exact cmpL_flip h
    · rw [if_neg e1] at h
      have : ¬ x < y := fun g => h (cmpI_lt.2 g)
      have hne : x ≠ y := fun g => e1 (cmpI_eq.2 g)
      have l := cmpI_lt.2 (show y < x by omega)
      rw [if_neg (by omega)]; omega
end Go.Flong
namespace Go.Flong
open Go Go.Eng
structure Po where
  pounds : Int
  tl : Int
  th : Int
  al : Int
  ah : Int
def PoB (p : Po) : Prop := 0 ≤ p.pounds ∧ p.pounds ≤ 1000000 ∧ -1000000 ≤ p.tl ∧ p.tl ≤ 1000000 ∧ -1000000 ≤ p.th ∧ p.th ≤ 1000000 ∧ -1000000 ≤ p.al ∧ p.al ≤ 1000000 ∧ -1000000 ≤ p.ah ∧ p.ah ≤ 1000000
def Shop.aft (s : Shop) (add : List Int) : Po := ⟨s.pounds + sumOf Pig.pounds s.pigs add, s.tl + sumOf Pig.tin s.pigs add, s.th + sumOf Pig.tin s.pigs add, s.al + sumOf Pig.ant s.pigs add, s.ah + sumOf Pig.ant s.pigs add⟩
def Shop.failsP (s : Shop) (p : Po) (limit : Int) : Bool := if limit = 1 then decide (1000 * p.tl < p.pounds * s.tpl) else if limit = 2 then decide (p.pounds * s.tph < 1000 * p.th) else if limit = 3 then decide (1000 * p.al < p.pounds * s.apl) else decide (p.pounds * s.aph < 1000 * p.ah)
def Shop.safeP (s : Shop) (p : Po) : Bool := allI (fun j => !s.failsP p ((j : Int) + 1)) 4
def limItem (i : Nat) : Eng.Item := ⟨[.i ((i : Int) + 1)], [], []⟩
def limItems : List Eng.Item := (List.range 4).map limItem
theorem isAddB {s : Shop} (hs : PigsOK s.pigs) {l : List Int} (h : isAdd s l = true) : l.length = s.pigs.length ∧ bnd l 5 ∧ bnd l 1000 := by
  simp only [isAdd, Bool.and_eq_true, decide_eq_true_eq] at h
  have h0 : bnd l 5 := fun j hj => by
    have h1 := allI_iff.1 h.1.2 j hj
    have h2 := Pig.bnds (hs.at (show j < s.pigs.length by omega))
    simp [fitsMany, within] at h1; omega
  exact ⟨by omega, h0, fun j hj => by have := h0 j hj; omega⟩
theorem aft_bnd {s : Shop} (hs : s.chk = true) {l : List Int} (hl : l.length ≤ s.pigs.length) (hb : bnd l 1000) : PoB (s.aft l) := by
  have ht := tl_bnd hs
  have hp := Shop.pigsOK hs
  have h1 := sumOf_bnd (f := Pig.pounds) hp hl hb (fun p h => by have := Pig.bnds h; omega)
  have h2 := sumOf_bnd (f := Pig.tin) hp hl hb (fun p h => by have := Pig.bnds h; omega)
  have h3 := sumOf_bnd (f := Pig.ant) hp hl hb (fun p h => by have := Pig.bnds h; omega)
  unfold PoB Shop.aft
  simp only []
  omega
def Shop.manyL (s : Shop) : List Int := s.pigs.map Pig.many
def Shop.adBox (s : Shop) : List (List Int) := boxS s.manyL
def Shop.adL (s : Shop) : List (List Int) := s.adBox.filter (isAdd s)
def Shop.adIdx (s : Shop) (i : Nat) : Nat := ((s.adBox.take i).filter (isAdd s)).length
def adItem (row : List Int) : Eng.Item := ⟨[.e (.a (.q 0))], [(0, PL EP.int row)], []⟩
def Shop.adItems (s : Shop) : List Eng.Item := (List.range s.adL.length).map fun (i : Nat) => adItem (nth s.adL (i : Int))
theorem manyL_len (s : Shop) : s.manyL.length = s.pigs.length := by simp [Shop.manyL]
theorem manyL_nth {s : Shop} {j : Nat} (hj : j < s.pigs.length) : nth s.manyL j = (nth s.pigs j).many := by
  rw [nthN (by rw [manyL_len]; exact hj), nthN hj]; simp [Shop.manyL]
theorem manyL_pos {s : Shop} (hs : PigsOK s.pigs) : ∀ x ∈ s.manyL, 0 ≤ x := fun x hx => by
  obtain ⟨j, hj, rfl⟩ := List.mem_iff_getElem.1 hx
  rw [manyL_len] at hj
  rw [← nthN, manyL_nth hj]
  have := Pig.bnds (hs.at hj)
  omega
section
variable {s : Shop}
theorem adIdx_succ {i : Nat} (hi : i < s.adBox.length) : s.adIdx (i + 1) = s.adIdx i + if isAdd s (nth s.adBox i) then 1 else 0 := by
  rw [nthN hi]
  simp only [Shop.adIdx]
  rw [List.take_succ_eq_append_getElem hi, List.filter_append, List.length_append]
  congr 1
  by_cases h : isAdd s s.adBox[i] <;> simp [h]
theorem adIdx_end : s.adIdx s.adBox.length = s.adItems.length := by
  simp [Shop.adIdx, Shop.adItems, Shop.adL]
theorem adBox_pos (hs : PigsOK s.pigs) : s.adBox[0]? = some (List.replicate s.pigs.length 0) := by
  obtain ⟨r, hr⟩ := boxS_hd (manyL_pos hs)
  rw [Shop.adBox, hr, manyL_len]; rfl
theorem adBox_row (hs : PigsOK s.pigs) {i : Nat} (hi : i < s.adBox.length) : (nth s.adBox (i : Int)).length = s.pigs.length ∧ bnd (nth s.adBox (i : Int)) 5 ∧ nth s.adBox (i : Int) ∈ s.adBox := by
  have hm : nth s.adBox (i : Int) ∈ s.adBox := by rw [nthN hi]; exact List.getElem_mem hi
  have h1 := boxS_len _ hm
  rw [manyL_len] at h1
  refine ⟨h1, fun j hj => ?_, hm⟩
  have h2 := boxS_bnd hm j (by rw [manyL_len]; omega)
  rw [manyL_nth (by omega)] at h2
  have := Pig.bnds (hs.at (show j < s.pigs.length by omega))
  omega
theorem ad_next (hs : PigsOK s.pigs) {i m : Nat} (hi : i < s.adBox.length) (heq : ∀ j : Nat, s.pigs.length - m ≤ j → j < s.pigs.length → nth (nth s.adBox (i : Int)) j = (nth s.pigs j).many) :
    (s.pigs.length ≤ m → i + 1 = s.adBox.length) ∧
    (m < s.pigs.length → nth (nth s.adBox (i : Int)) ((s.pigs.length : Int) - 1 - m) ≠ (nth s.pigs ((s.pigs.length : Int) - 1 - m)).many → i + 1 < s.adBox.length ∧
      lset (zr (nth s.adBox (i : Int)) m) ((s.pigs.length : Int) - 1 - m) (nth (zr (nth s.adBox (i : Int)) m) ((s.pigs.length : Int) - 1 - m) + 1) = nth s.adBox ((i + 1 : Nat) : Int)) := by
  obtain ⟨h1, _, h3⟩ := adBox_row hs hi
  have hok := OdoOK.at (boxS_ok (manyL_pos hs)) i hi
  have hr : (boxS s.manyL)[i]'hi = nth s.adBox (i : Int) := (nthN hi).symm
  rw [hr] at hok
  have hl := manyL_len s
  constructor
  · intro hm
    have h5 := odo_last (left := s.manyL) (x := nth s.adBox (i : Int)) (by rw [h1, hl]) (fun j hj => by
      rw [manyL_nth (by omega)]; exact heq j (by omega) (by omega))
    rw [h5] at hok
    by_cases h6 : i + 1 < (boxS s.manyL).length
    · rw [dif_pos h6] at hok; cases hok
    · have : s.adBox.length = (boxS s.manyL).length := rfl
      omega
  · intro hm hne
    have h5 := odo_zr (left := s.manyL) (x := nth s.adBox (i : Int)) (m := m) (by rw [h1, hl]) (by omega) (fun j hj hj2 => by
      rw [manyL_nth (by omega)]; exact heq j (by omega) (by omega)) (by
      rw [h1]
      have e : (s.pigs.length : Int) - 1 - m = ((s.pigs.length - 1 - m : Nat) : Int) := by omega
      rw [e] at hne ⊢
      rw [manyL_nth (by omega)]; exact hne)
    rw [h1] at h5
    rw [h5] at hok
    by_cases h6 : i + 1 < (boxS s.manyL).length
    · rw [dif_pos h6] at hok
      refine ⟨h6, ?_⟩
      rw [nthN (show i + 1 < s.adBox.length from h6)]
      exact Option.some.inj hok
    · rw [dif_neg h6] at hok; cases hok
theorem adL_at {i : Nat} (hi : i < s.adL.length) : isAdd s (nth s.adL (i : Int)) = true := by
  have : nth s.adL (i : Int) ∈ s.adL := by rw [nthN hi]; exact List.getElem_mem hi
  exact (List.mem_filter.1 this).2
end
def Shop.bestM (s : Shop) (g : List Int → List Int) : Nat → List Int × List Int
  | 0 => ([], [])
  | i + 1 => if s.safeP (s.aft (nth s.adL (i : Int))) && (decide (((Shop.bestM s g i).2.length : Int) = 0) || decide (cmpL (g (nth s.adL (i : Int))) (Shop.bestM s g i).2 < 0)) then (nth s.adL (i : Int), g (nth s.adL (i : Int))) else Shop.bestM s g i
def Shop.mBest (s : Shop) (g : List Int → List Int) : List Int × List Int := s.bestM g s.adL.length
def Shop.mE (s : Shop) (g : List Int → List Int) : Int := if s.chk then (if ((s.mBest g).2.length : Int) = 0 then 3 else 0) else 10
def Shop.mAdd (s : Shop) (g : List Int → List Int) : List Int := if s.mE g = 0 then (s.mBest g).1 else []
def Shop.mNum (s : Shop) (g : List Int → List Int) : List Int := if s.mE g = 0 then (s.mBest g).2 else []
def priceG (s : Shop) (add : List Int) : List Int := [sumOf Pig.pence s.pigs add, sumOf Pig.pounds s.pigs add]
def GOK (s : Shop) (g : List Int → List Int) : Prop := ∀ l, g l ≠ [] ∧ (g l).length ≤ 40
theorem price_ok (s : Shop) : GOK s (priceG s) := fun l => ⟨by simp [priceG], by simp [priceG]⟩
theorem bestM_len {s : Shop} {g : List Int → List Int} (hg : GOK s g) : ∀ i : Nat, (s.bestM g i).2.length ≤ 40
  | 0 => by simp [Shop.bestM]
  | i + 1 => by
    simp only [Shop.bestM]
    split
    · exact (hg _).2
    · exact bestM_len hg i
abbrev AdL (s : Shop) := { l : List Int // l.length = s.pigs.length ∧ bnd l 1000 }
instance (s : Shop) : Inhabited (AdL s) := ⟨⟨List.replicate s.pigs.length 0, by simp, fun j _ => by rw [nth_rep]; omega⟩⟩
def opE (s : Shop) (v : Bool) : Int := if s.chk then (if v then 0 else 1) else 10
end Go.Flong
namespace Go.Flong
open Go Go.Eng
def opV (v : Bool) : Int := bif v then 0 else 1
theorem opE_t {s : Shop} (h : s.chk = true) (v : Bool) : opE s v = opV v := by unfold opE opV; rw [h]; cases v <;> rfl
theorem opE_f {s : Shop} (h : s.chk = false) (v : Bool) : opE s v = 10 := by unfold opE; rw [h]; rfl
def po0 : Po := ⟨0, 0, 0, 0, 0⟩
def Shop.mAft (s : Shop) (add : List Int) : Po := if opE s (isAdd s add) = 0 then s.aft add else po0
theorem opV_ne {v : Bool} : opV v ≠ 0 ↔ v = false := by cases v <;> simp [opV]
theorem opV_eq {v : Bool} : opV v = 0 ↔ v = true := by cases v <;> simp [opV]
def Shop.mCheap (s : Shop) : Int := if s.mE (priceG s) = 0 then nth (s.mNum (priceG s)) 0 else 0
end Go.Flong
namespace Go.Flong
open Go Go.Eng
section
variable {s : Shop}
theorem mem_adL (hs : PigsOK s.pigs) {l : List Int} : l ∈ s.adL ↔ isAdd s l = true := by
  unfold Shop.adL
  rw [List.mem_filter]
  refine ⟨fun h => h.2, fun h => ⟨?_, h⟩⟩
  have h1 := h
  simp only [isAdd, Bool.and_eq_true, decide_eq_true_eq] at h1
  refine mem_boxS.2 ⟨by rw [manyL_len]; omega, fun j hj => ?_⟩
  rw [manyL_len] at hj
  have h2 := allI_iff.1 h1.1.2 j (by omega)
  simp only [fitsMany, within, Bool.and_eq_true, decide_eq_true_eq] at h2
  rw [manyL_nth hj]; exact h2
theorem adL_index (hs : PigsOK s.pigs) {l : List Int} (h : isAdd s l = true) : ∃ j : Nat, j < s.adL.length ∧ nth s.adL (j : Int) = l := by
  obtain ⟨j, hj, e⟩ := List.mem_iff_getElem.1 ((mem_adL hs).2 h)
  exact ⟨j, hj, by rw [nthN hj]; exact e⟩
def Shop.okM (s : Shop) (l : List Int) : Bool := isAdd s l && s.safeP (s.aft l)
theorem bestM_spec (g : List Int → List Int) (hg : GOK s g) : ∀ i : Nat, i ≤ s.adL.length → (s.bestM g i = ([], []) ∧ ∀ j : Nat, j < i → s.safeP (s.aft (nth s.adL (j : Int))) = false) ∨
    ∃ b : Nat, b < i ∧ s.bestM g i = (nth s.adL (b : Int), g (nth s.adL (b : Int))) ∧ s.safeP (s.aft (nth s.adL (b : Int))) = true ∧ ∀ j : Nat, j < i → s.safeP (s.aft (nth s.adL (j : Int))) = true → cmpL (g (nth s.adL (b : Int))) (g (nth s.adL (j : Int))) ≤ 0 ∧ (j < b → cmpL (g (nth s.adL (b : Int))) (g (nth s.adL (j : Int))) < 0)
  | 0, _ => .inl ⟨rfl, fun j hj => absurd hj (by omega)⟩
  | i + 1, hi => by
    have ih := bestM_spec g hg i (by omega)
    simp only [Shop.bestM]
    cases hs : s.safeP (s.aft (nth s.adL (i : Int))) with
    | false =>
      rw [Bool.false_and, if_neg (by simp)]
      rcases ih with ⟨h1, h2⟩ | ⟨b, h1, h2, h3, h4⟩
      · refine .inl ⟨h1, fun j hj => ?_⟩
        by_cases e : j = i
        · subst e; exact hs
        · exact h2 j (by omega)
      · refine .inr ⟨b, by omega, h2, h3, fun j hj hsj => ?_⟩
        by_cases e : j = i
        · subst e; rw [hs] at hsj; cases hsj
        · exact h4 j (by omega) hsj
    | true =>
      rw [Bool.true_and]
      rcases ih with ⟨h1, h2⟩ | ⟨b, h1, h2, h3, h4⟩
      · rw [h1, if_pos (by simp)]
        refine .inr ⟨i, by omega, rfl, hs, fun j hj hsj => ?_⟩
        by_cases e : j = i
        · subst e; rw [cmpL_refl]; exact ⟨Int.le_refl _, fun h => by omega⟩
        · rw [h2 j (by omega)] at hsj; cases hsj
      · rw [h2]
        by_cases hc : cmpL (g (nth s.adL (i : Int))) (g (nth s.adL (b : Int))) < 0
        · rw [if_pos (by simp [hc])]
          refine .inr ⟨i, by omega, rfl, hs, fun j hj hsj => ?_⟩
          by_cases e : j = i
          · subst e; rw [cmpL_refl]; exact ⟨Int.le_refl _, fun h => by omega⟩
          · have h5 := cmpL_trans hc (h4 j (by omega) hsj).1
            exact ⟨by omega, fun _ => h5⟩
        · have hne : (g (nth s.adL (b : Int))).length ≠ 0 := fun e => (hg _).1 (List.length_eq_zero_iff.1 e)
          rw [if_neg (by simp only [Bool.or_eq_true, decide_eq_true_eq]; rintro (h | h); omega; exact hc h)]
          refine .inr ⟨b, by omega, rfl, h3, fun j hj hsj => ?_⟩
          by_cases e : j = i
          · subst e; exact ⟨cmpL_flip hc, fun h => by omega⟩
          · exact h4 j (by omega) hsj
theorem least_specM (hs : s.chk = true) (g : List Int → List Int) (hg : GOK s g) : (s.mE g = 3 ∧ ∀ l, s.okM l = false) ∨
    (s.mE g = 0 ∧ s.okM (s.mAdd g) = true ∧ s.mNum g = g (s.mAdd g) ∧ ∀ l, s.okM l = true → cmpL (g (s.mAdd g)) (g l) ≤ 0) := by
  have hpg := Shop.pigsOK hs
  have hE : s.mE g = if ((s.mBest g).2.length : Int) = 0 then 3 else 0 := by unfold Shop.mE; rw [hs]; rfl
  rcases bestM_spec g hg s.adL.length (Nat.le_refl _) with ⟨h1, h2⟩ | ⟨b, h1, h2, h3, h4⟩
  · left
    refine ⟨by rw [hE]; unfold Shop.mBest; rw [h1]; rfl, fun l => ?_⟩
    unfold Shop.okM
    cases ha : isAdd s l with
    | false => rfl
    | true =>
      obtain ⟨j, hj, e⟩ := adL_index hpg ha
      have := h2 j hj
      rw [e] at this; rw [this]; rfl
  · right
    have hne : (g (nth s.adL (b : Int))).length ≠ 0 := fun e => (hg _).1 (List.length_eq_zero_iff.1 e)
    have hB : s.mBest g = (nth s.adL (b : Int), g (nth s.adL (b : Int))) := h2
    have hE0 : s.mE g = 0 := by rw [hE, hB]; exact if_neg (by simp only []; omega)
    have hA : s.mAdd g = nth s.adL (b : Int) := by unfold Shop.mAdd; rw [if_pos hE0, hB]
    have hN : s.mNum g = g (nth s.adL (b : Int)) := by unfold Shop.mNum; rw [if_pos hE0, hB]
    refine ⟨hE0, ?_, by rw [hA, hN], fun l hl => ?_⟩
    · rw [hA]; unfold Shop.okM; rw [adL_at h1, h3]; rfl
    · unfold Shop.okM at hl
      rw [Bool.and_eq_true] at hl
      obtain ⟨j, hj, e⟩ := adL_index hpg hl.1
      have := (h4 j hj (by rw [e]; exact hl.2)).1
      rw [e] at this; rw [hA]; exact this
theorem price_le {a b : List Int} (h : cmpL (priceG s a) (priceG s b) ≤ 0) : sumOf Pig.pence s.pigs a < sumOf Pig.pence s.pigs b ∨ (sumOf Pig.pence s.pigs a = sumOf Pig.pence s.pigs b ∧ sumOf Pig.pounds s.pigs a ≤ sumOf Pig.pounds s.pigs b) := by
  unfold priceG at h
  simp only [cmpL] at h
  by_cases e1 : cmpI (sumOf Pig.pence s.pigs a) (sumOf Pig.pence s.pigs b) = 0
  · rw [if_pos e1] at h
    refine .inr ⟨cmpI_eq.1 e1, ?_⟩
    by_cases e2 : cmpI (sumOf Pig.pounds s.pigs a) (sumOf Pig.pounds s.pigs b) = 0
    · have := cmpI_eq.1 e2; omega
    · rw [if_neg e2] at h
      have := cmpI_lt.1 (show cmpI (sumOf Pig.pounds s.pigs a) (sumOf Pig.pounds s.pigs b) < 0 by omega)
      omega
  · rw [if_neg e1] at h
    exact .inl (cmpI_lt.1 (by omega))
theorem cheap_spec (hs : s.chk = true) : (s.mE (priceG s) = 3 ∧ s.mCheap = 0 ∧ ∀ l, s.okM l = false) ∨
    (s.mE (priceG s) = 0 ∧ s.okM (s.mAdd (priceG s)) = true ∧ s.mCheap = sumOf Pig.pence s.pigs (s.mAdd (priceG s)) ∧ ∀ l, s.okM l = true → s.mCheap ≤ sumOf Pig.pence s.pigs l) := by
  rcases least_specM hs (priceG s) (price_ok s) with ⟨h1, h2⟩ | ⟨h1, h2, h3, h4⟩
  · exact .inl ⟨h1, by unfold Shop.mCheap; rw [h1]; rfl, h2⟩
  · have e : s.mCheap = sumOf Pig.pence s.pigs (s.mAdd (priceG s)) := by
      unfold Shop.mCheap; rw [if_pos h1, h3]; rfl
    refine .inr ⟨h1, h2, e, fun l hl => ?_⟩
    rcases price_le (h4 l hl) with h | ⟨h, _⟩ <;> omega
theorem safeP_iff {p : Po} : s.safeP p = true ↔ p.pounds * s.tpl ≤ 1000 * p.tl ∧ 1000 * p.th ≤ p.pounds * s.tph ∧ p.pounds * s.apl ≤ 1000 * p.al ∧ 1000 * p.ah ≤ p.pounds * s.aph := by
  unfold Shop.safeP
  rw [allI_iff]
  constructor
  · intro h
    have h0 := h 0 (by omega)
    have h1 := h 1 (by omega)
    have h2 := h 2 (by omega)
    have h3 := h 3 (by omega)
    simp only [Shop.failsP, Bool.not_eq_true'] at h0 h1 h2 h3
    simp at h0 h1 h2 h3
    omega
  · rintro ⟨h0, h1, h2, h3⟩ j hj
    have : j = 0 ∨ j = 1 ∨ j = 2 ∨ j = 3 := by omega
    rcases this with rfl | rfl | rfl | rfl <;> simp [Shop.failsP] <;> omega
end
end Go.Flong
namespace Go.Flong
open Go Go.Eng
section
variable {f : Fnd}
theorem rows_sub {s s' : Sp} (hs : SpIn s s') {before x : List Int} (hb : BefP f before) (hx : x ∈ f.rowsS s' before) : x ∈ f.rowsS s before := by
  obtain ⟨h1, h2, h3⟩ := (mem_rowsS hb).1 hx
  exact (mem_rowsS hb).2 ⟨h1, by have := hs.2.2; omega, safe_sub hs h3⟩
theorem next_sub (hf : f.chk = true) {s s' : Sp} (hs : SpIn s s') {i : Nat} (hi : i < f.nights.length) : SpIn (nextS f i s) (nextS f i s') := by
  have := Night.bnds ((Fnd.nightsOK hf).at hi)
  unfold SpIn at *
  simp only [nextS]; omega
theorem next_spOf (i : Nat) : nextS f i (spOf f (i : Int)) = spOf f ((i + 1 : Nat) : Int) := by
  simp only [nextS, spOf, Int.toNat_natCast, loTo, hiTo]
theorem now_le_plan (hf : f.chk = true) : ∀ (n night : Nat) (s : Sp) (before : List Int) (p : List (List Int)), night + n = f.nights.length → BefP f before → SpIn s (spOf f night) → p ∈ f.plansR n night before → f.now n night s before ≤ gcost costG f.shop.pigs p
  | 0, night, s, before, p, hn, hb, hs, hp => by
    simp only [Fnd.plansR, List.mem_singleton] at hp
    subst hp
    simp [Fnd.now, gcost]
  | n + 1, night, s, before, p, hn, hb, hs, hp => by
    have e3 : ((night : Int) + 1) = ((night + 1 : Nat) : Int) := by omega
    rw [plansR_succ, List.mem_flatMap] at hp
    obtain ⟨x, hx, hp⟩ := hp
    obtain ⟨q, hq, rfl⟩ := List.mem_map.1 hp
    rw [e3] at hq
    have hbx := rowsS_box hx
    have hpe := pence_pos (Shop.pigsOK (Fnd.shopOK hf)) hb hbx
    have key : ∀ s : Sp, SpIn s (spOf f night) → f.beh (f.now n ((night : Int) + 1)) night s before ≤ gcost costG f.shop.pigs (x :: q) := fun s hs => by
      have h1 := (beh_le (nx := f.now n ((night : Int) + 1)) (night := (night : Int))).2 x (rows_sub hs hb hx)
      have h2 := next_sub hf hs (i := night) (by omega)
      rw [next_spOf] at h2
      have ih := now_le_plan hf n (night + 1) (nextS f night s) (plus before x) q (by omega) (hb.next hbx) h2 hq
      simp only [gcost, costG]
      rw [e3] at h1 ⊢
      omega
    simp only [Fnd.now]
    split
    · exact key s hs
    · have h0 : 0 ≤ gcost costG f.shop.pigs (x :: q) := by
        have h1 := (mem_plansR n (night + 1) (plus before x) q).1 hq
        have : ∀ (k : Nat) (b : List Int) (q : List (List Int)), BefP f b → q ∈ f.plansR k ((night + 1 + (n - k) : Nat) : Int) b → 0 ≤ gcost costG f.shop.pigs q := by
          intro k
          induction k with
          | zero => intro b q _ h; simp [Fnd.plansR] at h; subst h; simp [gcost]
          | succ k ih =>
            intro b q hb2 h
            rw [plansR_succ, List.mem_flatMap] at h
            obtain ⟨y, hy, h⟩ := h
            obtain ⟨z, hz, rfl⟩ := List.mem_map.1 h
            have hpy := pence_pos (Shop.pigsOK (Fnd.shopOK hf)) hb2 (rowsS_box hy)
            have hz0 : 0 ≤ gcost costG f.shop.pigs z := by
              clear ih
              have : ∀ (m : Nat) (nt : Int) (b : List Int) (z : List (List Int)), BefP f b → z ∈ f.plansR m nt b → 0 ≤ gcost costG f.shop.pigs z := by
                intro m
                induction m with
                | zero => intro nt b z _ h; simp [Fnd.plansR] at h; subst h; simp [gcost]
                | succ m ih =>
                  intro nt b z hb3 h
                  rw [plansR_succ, List.mem_flatMap] at h
                  obtain ⟨u, hu, h⟩ := h
                  obtain ⟨v, hv, rfl⟩ := List.mem_map.1 h
                  have h1 := pence_pos (Shop.pigsOK (Fnd.shopOK hf)) hb3 (rowsS_box hu)
                  have h2 := ih _ _ v (hb3.next (rowsS_box hu)) hv
                  simp only [gcost, costG]; omega
              exact this _ _ _ z (hb2.next (rowsS_box hy)) hz
            simp only [gcost, costG]; omega
        have h3 := this n (plus before x) q (hb.next hbx) (by rw [Nat.sub_self, Nat.add_zero]; exact hq)
        simp only [gcost, costG]; omega
      refine worst3_le h0 fun t a d _ _ _ _ _ _ => key _ ?_
      unfold SpIn at *
      simp only []; omega
theorem spOf0 (hf : f.chk = true) : SpIn (spOf f ((0 : Nat) : Int)) (spOf f ((0 : Nat) : Int)) := by
  have := tl_bnd (Fnd.shopOK hf)
  unfold SpIn spOf; simp only [Int.toNat_natCast, loTo, hiTo]; omega
theorem knownN_spOf : f.knownN = f.now f.nights.length ((0 : Nat) : Int) (spOf f ((0 : Nat) : Int)) f.zeros := rfl
theorem known_le_cheap (hf : f.chk = true) : f.knownC ≤ f.cheapC := by
  unfold Fnd.cheapC
  rcases leastC_eq hf costG_b with ⟨_, _, h1⟩ | ⟨_, _, h1, h2, h3, p, hp, _, h4, _⟩
  · rw [h1]
    rcases knownC_eq hf with ⟨_, _, g⟩ | ⟨_, g2, _, _, g⟩ <;> omega
  · have := now_le_plan hf f.nights.length 0 (spOf f ((0 : Nat) : Int)) f.zeros p (by omega) (bef_zeros f) (spOf0 hf) hp
    rw [← knownN_spOf] at this
    rw [h1]
    have hn : neverC = 1073741824 := rfl
    rcases knownC_eq hf with ⟨g1, _, g⟩ | ⟨_, g2, _, _, g⟩ <;> omega
end
end Go.Flong
namespace Go.Flong
open Go Go.Eng
instance : Inhabited Po := ⟨po0⟩
end Go.Flong
namespace Go.Flong
open Go Go.Eng
structure Offer where
  pence : Int
  tl : Int
  th : Int
  al : Int
  ah : Int
instance : Inhabited Offer := ⟨⟨0, 0, 0, 0, 0⟩⟩
def Offer.hit (o : Offer) (t a : Int) : Bool := within t o.tl o.th && within a o.al o.ah
end Go.Flong
namespace Go.Flong
open Go Go.Eng Go.Proofs
def stepK (p : Int × Int) (n : Int) : Int × Int := if p.1 < 0 then (n, n) else (min p.1 n, max p.2 n)
end Go.Flong
namespace Go.Flong
open Go Go.Eng
def exM : Shop := ⟨200, 6, 8, 28, 30, 300, 40, 60, 120, 160, [⟨10, 5, 0, 30, 3⟩, ⟨20, 1, 6, 25, 2⟩, ⟨25, 0, 0, 5, 2⟩]⟩
def exL : Shop := { exM with pigs := [⟨10, 5, 0, 30, 0⟩, ⟨20, 1, 6, 25, 2⟩, ⟨25, 0, 0, 5, 2⟩] }
end Go.Flong
namespace Go.Flong
open Go Go.Eng
end Go.Flong
namespace Go.Flong
open Go Go.Eng
def Shop.ready (s : Shop) : Bool := !hugeS s && s.chk
def insideS (a b c d : Int) : Bool := decide (c ≤ a) && decide (a ≤ b) && decide (b ≤ d)
def Shop.spans (s : Shop) (p : Po) : Shop := { s with tl := p.tl, th := p.th, al := p.al, ah := p.ah }
theorem spans_chk {s : Shop} {p : Po} (hs : s.chk = true) (h1 : insideS p.tl p.th s.tl s.th = true) (h2 : insideS p.al p.ah s.al s.ah = true) : (s.spans p).chk = true := by
  simp only [Shop.chk, Shop.head, Shop.spans, isPot, isSpan, within, insideS, Bool.and_eq_true, decide_eq_true_eq] at *
  grind
end Go.Flong
namespace Go.Flong
open Go Go.Eng
def Shop.pigged (s : Shop) (i n : Int) : Shop := { s with pigs := lset s.pigs i { nth s.pigs i with many := n } }
end Go.Flong
namespace Go.Flong
open Go Go.Eng
def Shop.parts (s : Shop) (a b c d : Int) : Shop := { s with tpl := a, tph := b, apl := c, aph := d }
end Go.Flong
namespace Go.Flong
open Go Go.Eng
structure Wider (s t : Shop) : Prop where
  len : t.pigs.length = s.pigs.length
  pot : t.pounds = s.pounds ∧ t.tl = s.tl ∧ t.th = s.th ∧ t.al = s.al ∧ t.ah = s.ah
  part : t.tpl = s.tpl ∧ t.tph = s.tph ∧ t.apl = s.apl ∧ t.aph = s.aph
  room : s.room ≤ t.room
  many : ∀ j : Nat, j < s.pigs.length → (nth s.pigs (j : Int)).many ≤ (nth t.pigs (j : Int)).many
  sum : ∀ l : List Int, sumOf Pig.pounds t.pigs l = sumOf Pig.pounds s.pigs l ∧ sumOf Pig.tin t.pigs l = sumOf Pig.tin s.pigs l ∧ sumOf Pig.ant t.pigs l = sumOf Pig.ant s.pigs l
theorem Wider.add {s t : Shop} (h : Wider s t) {l : List Int} (hl : isAdd s l = true) : isAdd t l = true := by
  simp only [isAdd, Bool.and_eq_true, decide_eq_true_eq] at hl ⊢
  obtain ⟨⟨h1, h2⟩, h3⟩ := hl
  rw [h.len, (h.sum l).1, h.pot.1]
  have hr := h.room
  refine ⟨⟨h1, allI_iff.2 fun j hj => ?_⟩, by omega⟩
  have h4 := allI_iff.1 h2 j hj
  have h5 := h.many j (by omega)
  simp only [fitsMany, within, Bool.and_eq_true, decide_eq_true_eq] at h4 ⊢
  omega
theorem Wider.aft {s t : Shop} (h : Wider s t) (l : List Int) : t.aft l = s.aft l := by
  obtain ⟨h1, h2, h3, h4, h5⟩ := h.pot
  obtain ⟨g1, g2, g3⟩ := h.sum l
  simp only [Shop.aft, h1, h2, h3, h4, h5, g1, g2, g3]
theorem Wider.ok {s t : Shop} (h : Wider s t) {l : List Int} (hl : s.okM l = true) : t.okM l = true := by
  unfold Shop.okM at hl ⊢
  rw [Bool.and_eq_true] at hl ⊢
  refine ⟨h.add hl.1, ?_⟩
  have h2 := hl.2
  obtain ⟨g1, g2, g3, g4⟩ := h.part
  rw [safeP_iff] at h2 ⊢
  rw [h.aft, g1, g2, g3, g4]; exact h2
end Go.Flong
namespace Go.Flong
open Go Go.Eng
def Shop.inTr (s : Shop) (t a : Int) : Shop := { s with tl := t, th := t, al := a, ah := a }
def Shop.InT (s : Shop) (t a : Int) : Prop := (s.tl ≤ t ∧ t ≤ s.th) ∧ s.al ≤ a ∧ a ≤ s.ah
theorem Shop.InT.ins {s : Shop} {t a : Int} (h : s.InT t a) : insideS t t s.tl s.th = true ∧ insideS a a s.al s.ah = true := by
  obtain ⟨h1, h2⟩ := h
  simp only [insideS, Bool.and_eq_true, decide_eq_true_eq]; omega
theorem Shop.InT.chk {s : Shop} {t a : Int} (hs : s.chk = true) (h : s.InT t a) : (s.inTr t a).chk = true := spans_chk (p := ⟨0, t, t, a, a⟩) hs h.ins.1 h.ins.2
def KIn (P : Int → Prop) (p : Int × Int) : Prop := ((∀ n, ¬ P n) ∧ p.1 < 0) ∨ (0 ≤ p.1 ∧ P p.1 ∧ P p.2 ∧ ∀ n, P n → p.1 ≤ n ∧ n ≤ p.2)
theorem KIn.congr {P Q : Int → Prop} {p : Int × Int} (h : KIn P p) (e : ∀ n, P n ↔ Q n) : KIn Q p := by
  have : P = Q := funext fun n => propext (e n)
  rwa [this] at h
theorem KIn.step {P : Int → Prop} {p : Int × Int} (h : KIn P p) {n : Int} (hn : 0 ≤ n) : KIn (fun m => P m ∨ m = n) (stepK p n) := by
  unfold stepK
  rcases h with ⟨h1, h2⟩ | ⟨h1, h2, h3, h4⟩
  · rw [if_pos h2]
    exact .inr ⟨hn, .inr rfl, .inr rfl, fun m hm => hm.elim (fun g => absurd g (h1 m)) fun g => by subst g; exact ⟨Int.le_refl _, Int.le_refl _⟩⟩
  · rw [if_neg (by omega)]
    have := h4 _ h2
    refine .inr ⟨by simp only []; omega, ?_, ?_, fun m hm => ?_⟩
    · simp only []
      by_cases g : p.1 ≤ n
      · rw [Int.min_eq_left g]; exact .inl h2
      · rw [Int.min_eq_right (by omega)]; exact .inr rfl
    · simp only []
      by_cases g : p.2 ≤ n
      · rw [Int.max_eq_right g]; exact .inr rfl
      · rw [Int.max_eq_left (by omega)]; exact .inl h3
    · simp only []
      rcases hm with hm | rfl
      · have := h4 m hm; omega
      · omega
def Shop.farN (s : Shop) : Nat → Int
  | 0 => (s.th - s.tl + 1) * (s.ah - s.al + 1)
  | i + 1 => Shop.farN s i * ((nth s.pigs (i : Int)).many + 1)
def Shop.far (s : Shop) : Bool := hugeS s || (s.chk && decide (2000 < s.farN s.pigs.length))
end Go.Flong
namespace Go.Flong
open Go Go.Eng
theorem exM_mend : exM.mE (priceG exM) = 0 ∧ exM.mAdd (priceG exM) = [1, 1, 1] := by decide +kernel
def truTo (l : List Night) (d : List Int) : Nat → List Night
  | 0 => l
  | i + 1 => lset (truTo l d i) i { nth (truTo l d i) (i : Int) with lo := nth d i, hi := nth d i }
theorem truTo_len (l : List Night) (d : List Int) : ∀ i, (truTo l d i).length = l.length
  | 0 => rfl
  | i + 1 => by rw [truTo, lset_len, truTo_len l d i]
def Fnd.tru (f : Fnd) (t : Tru) : Fnd := { shop := f.shop.inTr t.tin t.ant, nights := truTo f.nights t.dross t.dross.length }
def pigsTo (p : List Pig) (l : List Int) : Nat → List Pig
  | 0 => p
  | k + 1 => lset (pigsTo p l k) k { nth (pigsTo p l k) (k : Int) with many := (nth (pigsTo p l k) (k : Int)).many - nth l k }
theorem pigsTo_len (p : List Pig) (l : List Int) : ∀ k, (pigsTo p l k).length = p.length
  | 0 => rfl
  | k + 1 => by rw [pigsTo, lset_len, pigsTo_len p l k]
def Shop.behind (s : Shop) (l : List Int) (d : Int) : Shop := { s with pounds := (s.mAft l).pounds - d, tl := (s.mAft l).tl - d, th := (s.mAft l).th - d, al := (s.mAft l).al, ah := (s.mAft l).ah, pigs := pigsTo s.pigs l l.length }
def Shop.menL (s : Shop) : List Int := s.mAdd (priceG s)
def Fnd.menS (f : Fnd) (t : Tru) : Nat → Shop
  | 0 => f.shop.inTr t.tin t.ant
  | i + 1 => (Fnd.menS f t i).behind (Fnd.menS f t i).menL (nth t.dross i)
def Fnd.menP (f : Fnd) (t : Tru) (i : Nat) : List (List Int) := (List.range i).map fun k => (f.menS t k).menL
def Fnd.menU (f : Fnd) (t : Tru) : Nat → List Int
  | 0 => List.replicate f.shop.pigs.length 0
  | i + 1 => plus (Fnd.menU f t i) (f.menS t i).menL
def Fnd.menOK (f : Fnd) (t : Tru) (i : Nat) : Bool := (f.menS t i).chk && decide ((f.menS t i).mE (priceG (f.menS t i)) = 0)
theorem menP_succ (f : Fnd) (t : Tru) (i : Nat) : f.menP t (i + 1) = f.menP t i ++ [(f.menS t i).menL] := by
  unfold Fnd.menP; rw [List.range_succ, List.map_append]; rfl
theorem menP_len (f : Fnd) (t : Tru) (i : Nat) : (f.menP t i).length = i := by unfold Fnd.menP; simp
theorem menS_len (f : Fnd) (t : Tru) : ∀ i : Nat, (f.menS t i).pigs.length = f.shop.pigs.length
  | 0 => rfl
  | i + 1 => by
    have := menS_len f t i
    simp only [Fnd.menS, Shop.behind, pigsTo_len]; exact this
theorem menP_nth (f : Fnd) (t : Tru) {n i : Nat} (hi : i < n) : nth (f.menP t n) (i : Int) = (f.menS t i).menL := by
  unfold Fnd.menP
  have h : i < ((List.range n).map fun k => (f.menS t k).menL).length := by simpa using hi
  simp [nth, List.getD_eq_getElem?_getD, hi]
structure MendLaw (f : Fnd) (t : Tru) : Prop where
  o : (f.tru t).chk = true
  e : (f.tru t).wOpen ((f.tru t).wPlan (f.menP t f.nights.length)) = 0
  s : (f.tru t).wSafeV (f.menP t f.nights.length) = 1
  c : (f.tru t).leastE costG = 0
  n : 0 ≤ (f.tru t).leastV costG ∧ (f.tru t).leastV costG ≤ (f.tru t).shop.cost (f.menP t f.nights.length)
  r : RowsB f.shop.pigs.length (f.menP t f.nights.length)
  k : f.wKnownE = 3 ∨ (f.wKnownE = 0 ∧ (f.tru t).leastV costG ≤ f.wKnownV)
end Go.Flong
namespace Go.Flong
open Go Go.Eng
theorem truTo_nth (l : List Night) (d : List Int) : ∀ (n : Nat) (j : Nat), n ≤ l.length → nth (truTo l d n) j = if j < n then { nth l j with lo := nth d j, hi := nth d j } else nth l j
  | 0, j, _ => by simp [truTo]
  | n + 1, j, hn => by
    rw [truTo, nth_lset' (by rw [truTo_len]; omega), truTo_nth l d n n (by omega), if_neg (Nat.lt_irrefl _), truTo_nth l d n j (by omega)]
    by_cases e : j = n
    · subst e; rw [if_pos rfl, if_pos (by omega)]
    · rw [if_neg e]
      by_cases h : j < n
      · rw [if_pos h, if_pos (by omega)]
      · rw [if_neg h, if_neg (by omega)]
theorem tru_len (f : Fnd) (t : Tru) : (f.tru t).nights.length = f.nights.length := truTo_len _ _ _
section
variable {f : Fnd} {t : Tru}
theorem tru_nth (ht : f.isTruth t = true) {i : Nat} (hi : i < f.nights.length) : nth (f.tru t).nights i = { nth f.nights i with lo := nth t.dross i, hi := nth t.dross i } := by
  have h := (truth_parts ht).2.2.1
  show nth (truTo f.nights t.dross t.dross.length) i = _
  rw [truTo_nth _ _ _ _ (by omega), if_pos (by omega)]
theorem tru_lo (ht : f.isTruth t = true) : ∀ n : Nat, n ≤ f.nights.length → loTo (f.tru t).nights n = sumI t.dross n ∧ hiTo (f.tru t).nights n = sumI t.dross n
  | 0, _ => ⟨rfl, rfl⟩
  | n + 1, hn => by
    have ih := tru_lo ht n (by omega)
    simp only [loTo, hiTo, sumI, tru_nth ht (show n < f.nights.length by omega)]
    omega
theorem tru_chk (hf : f.chk = true) (ht : f.isTruth t = true) : (f.tru t).chk = true := by
  obtain ⟨h1, h2, h3, h4⟩ := truth_parts ht
  refine chk_of (show (f.shop.inTr t.tin t.ant).chk = true from Shop.InT.chk (Fnd.shopOK hf) ⟨h1, h2⟩) (by rw [tru_len]; exact (Fnd.chkB hf).2) (fun i hi => ?_) ?_
  · rw [tru_len] at hi
    rw [tru_nth ht hi]
    have hb := Night.bnds ((Fnd.nightsOK hf).at hi)
    have := h4 i hi
    simp only [Night.chk, isSpan, within, Bool.and_eq_true, decide_eq_true_eq]
    omega
  · have h5 := hiTo_le (l := (f.tru t).nights) (l' := f.nights) (n := f.nights.length) (fun i hi => by rw [tru_nth ht hi]; exact (h4 i hi).2)
    have h6 := Fnd.hi_le hf (Nat.le_refl _)
    rw [tru_len]
    show _ ≤ t.tin
    omega
theorem tru_better (ht : f.isTruth t = true) : Better f (f.tru t) := by
  obtain ⟨h1, h2, h3, h4⟩ := truth_parts ht
  refine ⟨by rw [tru_len]; exact Nat.le_refl _, rfl, fun j => ⟨rfl, rfl, rfl, rfl, Int.le_refl _⟩, ⟨rfl, Int.le_refl _⟩, ⟨rfl, rfl, rfl, rfl⟩, fun i hi => ?_, ⟨⟨h1.1, Int.le_refl _, h1.2⟩, ⟨h2.1, Int.le_refl _, h2.2⟩⟩⟩
  rw [tru_len] at hi
  rw [tru_nth ht hi]
  exact ⟨(h4 i hi).1, Int.le_refl _, (h4 i hi).2⟩
theorem beh_pos {o : Fnd} (ho : o.chk = true) {n night : Nat} {s : Sp} {before : List Int} (hb : BefP o before) : 0 ≤ o.beh (o.now n ((night : Int) + 1)) night s before := by
  have hn : neverC = 1073741824 := rfl
  rcases beh_at (f := o) (nx := o.now n ((night : Int) + 1)) (night := (night : Int)) (s := s) (before := before) with h | ⟨r, hr, h⟩
  · omega
  · rw [h]
    have hbx := rowsS_box hr
    have h1 := pence_pos (Shop.pigsOK (Fnd.shopOK ho)) hb hbx
    rcases now_small ho n ((night : Int) + 1) (nextS o night s) (plus before r) (hb.next hbx) with g | g <;> omega
theorem tru_sp (ht : f.isTruth t = true) {n : Nat} (hn : n ≤ f.nights.length) : spOf (f.tru t) (n : Int) = ⟨t.tin, t.tin, t.ant, t.ant, sumI t.dross n, sumI t.dross n⟩ := by
  unfold spOf
  rw [Int.toNat_natCast, (tru_lo ht n hn).1, (tru_lo ht n hn).2]; rfl
theorem tru_at_plan (hf : f.chk = true) (ht : f.isTruth t = true) : ∀ (n night : Nat) (before : List Int), night + n = f.nights.length → BefP (f.tru t) before → (f.tru t).now n night (spOf (f.tru t) night) before = neverC ∨ ∃ p ∈ (f.tru t).plansR n night before, (f.tru t).now n night (spOf (f.tru t) night) before = gcost costG (f.tru t).shop.pigs p
  | 0, night, before, hn, hb => .inr ⟨[], by simp [Fnd.plansR], rfl⟩
  | n + 1, night, before, hn, hb => by
    have ho := tru_chk hf ht
    have e3 : ((night : Int) + 1) = ((night + 1 : Nat) : Int) := by omega
    have key : (f.tru t).beh ((f.tru t).now n ((night : Int) + 1)) night (spOf (f.tru t) night) before = neverC ∨ ∃ p ∈ (f.tru t).plansR (n + 1) night before, (f.tru t).beh ((f.tru t).now n ((night : Int) + 1)) night (spOf (f.tru t) night) before = gcost costG (f.tru t).shop.pigs p := by
      have h0 := (beh_le (f := f.tru t) (nx := (f.tru t).now n ((night : Int) + 1)) (night := (night : Int)) (s := spOf (f.tru t) night) (before := before)).1
      rcases beh_at (f := f.tru t) (nx := (f.tru t).now n ((night : Int) + 1)) (night := (night : Int)) (s := spOf (f.tru t) night) (before := before) with h | ⟨r, hr, h⟩
      · exact .inl h
      · have hbx := rowsS_box hr
        have hpe := pence_pos (Shop.pigsOK (Fnd.shopOK ho)) hb hbx
        rw [next_spOf, e3] at h
        rw [e3] at h0 ⊢
        rcases tru_at_plan hf ht n (night + 1) (plus before r) (by omega) (hb.next hbx) with h2 | ⟨q, hq, h2⟩
        · rw [h2] at h; exact .inl (by omega)
        · refine .inr ⟨r :: q, ?_, by rw [h, h2]; simp only [gcost, costG]; omega⟩
          rw [plansR_succ, List.mem_flatMap]
          exact ⟨r, hr, List.mem_map.2 ⟨q, by rw [e3]; exact hq, rfl⟩⟩
    simp only [Fnd.now]
    split
    · exact key
    · have e : worst3 (fun t2 a d => (f.tru t).beh ((f.tru t).now n ((night : Int) + 1)) night ⟨t2, t2, a, a, d, d⟩ before) (spOf (f.tru t) night) = (f.tru t).beh ((f.tru t).now n ((night : Int) + 1)) night (spOf (f.tru t) night) before := by
        rw [tru_sp ht (show night ≤ f.nights.length by omega)]
        refine Int.le_antisymm (worst3_le (beh_pos ho hb) fun t2 a d h1 h2 h3 h4 h5 h6 => ?_) ?_
        · have g1 : t2 = t.tin := Int.le_antisymm h2 h1
          have g2 : a = t.ant := Int.le_antisymm h4 h3
          have g3 : d = sumI t.dross night := Int.le_antisymm h6 h5
          subst g1; subst g2; subst g3
          exact Int.le_refl _
        · exact worst3_ge (g := fun t2 a d => (f.tru t).beh ((f.tru t).now n ((night : Int) + 1)) night ⟨t2, t2, a, a, d, d⟩ before) (s := ⟨t.tin, t.tin, t.ant, t.ant, sumI t.dross night, sumI t.dross night⟩) (Int.le_refl _) (Int.le_refl _) (Int.le_refl _) (Int.le_refl _) (Int.le_refl _) (Int.le_refl _)
      rw [e]; exact key
theorem tru_known (hf : f.chk = true) (ht : f.isTruth t = true) : (f.tru t).knownC = (f.tru t).cheapC := by
  have ho := tru_chk hf ht
  have h0 := known_le_cheap ho
  have hn : neverC = 1073741824 := rfl
  have hk := tru_at_plan hf ht f.nights.length 0 (f.tru t).zeros (by omega) (bef_zeros _)
  have e : (f.tru t).knownN = (f.tru t).now f.nights.length ((0 : Nat) : Int) (spOf (f.tru t) ((0 : Nat) : Int)) (f.tru t).zeros := by
    rw [knownN_spOf, tru_len]
  rw [← e] at hk
  unfold Fnd.cheapC at *
  rcases hk with h | ⟨p, hp, h⟩
  · rcases knownC_eq ho with ⟨g1, _, g⟩ | ⟨_, g2, _, _, g⟩
    · rcases leastC_eq ho costG_b with ⟨_, _, h1⟩ | ⟨_, _, h1, h2, h3, _⟩ <;> omega
    · omega
  · have hp2 : p ∈ (f.tru t).allPlans := by
      unfold Fnd.allPlans; rw [tru_len]; exact hp
    rcases leastC_eq ho costG_b with ⟨h1, _, _⟩ | ⟨_, _, h1, h2, h3, q, _, _, _, h5⟩
    · rw [h1] at hp2; simp at hp2
    · have := h5 p hp2
      rcases knownC_eq ho with ⟨g1, _, g⟩ | ⟨_, g2, _, _, g⟩ <;> omega
theorem pigsTo_nth (p : List Pig) (l : List Int) : ∀ (n : Nat) (j : Nat), n ≤ p.length → nth (pigsTo p l n) j = if j < n then { nth p j with many := (nth p j).many - nth l j } else nth p j
  | 0, j, _ => by simp [pigsTo]
  | n + 1, j, hn => by
    rw [pigsTo, nth_lset' (by rw [pigsTo_len]; omega), pigsTo_nth p l n n (by omega), if_neg (Nat.lt_irrefl _), pigsTo_nth p l n j (by omega)]
    by_cases e : j = n
    · subst e; rw [if_pos rfl, if_pos (by omega)]
    · rw [if_neg e]
      by_cases h : j < n
      · rw [if_pos h, if_pos (by omega)]
      · rw [if_neg h, if_neg (by omega)]
structure MenInv (f : Fnd) (t : Tru) (i : Nat) : Prop where
  pd : (f.menS t i).pounds = f.shop.pounds + sumOf Pig.pounds f.shop.pigs (f.menU t i) - sumI t.dross i
  tl : (f.menS t i).tl = t.tin + sumOf Pig.tin f.shop.pigs (f.menU t i) - sumI t.dross i
  th : (f.menS t i).th = t.tin + sumOf Pig.tin f.shop.pigs (f.menU t i) - sumI t.dross i
  al : (f.menS t i).al = t.ant + sumOf Pig.ant f.shop.pigs (f.menU t i)
  ah : (f.menS t i).ah = t.ant + sumOf Pig.ant f.shop.pigs (f.menU t i)
  rm : (f.menS t i).room = f.shop.room
  q : (f.menS t i).tpl = f.shop.tpl ∧ (f.menS t i).tph = f.shop.tph ∧ (f.menS t i).apl = f.shop.apl ∧ (f.menS t i).aph = f.shop.aph
  g : ∀ j : Nat, (nth (f.menS t i).pigs j).pounds = (nth f.shop.pigs j).pounds ∧ (nth (f.menS t i).pigs j).tin = (nth f.shop.pigs j).tin ∧ (nth (f.menS t i).pigs j).ant = (nth f.shop.pigs j).ant ∧ (nth (f.menS t i).pigs j).pence = (nth f.shop.pigs j).pence
  m : ∀ j : Nat, j < f.shop.pigs.length → (nth (f.menS t i).pigs j).many = (nth f.shop.pigs j).many - nth (f.menU t i) j
  ul : (f.menU t i).length = f.shop.pigs.length
  u0 : ∀ j : Nat, j < f.shop.pigs.length → 0 ≤ nth (f.menU t i) j
theorem sum_zeros {g : Pig → Int} {pigs : List Pig} : ∀ (n k : Nat), sumTo g pigs (List.replicate n 0) k = 0
  | n, 0 => rfl
  | n, k + 1 => by simp only [sumTo]; rw [sum_zeros n k, nth_rep]; omega
theorem menInv0 (f : Fnd) (t : Tru) : MenInv f t 0 := by
  have hz : ∀ g : Pig → Int, sumOf g f.shop.pigs (f.menU t 0) = 0 := fun g => sum_zeros _ _
  refine ⟨?_, ?_, ?_, ?_, ?_, rfl, ⟨rfl, rfl, rfl, rfl⟩, fun j => ⟨rfl, rfl, rfl, rfl⟩, fun j _ => ?_, by simp [Fnd.menU], fun j _ => by simp only [Fnd.menU]; rw [nth_rep]; omega⟩
  · rw [hz]; show f.shop.pounds = f.shop.pounds + 0 - 0; omega
  · rw [hz]; show t.tin = t.tin + 0 - 0; omega
  · rw [hz]; show t.tin = t.tin + 0 - 0; omega
  · rw [hz]; show t.ant = t.ant + 0; omega
  · rw [hz]; show t.ant = t.ant + 0; omega
  · simp only [Fnd.menU]; rw [nth_rep]
    show (nth f.shop.pigs j).many = _
    omega
structure MenRow (f : Fnd) (t : Tru) (i : Nat) : Prop where
  len : (f.menS t i).menL.length = f.shop.pigs.length
  b : ∀ j : Nat, j < f.shop.pigs.length → 0 ≤ nth (f.menS t i).menL j ∧ nth (f.menS t i).menL j ≤ (nth f.shop.pigs j).many - nth (f.menU t i) j
  room : f.shop.pounds + sumOf Pig.pounds f.shop.pigs (f.menU t (i + 1)) - sumI t.dross i ≤ f.shop.room
  safe : (f.menS t i).safeP ((f.menS t i).aft (f.menS t i).menL) = true
  aft : (f.menS t i).mAft (f.menS t i).menL = (f.menS t i).aft (f.menS t i).menL
  sum : ∀ g : Pig → Int, sumOf g f.shop.pigs (f.menU t (i + 1)) = sumOf g f.shop.pigs (f.menU t i) + sumOf g f.shop.pigs (f.menS t i).menL
  own : sumOf Pig.pounds (f.menS t i).pigs (f.menS t i).menL = sumOf Pig.pounds f.shop.pigs (f.menS t i).menL ∧ sumOf Pig.tin (f.menS t i).pigs (f.menS t i).menL = sumOf Pig.tin f.shop.pigs (f.menS t i).menL ∧ sumOf Pig.ant (f.menS t i).pigs (f.menS t i).menL = sumOf Pig.ant f.shop.pigs (f.menS t i).menL
theorem menRow {i : Nat} (I : MenInv f t i) (h : f.menOK t i = true) : MenRow f t i := by
  simp only [Fnd.menOK, Bool.and_eq_true, decide_eq_true_eq] at h
  obtain ⟨hc, he⟩ := h
  have hk : (f.menS t i).okM (f.menS t i).menL = true := by
    rcases cheap_spec hc with ⟨g, _⟩ | ⟨_, g, _⟩
    · rw [he] at g; cases g
    · exact g
  unfold Shop.okM at hk
  rw [Bool.and_eq_true] at hk
  obtain ⟨ha, hs⟩ := hk
  have ha2 := ha
  simp only [isAdd, Bool.and_eq_true, decide_eq_true_eq] at ha2
  obtain ⟨⟨h1, h2⟩, h3⟩ := ha2
  rw [menS_len] at h1
  have hl : (f.menS t i).menL.length = f.shop.pigs.length := by omega
  have hsum : ∀ g : Pig → Int, sumOf g f.shop.pigs (f.menU t (i + 1)) = sumOf g f.shop.pigs (f.menU t i) + sumOf g f.shop.pigs (f.menS t i).menL := fun g => sumOf_plus (by rw [I.ul]; exact hl)
  have hown := fun (g : Pig → Int) (hg : ∀ j : Nat, g (nth (f.menS t i).pigs j) = g (nth f.shop.pigs j)) => (sum_same hg (f.menS t i).menL (f.menS t i).menL.length : sumOf g (f.menS t i).pigs (f.menS t i).menL = sumOf g f.shop.pigs (f.menS t i).menL)
  have hp : sumOf Pig.pounds (f.menS t i).pigs (f.menS t i).menL = sumOf Pig.pounds f.shop.pigs (f.menS t i).menL := hown Pig.pounds fun j => (I.g j).1
  refine ⟨hl, fun j hj => ?_, ?_, hs, ?_, hsum, hp, hown Pig.tin fun j => (I.g j).2.1, hown Pig.ant fun j => (I.g j).2.2.1⟩
  · have h4 := allI_iff.1 h2 j (by omega)
    simp only [fitsMany, within, Bool.and_eq_true, decide_eq_true_eq] at h4
    rw [I.m j hj] at h4
    exact h4
  · rw [hsum, I.rm.symm]
    have := I.pd
    rw [hp] at h3
    omega
  · unfold Shop.mAft
    rw [opE_t hc, ha]; rfl
theorem menInv_step {i : Nat} (I : MenInv f t i) (h : f.menOK t i = true) : MenInv f t (i + 1) := by
  have R := menRow I h
  have hU : f.menU t (i + 1) = plus (f.menU t i) (f.menS t i).menL := rfl
  have hS : f.menS t (i + 1) = (f.menS t i).behind (f.menS t i).menL (nth t.dross i) := rfl
  have hpn := fun j : Nat => pigsTo_nth (f.menS t i).pigs (f.menS t i).menL (f.menS t i).menL.length j (by rw [R.len, menS_len]; exact Nat.le_refl _)
  have hs1 : sumI t.dross (i + 1) = sumI t.dross i + nth t.dross i := rfl
  have hpd := I.pd
  have htl := I.tl
  have hth := I.th
  have hal := I.al
  have hah := I.ah
  have o1 := R.own.1
  have o2 := R.own.2.1
  have o3 := R.own.2.2
  refine ⟨?_, ?_, ?_, ?_, ?_, I.rm, I.q, fun j => ?_, fun j hj => ?_, by rw [hU, plus_len]; exact I.ul, fun j hj => ?_⟩
  · rw [hS, R.sum, hs1]
    show ((f.menS t i).mAft _).pounds - nth t.dross i = _
    rw [R.aft]
    show (f.menS t i).pounds + sumOf Pig.pounds (f.menS t i).pigs (f.menS t i).menL - nth t.dross i = _
    omega
  · rw [hS, R.sum, hs1]
    show ((f.menS t i).mAft _).tl - nth t.dross i = _
    rw [R.aft]
    show (f.menS t i).tl + sumOf Pig.tin (f.menS t i).pigs (f.menS t i).menL - nth t.dross i = _
    omega
  · rw [hS, R.sum, hs1]
    show ((f.menS t i).mAft _).th - nth t.dross i = _
    rw [R.aft]
    show (f.menS t i).th + sumOf Pig.tin (f.menS t i).pigs (f.menS t i).menL - nth t.dross i = _
    omega
  · rw [hS, R.sum]
    show ((f.menS t i).mAft _).al = _
    rw [R.aft]
    show (f.menS t i).al + sumOf Pig.ant (f.menS t i).pigs (f.menS t i).menL = _
    omega
  · rw [hS, R.sum]
    show ((f.menS t i).mAft _).ah = _
    rw [R.aft]
    show (f.menS t i).ah + sumOf Pig.ant (f.menS t i).pigs (f.menS t i).menL = _
    omega
  · have e : nth (f.menS t (i + 1)).pigs j = nth (pigsTo (f.menS t i).pigs (f.menS t i).menL (f.menS t i).menL.length) j := rfl
    rw [e, hpn]
    split <;> exact I.g j
  · have e : nth (f.menS t (i + 1)).pigs j = nth (pigsTo (f.menS t i).pigs (f.menS t i).menL (f.menS t i).menL.length) j := rfl
    rw [e, hpn, if_pos (by rw [R.len]; exact hj), hU, nth_plus (by rw [I.ul]; exact hj)]
    have := I.m j hj
    show (nth (f.menS t i).pigs j).many - _ = _
    omega
  · rw [hU, nth_plus (by rw [I.ul]; exact hj)]
    have h1 := I.u0 j hj
    have h2 := (R.b j hj).1
    omega
theorem menInv (hok : ∀ i : Nat, i < f.nights.length → f.menOK t i = true) : ∀ i : Nat, i ≤ f.nights.length → MenInv f t i
  | 0, _ => menInv0 f t
  | i + 1, hi => menInv_step (menInv hok i (by omega)) (hok i (by omega))
theorem menU_upTo {n : Nat} : ∀ i : Nat, i ≤ n → upTo f.shop.pigs.length (f.menP t n) i = f.menU t i
  | 0, _ => rfl
  | i + 1, hi => by rw [upTo, Fnd.menU, menU_upTo i (by omega), menP_nth f t (by omega)]
theorem men_plan (hf : f.chk = true) (ht : f.isTruth t = true) (hok : ∀ i : Nat, i < f.nights.length → f.menOK t i = true) : f.menP t f.nights.length ∈ (f.tru t).allPlans := by
  have ho := tru_chk hf ht
  have hI := menInv hok
  have hR : ∀ i : Nat, i < f.nights.length → MenRow f t i := fun i hi => menRow (hI i (by omega)) (hok i hi)
  have hpl := menP_len f t f.nights.length
  have hul : ∀ i : Nat, i < f.nights.length → upTo f.shop.pigs.length (f.menP t f.nights.length) (i + 1) = f.menU t (i + 1) := fun i hi => menU_upTo (f := f) (t := t) (n := f.nights.length) (i + 1) (by omega)
  refine (mem_allPlans ho).2 ⟨?_, fun i hi => ?_⟩
  · unfold Fnd.isPlan
    simp only [Bool.and_eq_true, decide_eq_true_eq]
    rw [tru_len, hpl]
    refine ⟨⟨rfl, allI_iff.2 fun i hi => ?_⟩, allI_iff.2 fun i hi => ?_⟩
    · have R := hR i hi
      have I := hI i (by omega)
      unfold rowOK
      rw [menP_nth f t hi, Bool.and_eq_true, decide_eq_true_eq]
      refine ⟨by rw [R.len]; rfl, allI_iff.2 fun j hj => ?_⟩
      rw [R.len] at hj
      have h1 := R.b j hj
      have h2 := I.u0 j hj
      simp only [fitsMany, within, Bool.and_eq_true, decide_eq_true_eq]
      show 0 ≤ _ ∧ _ ≤ (nth f.shop.pigs j).many
      omega
    · have R := hR i hi
      have I := hI (i + 1) (by omega)
      have I0 := hI i (by omega)
      unfold Fnd.fitsAt
      rw [show (f.tru t).shop.pigs.length = f.shop.pigs.length from rfl, hul i hi, (tru_lo ht i (by omega)).1]
      simp only [isAdd, Bool.and_eq_true, decide_eq_true_eq]
      refine ⟨⟨by rw [I.ul]; rfl, allI_iff.2 fun j hj => ?_⟩, ?_⟩
      · rw [I.ul] at hj
        have h1 := I.u0 j hj
        have h2 := (R.b j hj).2
        have h3 : nth (f.menU t (i + 1)) j = nth (f.menU t i) j + nth (f.menS t i).menL j := by
          show nth (plus _ _) j = _
          rw [nth_plus (by rw [I0.ul]; exact hj)]
        simp only [fitsMany, within, Bool.and_eq_true, decide_eq_true_eq]
        show 0 ≤ _ ∧ _ ≤ (nth f.shop.pigs j).many
        omega
      · show f.shop.pounds - sumI t.dross i + sumOf Pig.pounds f.shop.pigs (f.menU t (i + 1)) ≤ f.shop.room
        have := R.room
        omega
  · rw [tru_len] at hi
    have R := hR i hi
    have I := hI i (by omega)
    unfold Fnd.safeAt
    rw [show (f.tru t).shop.pigs.length = f.shop.pigs.length from rfl, hul i hi, (tru_lo ht i (by omega)).1, (tru_lo ht i (by omega)).2]
    refine keeps_safe (Int.le_refl _) (Int.le_refl _) fun t2 a d h1 h2 h3 h4 h5 h6 => ?_
    have g1 : t2 = t.tin := Int.le_antisymm h2 h1
    have g2 : a = t.ant := Int.le_antisymm h4 h3
    have g3 : d = sumI t.dross i := Int.le_antisymm h6 h5
    subst g1; subst g2; subst g3
    have hs := safeP_iff.1 R.safe
    rw [I.q.1, I.q.2.1, I.q.2.2.1, I.q.2.2.2] at hs
    have e1 : ((f.menS t i).aft (f.menS t i).menL).pounds = f.shop.pounds + sumOf Pig.pounds f.shop.pigs (f.menU t (i + 1)) - sumI t.dross i := by
      show (f.menS t i).pounds + sumOf Pig.pounds (f.menS t i).pigs (f.menS t i).menL = _
      have := I.pd; have := R.own.1; have := R.sum Pig.pounds; omega
    have e2 : ((f.menS t i).aft (f.menS t i).menL).tl = t.tin + sumOf Pig.tin f.shop.pigs (f.menU t (i + 1)) - sumI t.dross i := by
      show (f.menS t i).tl + sumOf Pig.tin (f.menS t i).pigs (f.menS t i).menL = _
      have := I.tl; have := R.own.2.1; have := R.sum Pig.tin; omega
    have e3 : ((f.menS t i).aft (f.menS t i).menL).th = t.tin + sumOf Pig.tin f.shop.pigs (f.menU t (i + 1)) - sumI t.dross i := by
      show (f.menS t i).th + sumOf Pig.tin (f.menS t i).pigs (f.menS t i).menL = _
      have := I.th; have := R.own.2.1; have := R.sum Pig.tin; omega
    have e4 : ((f.menS t i).aft (f.menS t i).menL).al = t.ant + sumOf Pig.ant f.shop.pigs (f.menU t (i + 1)) := by
      show (f.menS t i).al + sumOf Pig.ant (f.menS t i).pigs (f.menS t i).menL = _
      have := I.al; have := R.own.2.2; have := R.sum Pig.ant; omega
    have e5 : ((f.menS t i).aft (f.menS t i).menL).ah = t.ant + sumOf Pig.ant f.shop.pigs (f.menU t (i + 1)) := by
      show (f.menS t i).ah + sumOf Pig.ant (f.menS t i).pigs (f.menS t i).menL = _
      have := I.ah; have := R.own.2.2; have := R.sum Pig.ant; omega
    rw [e1, e2, e3, e4, e5] at hs
    unfold Fnd.keeps
    exact keeps4_iff.2 hs
theorem mendLaw (hf : f.chk = true) (ht : f.isTruth t = true) (hok : ∀ i : Nat, i < f.nights.length → f.menOK t i = true) : MendLaw f t := by
  have ho := tru_chk hf ht
  have hm := men_plan hf ht hok
  obtain ⟨hp, hs⟩ := (mem_allPlans ho).1 hm
  have hop := openE_ok ho hp
  have hfl : (failsTo (f.tru t) (f.menP t f.nights.length) (f.tru t).nights.length).length = 0 := by
    cases hl : failsTo (f.tru t) (f.menP t f.nights.length) (f.tru t).nights.length with
    | nil => rfl
    | cons x l =>
      obtain ⟨i, hi, _, hx⟩ := (mem_failsTo (f := f.tru t) (plan := f.menP t f.nights.length) (x := x) (f.tru t).nights.length).1 (by rw [hl]; exact List.mem_cons_self)
      rw [hs i hi] at hx; cases hx
  have hL := leastC_eq ho costG_b
  have hless := (tru_better ht).less hf ho fun i hi => .inl (by
    rw [tru_len] at hi
    rw [tru_nth ht hi])
  have hpB := Fnd.planB ho hp
  rcases hL with ⟨h1, _, _⟩ | ⟨_, h2, h3, h4, h5, q, _, _, _, h6⟩
  · rw [h1] at hm; simp at hm
  · refine ⟨ho, by rw [wOpen_eq]; exact hop, ?_, h2, ⟨h4, ?_⟩, ?_, ?_⟩
    · rcases safeV_cases hop with ⟨g, _⟩ | ⟨_, g, _⟩ | ⟨_, g, _⟩
      · exact g
      · exact absurd hfl g
      · exact absurd hfl g
    · rw [← gcost_cost]; exact h6 _ hm
    · refine ⟨by rw [menP_len]; have := (Fnd.chkB hf).2; omega, fun i hi => ?_⟩
      have := hpB.2 i hi
      exact ⟨this.1, bnd_mono this.2 (by omega)⟩
    · have hc := hless.c
      rw [tru_known hf ht] at hc
      unfold Fnd.cheapC at hc
      rw [h3] at hc
      rcases knownC_eq hf with ⟨_, g, _⟩ | ⟨_, _, g1, g2, g3⟩
      · exact .inl g
      · exact .inr ⟨g1, by rw [g2, ← g3]; exact hc⟩
end
end Go.Flong
namespace Go.Flong
open Go Go.Eng Go.Proofs
theorem e6 : Enters' Try.prog 6 := Try.call6
theorem F23_1 : Fld Try.prog 23 1 1 := .mk Try.underlying23 rfl rfl rfl Try.sizeOf3 rfl
theorem S3 : TyS Try.prog 3 := ⟨Try.isAgg3, Try.sizeOf3⟩
theorem F23_0 : Fld Try.prog 23 0 0 := .mk Try.underlying23 rfl rfl rfl Try.sizeOf3 rfl
theorem e54 : Enters' Try.prog 54 := Try.call54
theorem F25_0 : Fld Try.prog 25 0 0 := .mk Try.underlying25 rfl rfl rfl Try.sizeOf3 rfl
theorem F25_1 : Fld Try.prog 25 1 1 := .mk Try.underlying25 rfl rfl rfl Try.sizeOf23 rfl
theorem G23 : TyG Try.prog 23 2 := ⟨Try.isAgg23, Try.sizeOf23⟩
theorem e20 : Enters' Try.prog 20 := Try.call20
theorem F25_2 : Fld Try.prog 25 2 3 := .mk Try.underlying25 rfl rfl rfl Try.sizeOf23 rfl
theorem e74 : Enters' Try.prog 74 := Try.call74
theorem F53_0 : Fld Try.prog 53 0 0 := .mk Try.underlying53 rfl rfl rfl Try.sizeOf3 rfl
theorem F53_1 : Fld Try.prog 53 1 1 := .mk Try.underlying53 rfl rfl rfl Try.sizeOf3 rfl
theorem F53_2 : Fld Try.prog 53 2 2 := .mk Try.underlying53 rfl rfl rfl Try.sizeOf3 rfl
theorem F53_3 : Fld Try.prog 53 3 3 := .mk Try.underlying53 rfl rfl rfl Try.sizeOf3 rfl
theorem F53_4 : Fld Try.prog 53 4 4 := .mk Try.underlying53 rfl rfl rfl Try.sizeOf3 rfl
theorem F28_0 : Fld Try.prog 28 0 0 := .mk Try.underlying28 rfl rfl rfl Try.sizeOf25 rfl
theorem G25 : TyG Try.prog 25 5 := ⟨Try.isAgg25, Try.sizeOf25⟩
theorem e25 : Enters' Try.prog 25 := Try.call25
theorem F28_1 : Fld Try.prog 28 1 5 := .mk Try.underlying28 rfl rfl rfl Try.sizeOf3 rfl
theorem F28_2 : Fld Try.prog 28 2 6 := .mk Try.underlying28 rfl rfl rfl Try.sizeOf23 rfl
theorem F28_3 : Fld Try.prog 28 3 8 := .mk Try.underlying28 rfl rfl rfl Try.sizeOf23 rfl
theorem F28_4 : Fld Try.prog 28 4 10 := .mk Try.underlying28 rfl rfl rfl Try.sizeOf26 rfl
theorem S26 : TyS Try.prog 26 := ⟨Try.isAgg26, Try.sizeOf26⟩
theorem L26 : IsSl Try.prog 26 53 5 := ⟨Try.underlying26, Try.sizeOf53⟩
theorem G53 : TyG Try.prog 53 5 := ⟨Try.isAgg53, Try.sizeOf53⟩
theorem e26 : Enters' Try.prog 26 := Try.call26
theorem e73 : Enters' Try.prog 73 := Try.call73
theorem Z53 : Zero Try.prog 53 [ai (0), ai (0), ai (0), ai (0), ai (0)] := .mk Try.zeroValue53 rfl rfl
theorem L32 : IsSl Try.prog 32 3 1 := ⟨Try.underlying32, Try.sizeOf3⟩
theorem F31_0 : Fld Try.prog 31 0 0 := .mk Try.underlying31 rfl rfl rfl Try.sizeOf28 rfl
theorem G28 : TyG Try.prog 28 11 := ⟨Try.isAgg28, Try.sizeOf28⟩
theorem e11 : Enters' Try.prog 11 := Try.call11
theorem F31_1 : Fld Try.prog 31 1 11 := .mk Try.underlying31 rfl rfl rfl Try.sizeOf29 rfl
theorem S29 : TyS Try.prog 29 := ⟨Try.isAgg29, Try.sizeOf29⟩
theorem L29 : IsSl Try.prog 29 43 3 := ⟨Try.underlying29, Try.sizeOf43⟩
theorem F43_0 : Fld Try.prog 43 0 0 := .mk Try.underlying43 rfl rfl rfl Try.sizeOf23 rfl
theorem F43_1 : Fld Try.prog 43 1 2 := .mk Try.underlying43 rfl rfl rfl Try.sizeOf3 rfl
theorem e21 : Enters' Try.prog 21 := Try.call21
theorem e29 : Enters' Try.prog 29 := Try.call29
theorem Z28 : Zero Try.prog 28 [ai (0), ai (0), ai (0), ai (0), ai (0), ai (0), ai (0), ai (0), ai (0), ai (0), .v (.slice none 0 0)] := .mk Try.zeroValue28 rfl rfl
theorem R26 : RowT Try.prog 26 53 5 40 [.int .i64 0, .int .i64 0, .int .i64 0, .int .i64 0, .int .i64 0] := ⟨Try.underlying26, ⟨Try.t53, _, by kernel_rfl, rfl, rfl, rfl, rfl⟩, rfl, by decide⟩
theorem Z31 : Zero Try.prog 31 [ai (0), ai (0), ai (0), ai (0), ai (0), ai (0), ai (0), ai (0), ai (0), ai (0), .v (.slice none 0 0), .v (.slice none 0 0)] := .mk Try.zeroValue31 rfl rfl
theorem e10 : Enters' Try.prog 10 := Try.call10
theorem R29 : RowT Try.prog 29 43 3 24 [.int .i64 0, .int .i64 0, .int .i64 0] := ⟨Try.underlying29, ⟨Try.t43, _, by kernel_rfl, rfl, rfl, rfl, rfl⟩, rfl, by decide⟩
theorem B31 : BldT Try.prog 31 [(0, 11), (11, 1)] [.int .i64 0, .int .i64 0, .int .i64 0, .int .i64 0, .int .i64 0, .int .i64 0, .int .i64 0, .int .i64 0, .int .i64 0, .int .i64 0, .slice none 0 0, .slice none 0 0] := BldT.mk (ns := [11, 1]) Try.underlying31 ⟨Try.sizeOf28, Try.sizeOf29, trivial⟩ rfl Try.zeroValue31 rfl
theorem G31 : TyG Try.prog 31 12 := ⟨Try.isAgg31, Try.sizeOf31⟩
theorem w6 {n lo hi : Int} : ∀ x ∈ ([.i (n), .i (lo), .i (hi)] : List SV), x.res (keys (α := Pred) []) := by simp [SV.res, El.res, At.res, keys]
theorem r6 {n lo hi : Int} : SV.res (keys (α := Pred) []) (.b (within n lo hi)) := by simp [SV.res, El.res, At.res, keys]
set_option maxHeartbeats 4000000 in
theorem c6 (n lo hi : Int)  : Sig Try.prog 6 [.i (n), .i (lo), .i (hi)] [] (.b (within n lo hi)) [] := by
  refine Sig.intro Try.func6 rfl 0 [(0, .i (n)), (1, .i (lo)), (2, .i (hi))] rfl w6 rfl rfl fun I w => ?_
  refine WP.seq (WP.region ?_)
  refine WPl.v rfl (o_assign rfl) ?_
  refine WPl.nil (EX.then (WP.seq (WP.region ?_)))
  refine WPl.v rfl (o_move rfl) ?_
  refine WPl.v rfl (o_move rfl) ?_
  refine WPl.v rfl (o_leq rfl rfl) ?_
  refine WPl.v rfl (o_move rfl) ?_
  refine WPl.bit 0 1 (decide (lo ≤ n)) rfl rfl ?_
  refine WPl.gv 0 rfl rfl (.plain rfl Iff.rfl rfl) (fun hb => o_move rfl) ?_
  refine WPl.gv 0 rfl rfl (.plain rfl Iff.rfl rfl) (fun hb => o_move rfl) ?_
  refine WPl.gv 0 rfl rfl (.plain rfl Iff.rfl rfl) (fun hb => o_leq rfl rfl) ?_
  refine WPl.v rfl (o_and rfl rfl rfl id) ?_
  refine WPl.v rfl (o_assign rfl) ?_
  refine WPl.nil (EX.then (WP.ret ?_))
  exact EX.fin id (.inl rfl) rfl (.tmp rfl .nil) rfl r6 trivial (by simp) (by simp)
theorem w59 {n lo hi : Int} : ∀ x ∈ ([.i (n), .i (lo), .i (hi)] : List SV), x.res (keys (α := Pred) []) := by simp [SV.res, El.res, At.res, keys]
theorem r59 {n lo hi : Int} : SV.res (keys (α := Pred) []) (.b (within n lo hi)) := by simp [SV.res, El.res, At.res, keys]
set_option maxHeartbeats 4000000 in
theorem c59 (n lo hi : Int)  : Sig Try.prog 59 [.i (n), .i (lo), .i (hi)] [] (.b (within n lo hi)) [] := by
  refine Sig.intro Try.func59 rfl 0 [(0, .i (n)), (1, .i (lo)), (2, .i (hi))] rfl w59 rfl rfl fun I w => ?_
  refine WP.seq (WP.region ?_)
  refine WPl.v rfl (o_assign rfl) ?_
  refine WPl.nil (EX.then (WP.seq (WP.region ?_)))
  refine WPl.v rfl (o_move rfl) ?_
  refine WPl.v rfl (o_move rfl) ?_
  refine WPl.v rfl (o_geq rfl rfl) ?_
  refine WPl.v rfl (o_move rfl) ?_
  refine WPl.bit 0 1 (decide (lo ≤ n)) rfl rfl ?_
  refine WPl.gv 0 rfl rfl (.plain rfl Iff.rfl rfl) (fun hb => o_move rfl) ?_
  refine WPl.gv 0 rfl rfl (.plain rfl Iff.rfl rfl) (fun hb => o_move rfl) ?_
  refine WPl.gv 0 rfl rfl (.plain rfl Iff.rfl rfl) (fun hb => o_leq rfl rfl) ?_
  refine WPl.v rfl (o_and rfl rfl rfl id) ?_
  refine WPl.v rfl (o_assign rfl) ?_
  refine WPl.nil (EX.then (WP.ret ?_))
  exact EX.fin id (.inl rfl) rfl (.tmp rfl .nil) rfl r59 trivial (by simp) (by simp)
theorem w54 {n lo hi : Int} : ∀ x ∈ ([.i (n), .i (lo), .i (hi)] : List SV), x.res (keys (α := Pred) []) := by simp [SV.res, El.res, At.res, keys]
theorem r54 {n lo hi : Int} : SV.res (keys (α := Pred) []) (.b (within n lo hi)) := by simp [SV.res, El.res, At.res, keys]
set_option maxHeartbeats 4000000 in
theorem c54 (n lo hi : Int)  : Sig Try.prog 54 [.i (n), .i (lo), .i (hi)] [] (.b (within n lo hi)) [] := by
  refine Sig.intro Try.func54 rfl 0 [(0, .i (n)), (1, .i (lo)), (2, .i (hi))] rfl w54 rfl rfl fun I w => ?_
  refine WP.seq (WP.region ?_)
  refine WPl.v rfl (o_assign rfl) ?_
  refine WPl.nil (EX.then (WP.seq (WP.region ?_)))
  refine WPl.v rfl (o_move rfl) ?_
  refine WPl.v rfl (o_move rfl) ?_
  refine WPl.v rfl (o_geq rfl rfl) ?_
  refine WPl.v rfl (o_move rfl) ?_
  refine WPl.bit 0 1 (decide (lo ≤ n)) rfl rfl ?_
  refine WPl.gv 0 rfl rfl (.plain rfl Iff.rfl rfl) (fun hb => o_move rfl) ?_
  refine WPl.gv 0 rfl rfl (.plain rfl Iff.rfl rfl) (fun hb => o_move rfl) ?_
  refine WPl.gv 0 rfl rfl (.plain rfl Iff.rfl rfl) (fun hb => o_leq rfl rfl) ?_
  refine WPl.v rfl (o_and rfl rfl rfl id) ?_
  refine WPl.v rfl (o_assign rfl) ?_
  refine WPl.nil (EX.then (WP.ret ?_))
  exact EX.fin id (.inl rfl) rfl (.tmp rfl .nil) rfl r54 trivial (by simp) (by simp)
theorem w21 {n lo hi : Int} : ∀ x ∈ ([.i (n), .i (lo), .i (hi)] : List SV), x.res (keys (α := Pred) []) := by simp [SV.res, El.res, At.res, keys]
theorem r21 {n lo hi : Int} : SV.res (keys (α := Pred) []) (.b (within n lo hi)) := by simp [SV.res, El.res, At.res, keys]
set_option maxHeartbeats 4000000 in
theorem c21 (n lo hi : Int)  : Sig Try.prog 21 [.i (n), .i (lo), .i (hi)] [] (.b (within n lo hi)) [] := by
  refine Sig.intro Try.func21 rfl 0 [(0, .i (n)), (1, .i (lo)), (2, .i (hi))] rfl w21 rfl rfl fun I w => ?_
  refine WP.seq (WP.region ?_)
  refine WPl.v rfl (o_assign rfl) ?_
  refine WPl.nil (EX.then (WP.seq (WP.region ?_)))
  refine WPl.v rfl (o_move rfl) ?_
  refine WPl.v rfl (o_move rfl) ?_
  refine WPl.v rfl (o_move rfl) ?_
  refine WPl.cs 0 rfl rfl rfl rfl (o_sig 0 id (c6 n lo hi) e6 rfl rfl rfl w6 trivial r6) ?_
  refine WPl.v rfl (o_assign rfl) ?_
  refine WPl.nil (EX.then (WP.ret ?_))
  exact EX.fin id (.inl rfl) rfl (.tmp rfl .nil) rfl r21 trivial (by simp) (by simp)
theorem w20 {lo hi most : Int} : ∀ x ∈ ([.e (.g [ai (lo), ai (hi)]), .i (most)] : List SV), x.res (keys (α := Pred) []) := by simp [SV.res, El.res, At.res, keys]
theorem r20 {lo hi most : Int} : SV.res (keys (α := Pred) []) (.b (isSpan lo hi most)) := by simp [SV.res, El.res, At.res, keys]
set_option maxHeartbeats 4000000 in
theorem c20 (lo hi most : Int)  : Sig Try.prog 20 [.e (.g [ai (lo), ai (hi)]), .i (most)] [] (.b (isSpan lo hi most)) [] := by
  refine Sig.intro Try.func20 rfl 0 [(0, .e (.g [ai (lo), ai (hi)])), (1, .i (most))] rfl w20 rfl rfl fun I w => ?_
  refine WP.seq (WP.region ?_)
  refine WPl.l 0 1 rfl rfl rfl (o_boxg rfl) ?_
  refine WPl.v rfl (o_assign rfl) ?_
  refine WPl.nil (EX.then (WP.seq (WP.region ?_)))
  refine WPl.v rfl (o_fldp F23_1 rfl) ?_
  refine WPl.v rfl (o_ldp S3 rfl rfl rfl) ?_
  refine WPl.v rfl (o_move rfl) ?_
  refine WPl.cs 1 rfl rfl rfl rfl (o_sig 1 id (c6 hi 0 most) e6 rfl rfl rfl w6 trivial r6) ?_
  refine WPl.v rfl (o_move rfl) ?_
  refine WPl.bit 1 2 (within hi 0 most) rfl rfl ?_
  refine WPl.gv 1 rfl rfl (.plain rfl Iff.rfl rfl) (fun hb => o_fldp F23_0 rfl) ?_
  refine WPl.gv 1 rfl rfl (.plain rfl Iff.rfl rfl) (fun hb => o_ldp S3 rfl rfl rfl) ?_
  refine WPl.gv 1 rfl rfl (.plain rfl Iff.rfl rfl) (fun hb => o_fldp F23_1 rfl) ?_
  refine WPl.gv 1 rfl rfl (.plain rfl Iff.rfl rfl) (fun hb => o_ldp S3 rfl rfl rfl) ?_
  refine WPl.gc0 1 rfl rfl (.plain rfl Iff.rfl rfl) (fun hb => o_sig 2 id (c6 lo 0 hi) e6 rfl rfl rfl w6 trivial r6) ?_
  refine WPl.v rfl (o_and rfl rfl rfl id) ?_
  refine WPl.v rfl (o_assign rfl) ?_
  refine WPl.nil (EX.then (WP.ret ?_))
  exact EX.fin id (.inl rfl) rfl (.tmp rfl .nil) rfl r20 trivial (by simp) (by simp)
theorem w74 {lo hi most : Int} : ∀ x ∈ ([.e (.g [ai (lo), ai (hi)]), .i (most)] : List SV), x.res (keys (α := Pred) []) := by simp [SV.res, El.res, At.res, keys]
theorem r74 {lo hi most : Int} : SV.res (keys (α := Pred) []) (.b (isSpan lo hi most)) := by simp [SV.res, El.res, At.res, keys]
set_option maxHeartbeats 4000000 in
theorem c74 (lo hi most : Int)  : Sig Try.prog 74 [.e (.g [ai (lo), ai (hi)]), .i (most)] [] (.b (isSpan lo hi most)) [] := by
  refine Sig.intro Try.func74 rfl 0 [(0, .e (.g [ai (lo), ai (hi)])), (1, .i (most))] rfl w74 rfl rfl fun I w => ?_
  refine WP.seq (WP.region ?_)
  refine WPl.l 0 1 rfl rfl rfl (o_boxg rfl) ?_
  refine WPl.v rfl (o_assign rfl) ?_
  refine WPl.nil (EX.then (WP.seq (WP.region ?_)))
  refine WPl.v rfl (o_fldp F23_1 rfl) ?_
  refine WPl.v rfl (o_ldp S3 rfl rfl rfl) ?_
  refine WPl.v rfl (o_move rfl) ?_
  refine WPl.cs 1 rfl rfl rfl rfl (o_sig 1 id (c54 hi 0 most) e54 rfl rfl rfl w54 trivial r54) ?_
  refine WPl.v rfl (o_move rfl) ?_
  refine WPl.bit 1 2 (within hi 0 most) rfl rfl ?_
  refine WPl.gv 1 rfl rfl (.plain rfl Iff.rfl rfl) (fun hb => o_fldp F23_0 rfl) ?_
  refine WPl.gv 1 rfl rfl (.plain rfl Iff.rfl rfl) (fun hb => o_ldp S3 rfl rfl rfl) ?_
  refine WPl.gv 1 rfl rfl (.plain rfl Iff.rfl rfl) (fun hb => o_fldp F23_1 rfl) ?_
  refine WPl.gv 1 rfl rfl (.plain rfl Iff.rfl rfl) (fun hb => o_ldp S3 rfl rfl rfl) ?_
  refine WPl.gc0 1 rfl rfl (.plain rfl Iff.rfl rfl) (fun hb => o_sig 2 id (c54 lo 0 hi) e54 rfl rfl rfl w54 trivial r54) ?_
  refine WPl.v rfl (o_and rfl rfl rfl id) ?_
  refine WPl.v rfl (o_assign rfl) ?_
  refine WPl.nil (EX.then (WP.ret ?_))
  exact EX.fin id (.inl rfl) rfl (.tmp rfl .nil) rfl r74 trivial (by simp) (by simp)
theorem w25 {p tl th al ah : Int} : ∀ x ∈ ([.e (.g [ai (p), ai (tl), ai (th), ai (al), ai (ah)])] : List SV), x.res (keys (α := Pred) []) := by simp [SV.res, El.res, At.res, keys]
theorem r25 {p tl th al ah : Int} : SV.res (keys (α := Pred) []) (.b (isPot p tl th al ah)) := by simp [SV.res, El.res, At.res, keys]
set_option maxHeartbeats 4000000 in
theorem c25 (p tl th al ah : Int)  : Sig Try.prog 25 [.e (.g [ai (p), ai (tl), ai (th), ai (al), ai (ah)])] [] (.b (isPot p tl th al ah)) [] := by
  refine Sig.intro Try.func25 rfl 0 [(0, .e (.g [ai (p), ai (tl), ai (th), ai (al), ai (ah)]))] rfl w25 rfl rfl fun I w => ?_
  refine WP.seq (WP.region ?_)
  refine WPl.l 0 1 rfl rfl rfl (o_boxg rfl) ?_
  refine WPl.v rfl (o_assign rfl) ?_
  refine WPl.nil (EX.then (WP.seq (WP.region ?_)))
  refine WPl.v rfl (o_fldp F25_0 rfl) ?_
  refine WPl.v rfl (o_ldp S3 rfl rfl rfl) ?_
  refine WPl.cs 1 rfl rfl rfl rfl (o_sig 1 id (c6 p 0 400) e6 rfl rfl rfl w6 trivial r6) ?_
  refine WPl.v rfl (o_move rfl) ?_
  refine WPl.bit 1 2 (within p 0 400) rfl rfl ?_
  refine WPl.gv 1 rfl rfl (.plain rfl Iff.rfl rfl) (fun hb => o_fldp F25_1 rfl) ?_
  refine WPl.gv 1 rfl rfl (.plain rfl Iff.rfl rfl) (fun hb => o_ldpg G23 rfl rfl rfl) ?_
  refine WPl.gv 1 rfl rfl (.plain rfl Iff.rfl rfl) (fun hb => o_fldp F25_0 rfl) ?_
  refine WPl.gv 1 rfl rfl (.plain rfl Iff.rfl rfl) (fun hb => o_ldp S3 rfl rfl rfl) ?_
  refine WPl.gc0 1 rfl rfl (.plain rfl Iff.rfl rfl) (fun hb => o_sig 2 id (c20 tl th p) e20 rfl rfl rfl w20 trivial r20) ?_
  refine WPl.v rfl (o_and rfl rfl rfl id) ?_
  refine WPl.v rfl (o_move rfl) ?_
  refine WPl.bit 2 3 ((within p 0 400) && (isSpan tl th p)) rfl rfl ?_
  refine WPl.gv 2 rfl rfl (.plain rfl Iff.rfl rfl) (fun hb => o_fldp F25_2 rfl) ?_
  refine WPl.gv 2 rfl rfl (.plain rfl Iff.rfl rfl) (fun hb => o_ldpg G23 rfl rfl rfl) ?_
  refine WPl.gv 2 rfl rfl (.plain rfl Iff.rfl rfl) (fun hb => o_fldp F25_0 rfl) ?_
  refine WPl.gv 2 rfl rfl (.plain rfl Iff.rfl rfl) (fun hb => o_ldp S3 rfl rfl rfl) ?_
  refine WPl.gc0 2 rfl rfl (.plain rfl Iff.rfl rfl) (fun hb => o_sig 3 id (c20 al ah p) e20 rfl rfl rfl w20 trivial r20) ?_
  refine WPl.v rfl (o_and rfl rfl rfl id) ?_
  refine WPl.v rfl (o_move rfl) ?_
  refine WPl.bit 3 4 (((within p 0 400) && (isSpan tl th p)) && (isSpan al ah p)) rfl rfl ?_
  refine WPl.gv 3 rfl rfl (.plain rfl Iff.rfl rfl) (fun hb => o_fldp F25_1 rfl) ?_
  refine WPl.gv 3 rfl rfl (.plain rfl Iff.rfl rfl) (fun hb => o_fldp F23_1 rfl) ?_
  refine WPl.gv 3 rfl rfl (.plain rfl Iff.rfl rfl) (fun hb => o_ldp S3 rfl rfl rfl) ?_
  refine WPl.gv 3 rfl rfl (.plain rfl Iff.rfl rfl) (fun hb => o_fldp F25_2 rfl) ?_
  refine WPl.gv 3 rfl rfl (.plain rfl Iff.rfl rfl) (fun hb => o_fldp F23_1 rfl) ?_
  refine WPl.gv 3 rfl rfl (.plain rfl Iff.rfl rfl) (fun hb => o_ldp S3 rfl rfl rfl) ?_
  refine WPl.gv 3 rfl rfl (.plain rfl Iff.rfl rfl) (fun hb => o_add rfl rfl (by simp [within, isSpan] at hb; omega) (by simp [within, isSpan] at hb; omega)) ?_
  refine WPl.gv 3 rfl rfl (.plain rfl Iff.rfl rfl) (fun hb => o_fldp F25_0 rfl) ?_
  refine WPl.gv 3 rfl rfl (.plain rfl Iff.rfl rfl) (fun hb => o_ldp S3 rfl rfl rfl) ?_
  refine WPl.gv 3 rfl rfl (.plain rfl Iff.rfl rfl) (fun hb => o_leq rfl rfl) ?_
  refine WPl.v rfl (o_and rfl rfl rfl id) ?_
  refine WPl.v rfl (o_assign rfl) ?_
  refine WPl.nil (EX.then (WP.ret ?_))
  exact EX.fin id (.inl rfl) rfl (.tmp rfl .nil) rfl r25 trivial (by simp) (by simp)
theorem w73 {p tl th al ah : Int} : ∀ x ∈ ([.e (.g [ai (p), ai (tl), ai (th), ai (al), ai (ah)])] : List SV), x.res (keys (α := Pred) []) := by simp [SV.res, El.res, At.res, keys]
theorem r73 {p tl th al ah : Int} : SV.res (keys (α := Pred) []) (.b (isPot p tl th al ah)) := by simp [SV.res, El.res, At.res, keys]
set_option maxHeartbeats 4000000 in
theorem c73 (p tl th al ah : Int)  : Sig Try.prog 73 [.e (.g [ai (p), ai (tl), ai (th), ai (al), ai (ah)])] [] (.b (isPot p tl th al ah)) [] := by
  refine Sig.intro Try.func73 rfl 0 [(0, .e (.g [ai (p), ai (tl), ai (th), ai (al), ai (ah)]))] rfl w73 rfl rfl fun I w => ?_
  refine WP.seq (WP.region ?_)
  refine WPl.l 0 1 rfl rfl rfl (o_boxg rfl) ?_
  refine WPl.v rfl (o_assign rfl) ?_
  refine WPl.nil (EX.then (WP.seq (WP.region ?_)))
  refine WPl.v rfl (o_fldp F25_0 rfl) ?_
  refine WPl.v rfl (o_ldp S3 rfl rfl rfl) ?_
  refine WPl.cs 1 rfl rfl rfl rfl (o_sig 1 id (c54 p 0 400) e54 rfl rfl rfl w54 trivial r54) ?_
  refine WPl.v rfl (o_move rfl) ?_
  refine WPl.bit 1 2 (within p 0 400) rfl rfl ?_
  refine WPl.gv 1 rfl rfl (.plain rfl Iff.rfl rfl) (fun hb => o_fldp F25_1 rfl) ?_
  refine WPl.gv 1 rfl rfl (.plain rfl Iff.rfl rfl) (fun hb => o_ldpg G23 rfl rfl rfl) ?_
  refine WPl.gv 1 rfl rfl (.plain rfl Iff.rfl rfl) (fun hb => o_fldp F25_0 rfl) ?_
  refine WPl.gv 1 rfl rfl (.plain rfl Iff.rfl rfl) (fun hb => o_ldp S3 rfl rfl rfl) ?_
  refine WPl.gc0 1 rfl rfl (.plain rfl Iff.rfl rfl) (fun hb => o_sig 2 id (c74 tl th p) e74 rfl rfl rfl w74 trivial r74) ?_
  refine WPl.v rfl (o_and rfl rfl rfl id) ?_
  refine WPl.v rfl (o_move rfl) ?_
  refine WPl.bit 2 3 ((within p 0 400) && (isSpan tl th p)) rfl rfl ?_
  refine WPl.gv 2 rfl rfl (.plain rfl Iff.rfl rfl) (fun hb => o_fldp F25_2 rfl) ?_
  refine WPl.gv 2 rfl rfl (.plain rfl Iff.rfl rfl) (fun hb => o_ldpg G23 rfl rfl rfl) ?_
  refine WPl.gv 2 rfl rfl (.plain rfl Iff.rfl rfl) (fun hb => o_fldp F25_0 rfl) ?_
  refine WPl.gv 2 rfl rfl (.plain rfl Iff.rfl rfl) (fun hb => o_ldp S3 rfl rfl rfl) ?_
  refine WPl.gv 2 rfl rfl (.plain rfl Iff.rfl rfl) (fun hb => o_fldp F25_1 rfl) ?_
  refine WPl.gv 2 rfl rfl (.plain rfl Iff.rfl rfl) (fun hb => o_fldp F23_1 rfl) ?_
  refine WPl.gv 2 rfl rfl (.plain rfl Iff.rfl rfl) (fun hb => o_ldp S3 rfl rfl rfl) ?_
  refine WPl.gv 2 rfl rfl (.plain rfl Iff.rfl rfl) (fun hb => o_sub rfl rfl (by simp [within, isSpan] at hb; omega) (by simp [within, isSpan] at hb; omega)) ?_
  refine WPl.gc0 2 rfl rfl (.plain rfl Iff.rfl rfl) (fun hb => o_sig 3 id (c74 al ah (p - th)) e74 rfl rfl rfl w74 trivial r74) ?_
  refine WPl.v rfl (o_and rfl rfl rfl id) ?_
  refine WPl.v rfl (o_assign rfl) ?_
  refine WPl.nil (EX.then (WP.ret ?_))
  rw [← isPotP_eq]
  exact EX.fin id (.inl rfl) rfl (.tmp rfl .nil) rfl (by simp [SV.res, El.res, At.res, keys]) trivial (by simp) (by simp)
theorem w26 {p : Pig} : ∀ x ∈ ([.e (.g [ai (p.pounds), ai (p.tin), ai (p.ant), ai (p.pence), ai (p.many)])] : List SV), x.res (keys (α := Pred) []) := by simp [SV.res, El.res, At.res, keys]
theorem r26 {p : Pig} : SV.res (keys (α := Pred) []) (.b (p.chk)) := by simp [SV.res, El.res, At.res, keys]
set_option maxHeartbeats 4000000 in
theorem c26 (p : Pig)  : Sig Try.prog 26 [.e (.g [ai (p.pounds), ai (p.tin), ai (p.ant), ai (p.pence), ai (p.many)])] [] (.b (p.chk)) [] := by
  refine Sig.intro Try.func26 rfl 0 [(0, .e (.g [ai (p.pounds), ai (p.tin), ai (p.ant), ai (p.pence), ai (p.many)]))] rfl w26 rfl rfl fun I w => ?_
  refine WP.seq (WP.region ?_)
  refine WPl.l 0 1 rfl rfl rfl (o_boxg rfl) ?_
  refine WPl.v rfl (o_assign rfl) ?_
  refine WPl.nil (EX.then (WP.seq (WP.region ?_)))
  refine WPl.v rfl (o_fldp F53_0 rfl) ?_
  refine WPl.v rfl (o_ldp S3 rfl rfl rfl) ?_
  refine WPl.cs 1 rfl rfl rfl rfl (o_sig 1 id (c6 p.pounds 1 40) e6 rfl rfl rfl w6 trivial r6) ?_
  refine WPl.v rfl (o_move rfl) ?_
  refine WPl.bit 1 2 (within p.pounds 1 40) rfl rfl ?_
  refine WPl.gv 1 rfl rfl (.plain rfl Iff.rfl rfl) (fun hb => o_fldp F53_1 rfl) ?_
  refine WPl.gv 1 rfl rfl (.plain rfl Iff.rfl rfl) (fun hb => o_ldp S3 rfl rfl rfl) ?_
  refine WPl.gv 1 rfl rfl (.plain rfl Iff.rfl rfl) (fun hb => o_fldp F53_0 rfl) ?_
  refine WPl.gv 1 rfl rfl (.plain rfl Iff.rfl rfl) (fun hb => o_ldp S3 rfl rfl rfl) ?_
  refine WPl.gc0 1 rfl rfl (.plain rfl Iff.rfl rfl) (fun hb => o_sig 2 id (c6 p.tin 0 p.pounds) e6 rfl rfl rfl w6 trivial r6) ?_
  refine WPl.v rfl (o_and rfl rfl rfl id) ?_
  refine WPl.v rfl (o_move rfl) ?_
  refine WPl.bit 2 3 ((within p.pounds 1 40) && (within p.tin 0 p.pounds)) rfl rfl ?_
  refine WPl.gv 2 rfl rfl (.plain rfl Iff.rfl rfl) (fun hb => o_fldp F53_2 rfl) ?_
  refine WPl.gv 2 rfl rfl (.plain rfl Iff.rfl rfl) (fun hb => o_ldp S3 rfl rfl rfl) ?_
  refine WPl.gv 2 rfl rfl (.plain rfl Iff.rfl rfl) (fun hb => o_fldp F53_0 rfl) ?_
  refine WPl.gv 2 rfl rfl (.plain rfl Iff.rfl rfl) (fun hb => o_ldp S3 rfl rfl rfl) ?_
  refine WPl.gv 2 rfl rfl (.plain rfl Iff.rfl rfl) (fun hb => o_fldp F53_1 rfl) ?_
  refine WPl.gv 2 rfl rfl (.plain rfl Iff.rfl rfl) (fun hb => o_ldp S3 rfl rfl rfl) ?_
  refine WPl.gv 2 rfl rfl (.plain rfl Iff.rfl rfl) (fun hb => o_sub rfl rfl (by simp [within, isSpan] at hb; omega) (by simp [within, isSpan] at hb; omega)) ?_
  refine WPl.gc0 2 rfl rfl (.plain rfl Iff.rfl rfl) (fun hb => o_sig 3 id (c6 p.ant 0 (p.pounds - p.tin)) e6 rfl rfl rfl w6 trivial r6) ?_
  refine WPl.v rfl (o_and rfl rfl rfl id) ?_
  refine WPl.v rfl (o_move rfl) ?_
  refine WPl.bit 3 4 (((within p.pounds 1 40) && (within p.tin 0 p.pounds)) && (within p.ant 0 (p.pounds - p.tin))) rfl rfl ?_
  refine WPl.gv 3 rfl rfl (.plain rfl Iff.rfl rfl) (fun hb => o_fldp F53_3 rfl) ?_
  refine WPl.gv 3 rfl rfl (.plain rfl Iff.rfl rfl) (fun hb => o_ldp S3 rfl rfl rfl) ?_
  refine WPl.gc0 3 rfl rfl (.plain rfl Iff.rfl rfl) (fun hb => o_sig 4 id (c6 p.pence 0 99) e6 rfl rfl rfl w6 trivial r6) ?_
  refine WPl.v rfl (o_and rfl rfl rfl id) ?_
  refine WPl.v rfl (o_move rfl) ?_
  refine WPl.bit 4 5 ((((within p.pounds 1 40) && (within p.tin 0 p.pounds)) && (within p.ant 0 (p.pounds - p.tin))) && (within p.pence 0 99)) rfl rfl ?_
  refine WPl.gv 4 rfl rfl (.plain rfl Iff.rfl rfl) (fun hb => o_fldp F53_4 rfl) ?_
  refine WPl.gv 4 rfl rfl (.plain rfl Iff.rfl rfl) (fun hb => o_ldp S3 rfl rfl rfl) ?_
  refine WPl.gc0 4 rfl rfl (.plain rfl Iff.rfl rfl) (fun hb => o_sig 5 id (c6 p.many 0 5) e6 rfl rfl rfl w6 trivial r6) ?_
  refine WPl.v rfl (o_and rfl rfl rfl id) ?_
  refine WPl.v rfl (o_assign rfl) ?_
  refine WPl.nil (EX.then (WP.ret ?_))
  exact EX.fin id (.inl rfl) rfl (.tmp rfl .nil) rfl r26 trivial (by simp) (by simp)
theorem w11 {s : Shop} : ∀ x ∈ ([.e (.g [ai (s.pounds), ai (s.tl), ai (s.th), ai (s.al), ai (s.ah), ai (s.room), ai (s.tpl), ai (s.tph), ai (s.apl), ai (s.aph), .q 0])] : List SV), x.res (keys (α := Pred) [(0, PL EPig (s.pigs))]) := by simp [SV.res, El.res, At.res, keys]
theorem r11 {s : Shop} : SV.res (keys (α := Pred) []) (.i (errM s.chk)) := by simp [SV.res, El.res, At.res, keys]
set_option maxHeartbeats 4000000 in
theorem c11 (s : Shop)  : Sig Try.prog 11 [.e (.g [ai (s.pounds), ai (s.tl), ai (s.th), ai (s.al), ai (s.ah), ai (s.room), ai (s.tpl), ai (s.tph), ai (s.apl), ai (s.aph), .q 0])] [(0, PL EPig (s.pigs))] (.i (errM s.chk)) [] := by
  refine Sig.intro Try.func11 rfl 1 [(0, .e (.g [ai (s.pounds), ai (s.tl), ai (s.th), ai (s.al), ai (s.ah), ai (s.room), ai (s.tpl), ai (s.tph), ai (s.apl), ai (s.aph), .q 0]))] rfl w11 rfl rfl fun I w => ?_
  refine WP.seq (WP.region ?_)
  refine WPl.l 1 2 rfl rfl rfl (o_boxg rfl) ?_
  refine WPl.v rfl (o_assign rfl) ?_
  refine WPl.nil (EX.then (WP.seq (WP.seq (WP.region ?_))))
  refine WPl.v rfl (o_fldp F28_0 rfl) ?_
  refine WPl.v rfl (o_ldpg G25 rfl rfl rfl) ?_
  refine WPl.cs 2 rfl rfl rfl rfl (o_sig 2 id (c25 s.pounds s.tl s.th s.al s.ah) e25 rfl rfl rfl w25 trivial r25) ?_
  refine WPl.v rfl (o_not rfl) ?_
  refine WPl.v rfl (o_move rfl) ?_
  refine WPl.bit 2 3 (!(!(isPot s.pounds s.tl s.th s.al s.ah))) rfl rfl ?_
  refine WPl.gv 2 rfl rfl (.plain rfl (by simp) rfl) (fun hb => o_fldp F28_1 rfl) ?_
  refine WPl.gv 2 rfl rfl (.plain rfl (by simp) rfl) (fun hb => o_ldp S3 rfl rfl rfl) ?_
  refine WPl.gv 2 rfl rfl (.plain rfl (by simp) rfl) (fun hb => o_fldp F28_0 rfl) ?_
  refine WPl.gv 2 rfl rfl (.plain rfl (by simp) rfl) (fun hb => o_fldp F25_0 rfl) ?_
  refine WPl.gv 2 rfl rfl (.plain rfl (by simp) rfl) (fun hb => o_ldp S3 rfl rfl rfl) ?_
  refine WPl.gc0 2 rfl rfl (.plain rfl (by simp) rfl) (fun hb => o_sig 3 id (c6 s.room s.pounds 999) e6 rfl rfl rfl w6 trivial r6) ?_
  refine WPl.gv 2 rfl rfl (.plain rfl (by simp) rfl) (fun hb => o_not rfl) ?_
  refine WPl.v rfl (o_or rfl rfl rfl (by first | (simp; done) | simp_all)) ?_
  refine WPl.v rfl (o_move rfl) ?_
  refine WPl.bit 3 4 (!((!(isPot s.pounds s.tl s.th s.al s.ah)) || (!(within s.room s.pounds 999)))) rfl rfl ?_
  refine WPl.gv 3 rfl rfl (.plain rfl (by simp) rfl) (fun hb => o_fldp F28_2 rfl) ?_
  refine WPl.gv 3 rfl rfl (.plain rfl (by simp) rfl) (fun hb => o_ldpg G23 rfl rfl rfl) ?_
  refine WPl.gc0 3 rfl rfl (.plain rfl (by simp) rfl) (fun hb => o_sig 4 id (c20 s.tpl s.tph 1000) e20 rfl rfl rfl w20 trivial r20) ?_
  refine WPl.gv 3 rfl rfl (.plain rfl (by simp) rfl) (fun hb => o_not rfl) ?_
  refine WPl.v rfl (o_or rfl rfl rfl (by first | (simp; done) | simp_all)) ?_
  refine WPl.v rfl (o_move rfl) ?_
  refine WPl.bit 4 5 (!(((!(isPot s.pounds s.tl s.th s.al s.ah)) || (!(within s.room s.pounds 999))) || (!(isSpan s.tpl s.tph 1000)))) rfl rfl ?_
  refine WPl.gv 4 rfl rfl (.plain rfl (by simp) rfl) (fun hb => o_fldp F28_3 rfl) ?_
  refine WPl.gv 4 rfl rfl (.plain rfl (by simp) rfl) (fun hb => o_ldpg G23 rfl rfl rfl) ?_
  refine WPl.gc0 4 rfl rfl (.plain rfl (by simp) rfl) (fun hb => o_sig 5 id (c20 s.apl s.aph 1000) e20 rfl rfl rfl w20 trivial r20) ?_
  refine WPl.gv 4 rfl rfl (.plain rfl (by simp) rfl) (fun hb => o_not rfl) ?_
  refine WPl.v rfl (o_or rfl rfl rfl (by first | (simp; done) | simp_all)) ?_
  refine WPl.v rfl (o_move rfl) ?_
  refine WPl.bit 5 6 (!((((!(isPot s.pounds s.tl s.th s.al s.ah)) || (!(within s.room s.pounds 999))) || (!(isSpan s.tpl s.tph 1000))) || (!(isSpan s.apl s.aph 1000)))) rfl rfl ?_
  refine WPl.gv 5 rfl rfl (.plain rfl (by simp) rfl) (fun hb => o_fldp F28_4 rfl) ?_
  refine WPl.gv 5 rfl rfl (.plain rfl (by simp) rfl) (fun hb => o_ldp S26 rfl rfl rfl) ?_
  refine WPl.gv 5 rfl rfl (.plain rfl (by simp) rfl) (fun hb => o_lenq L26 rfl (lx rfl)) ?_
  refine WPl.gv 5 rfl rfl (.plain rfl (by simp) rfl) (fun hb => o_gtr rfl rfl) ?_
  refine WPl.v rfl (o_or rfl rfl rfl (by first | (simp; done) | simp_all)) ?_
  refine WPl.nil (EX.then ?_)
  refine WP.cond rfl (fun hc1 => ?_) (fun hc1 => ?_)
  · try simp only [cnd] at hc1
    refine WP.seq (WP.region ?_)
    refine WPl.v rfl (o_assign rfl) ?_
    refine WPl.nil (EX.then (WP.ret (EX.ret_then ?_)))
    have h0 : s.head = false := by simp [Shop.head]; (try simp at hc1); grind
    rw [show errM s.chk = 10 from by simp [errM, Shop.chk, h0]]
    exact EX.fin id (.inl rfl) rfl (.tmp rfl .nil) rfl (by simp [SV.res, El.res, At.res, keys]) trivial (by simp) (by simp)
  · try simp only [cnd] at hc1
    refine WP.skip (EX.then (WP.seq (WP.seq (WP.region ?_))))
    refine WPl.v rfl (o_assign rfl) ?_
    refine WPl.nil (EX.then (WP.block ?_))
    refine WP.loop (Gh := Nat) (fun i => ⟨6, [(1, .e (.a (.p 1 (0)))), (2, .i (0)), (3, .i ((i : Int)))], [(0, PL EPig (s.pigs))], [(1, .blk [ai (s.pounds), ai (s.tl), ai (s.th), ai (s.al), ai (s.ah), ai (s.room), ai (s.tpl), ai (s.tph), ai (s.apl), ai (s.aph), .q 0] 28)], [], []⟩) (fun i => (i : Int) ≤ s.pigs.length ∧ ∀ j : Nat, j < i → (nth s.pigs j).chk = true) (fun i => s.pigs.length - i) (0) id ?_ (LeR.of ⟨rfl, rfl, rfl, trivial⟩ ⟨(lx rfl), trivial⟩ ⟨rfl, trivial⟩ rfl rfl rfl rfl rfl) ?_
    · exact ⟨by omega, fun j hj => absurd hj (Nat.not_lt_zero j)⟩
    intro i hφ
    obtain ⟨hi, hall⟩ := hφ
    refine WP.seq (WP.seq (WP.region ?_))
    refine WPl.v rfl (o_move rfl) ?_
    refine WPl.v rfl (o_fldp F28_4 rfl) ?_
    refine WPl.v rfl (o_ldp S26 rfl rfl rfl) ?_
    refine WPl.v rfl (o_lenq L26 rfl (lx rfl)) ?_
    refine WPl.v rfl (o_lss rfl rfl) ?_
    refine WPl.nil (EX.then ?_)
    refine WP.cond rfl (fun hc2 => ?_) (fun hc2 => ?_)
    · try simp only [cnd] at hc2
      refine WP.skip (EX.then (WP.seq (WP.block (WP.seq (WP.region ?_)))))
      refine WPl.v rfl (o_fldp F28_4 rfl) ?_
      refine WPl.v rfl (o_ldp S26 rfl rfl rfl) ?_
      refine WPl.v rfl (o_move rfl) ?_
      refine WPl.x 6 7 rfl rfl rfl (o_idx L26 rfl (lx rfl) rfl (by first | omega | (simp; omega)) (by first | omega | (simp; omega))) ?_
      refine WPl.v rfl (o_ldqg G53 rfl (lx rfl) (strG rfl) rfl rfl) ?_
      refine WPl.cs 7 rfl rfl rfl rfl (o_sig 7 id (c26 (nth s.pigs (i : Int))) e26 rfl rfl rfl w26 trivial r26) ?_
      refine WPl.v rfl (o_not rfl) ?_
      refine WPl.nil (EX.then ?_)
      refine WP.cond rfl (fun hc3 => ?_) (fun hc3 => ?_)
      · try simp only [cnd] at hc3
        refine WP.seq (WP.region ?_)
        refine WPl.v rfl (o_assign rfl) ?_
        refine WPl.nil (EX.then (WP.ret (EX.ret_blk (EX.ret_then (EX.ret_then (EX.ret_blk (EX.ret_then ?_)))))))
        rw [show errM s.chk = 10 from by simp [errM, Shop.chk, not_all (show i < s.pigs.length by omega) (by simpa using hc3)]]
        exact EX.fin id (.inl rfl) rfl (.tmp rfl .nil) rfl (by simp [SV.res, El.res, At.res, keys]) trivial (by simp) (by simp)
      · try simp only [cnd] at hc3
        refine WP.skip (EX.blk (EX.then (WP.region ?_)))
        refine WPl.v rfl (o_move rfl) ?_
        refine WPl.v rfl (o_add rfl rfl (by first | omega | (simp; omega)) (by first | omega | (simp; omega))) ?_
        refine WPl.v rfl (o_assign rfl) ?_
        refine WPl.nil ?_
        refine EX.again (i + 1) id (by exact ⟨by omega, fun j hj => by rcases Nat.lt_succ_iff_lt_or_eq.1 hj with h | rfl; exact hall j h; simpa using hc3⟩) (by omega) (LeR.of ⟨rfl, rfl, rfl, trivial⟩ ⟨(lx rfl), trivial⟩ ⟨rfl, trivial⟩ rfl rfl rfl rfl rfl)
    · try simp only [cnd] at hc2
      refine WP.exit (EX.exit_then (EX.exit_then (EX.exit_blk (EX.then (WP.seq (WP.region ?_))))))
      refine WPl.v rfl (o_assign rfl) ?_
      refine WPl.nil (EX.then (WP.ret ?_))
      have h0 : s.head = true := by simp [Shop.head]; (try simp at hc1); grind
      rw [show errM s.chk = 0 from by simp [errM, Shop.chk, h0, all_of (fun j hj => hall j (by omega))]]
      exact EX.fin id (.inl rfl) rfl (.tmp rfl .nil) rfl (by simp [SV.res, El.res, At.res, keys]) trivial (by simp) (by simp)
theorem w53 {s : Shop} : ∀ x ∈ ([.e (.g [ai (s.pounds), ai (s.tl), ai (s.th), ai (s.al), ai (s.ah), ai (s.room), ai (s.tpl), ai (s.tph), ai (s.apl), ai (s.aph), .q 0])] : List SV), x.res (keys (α := Pred) [(0, PL EPig (s.pigs))]) := by simp [SV.res, El.res, At.res, keys]
theorem r53 {s : Shop} : SV.res (keys (α := Pred) []) (.i (errM s.chk)) := by simp [SV.res, El.res, At.res, keys]
set_option maxHeartbeats 4000000 in
theorem c53 (s : Shop) (hl : s.pigs.length ≤ 40) : Sig Try.prog 53 [.e (.g [ai (s.pounds), ai (s.tl), ai (s.th), ai (s.al), ai (s.ah), ai (s.room), ai (s.tpl), ai (s.tph), ai (s.apl), ai (s.aph), .q 0])] [(0, PL EPig (s.pigs))] (.i (errM s.chk)) [] := by
  refine Sig.intro Try.func53 rfl 1 [(0, .e (.g [ai (s.pounds), ai (s.tl), ai (s.th), ai (s.al), ai (s.ah), ai (s.room), ai (s.tpl), ai (s.tph), ai (s.apl), ai (s.aph), .q 0]))] rfl w53 rfl rfl fun I w => ?_
  refine WP.seq (WP.region ?_)
  refine WPl.l 1 2 rfl rfl rfl (o_boxg rfl) ?_
  refine WPl.v rfl (o_assign rfl) ?_
  refine WPl.nil (EX.then (WP.seq (WP.region ?_)))
  refine WPl.v rfl (o_fldp F28_0 rfl) ?_
  refine WPl.v rfl (o_ldpg G25 rfl rfl rfl) ?_
  refine WPl.cs 2 rfl rfl rfl rfl (o_sig 2 id (c73 s.pounds s.tl s.th s.al s.ah) e73 rfl rfl rfl w73 trivial r73) ?_
  refine WPl.v rfl (o_move rfl) ?_
  refine WPl.bit 2 3 (isPot s.pounds s.tl s.th s.al s.ah) rfl rfl ?_
  refine WPl.gv 2 rfl rfl (.plain rfl Iff.rfl rfl) (fun hb => o_fldp F28_1 rfl) ?_
  refine WPl.gv 2 rfl rfl (.plain rfl Iff.rfl rfl) (fun hb => o_ldp S3 rfl rfl rfl) ?_
  refine WPl.gv 2 rfl rfl (.plain rfl Iff.rfl rfl) (fun hb => o_fldp F28_0 rfl) ?_
  refine WPl.gv 2 rfl rfl (.plain rfl Iff.rfl rfl) (fun hb => o_fldp F25_0 rfl) ?_
  refine WPl.gv 2 rfl rfl (.plain rfl Iff.rfl rfl) (fun hb => o_ldp S3 rfl rfl rfl) ?_
  refine WPl.gc0 2 rfl rfl (.plain rfl Iff.rfl rfl) (fun hb => o_sig 3 id (c54 s.room s.pounds 999) e54 rfl rfl rfl w54 trivial r54) ?_
  refine WPl.v rfl (o_and rfl rfl rfl id) ?_
  refine WPl.v rfl (o_move rfl) ?_
  refine WPl.bit 3 4 ((isPot s.pounds s.tl s.th s.al s.ah) && (within s.room s.pounds 999)) rfl rfl ?_
  refine WPl.gv 3 rfl rfl (.plain rfl Iff.rfl rfl) (fun hb => o_fldp F28_2 rfl) ?_
  refine WPl.gv 3 rfl rfl (.plain rfl Iff.rfl rfl) (fun hb => o_ldpg G23 rfl rfl rfl) ?_
  refine WPl.gc0 3 rfl rfl (.plain rfl Iff.rfl rfl) (fun hb => o_sig 4 id (c74 s.tpl s.tph 1000) e74 rfl rfl rfl w74 trivial r74) ?_
  refine WPl.v rfl (o_and rfl rfl rfl id) ?_
  refine WPl.v rfl (o_move rfl) ?_
  refine WPl.bit 4 5 (((isPot s.pounds s.tl s.th s.al s.ah) && (within s.room s.pounds 999)) && (isSpan s.tpl s.tph 1000)) rfl rfl ?_
  refine WPl.gv 4 rfl rfl (.plain rfl Iff.rfl rfl) (fun hb => o_fldp F28_3 rfl) ?_
  refine WPl.gv 4 rfl rfl (.plain rfl Iff.rfl rfl) (fun hb => o_ldpg G23 rfl rfl rfl) ?_
  refine WPl.gc0 4 rfl rfl (.plain rfl Iff.rfl rfl) (fun hb => o_sig 5 id (c74 s.apl s.aph 1000) e74 rfl rfl rfl w74 trivial r74) ?_
  refine WPl.v rfl (o_and rfl rfl rfl id) ?_
  refine WPl.v rfl (o_move rfl) ?_
  refine WPl.bit 5 6 ((((isPot s.pounds s.tl s.th s.al s.ah) && (within s.room s.pounds 999)) && (isSpan s.tpl s.tph 1000)) && (isSpan s.apl s.aph 1000)) rfl rfl ?_
  refine WPl.gv 5 rfl rfl (.plain rfl Iff.rfl rfl) (fun hb => o_fldp F28_4 rfl) ?_
  refine WPl.gv 5 rfl rfl (.plain rfl Iff.rfl rfl) (fun hb => o_ldp S26 rfl rfl rfl) ?_
  refine WPl.gv 5 rfl rfl (.plain rfl Iff.rfl rfl) (fun hb => o_lenq L26 rfl (lx rfl)) ?_
  refine WPl.gv 5 rfl rfl (.plain rfl Iff.rfl rfl) (fun hb => o_leq rfl rfl) ?_
  refine WPl.v rfl (o_and rfl rfl rfl id) ?_
  refine WPl.v rfl (o_assign rfl) ?_
  refine WPl.nil (EX.then (WP.seq (WP.seq (WP.region ?_))))
  refine WPl.v rfl (o_fldp F28_4 rfl) ?_
  refine WPl.v rfl (o_ldp S26 rfl rfl rfl) ?_
  refine WPl.v rfl (o_lenq L26 rfl (lx rfl)) ?_
  refine WPl.v rfl (o_move rfl) ?_
  refine WPl.nil (EX.then (WP.block ?_))
  refine WP.loop (Gh := Nat) (fun i => ⟨6, [(2, .i (0)), (3, .b (s.head && allTo Pig.chk s.pigs i)), (34, .e (.a (.q 0))), (35, .i ((s.pigs.length : Int))), (36, .i ((i : Int)))], [(0, PL EPig (s.pigs))], [], [], []⟩) (fun i => i ≤ s.pigs.length) (fun i => s.pigs.length - i) (0) id ?_ (LeR.of ⟨rfl, (congrArg (fun z => some (SV.b z)) (show (((((isPot s.pounds s.tl s.th s.al s.ah) && (within s.room s.pounds 999)) && (isSpan s.tpl s.tph 1000)) && (isSpan s.apl s.aph 1000)) && (decide ((s.pigs.length : Int) ≤ 4))) = ((fun i => s.head && allTo Pig.chk s.pigs i) 0) from by simp [Shop.head, allTo])), rfl, rfl, rfl, trivial⟩ ⟨(lx rfl), trivial⟩ trivial rfl rfl rfl rfl rfl) ?_
  · first | trivial | omega | (constructor <;> omega) | simp
  intro i hφ
  try simp only [] at hφ
  refine WP.seq (WP.region ?_)
  refine WPl.v rfl (o_lss rfl rfl) ?_
  refine WPl.nil (EX.then (WP.seq ?_))
  refine WP.cond rfl (fun hc1 => ?_) (fun hc1 => ?_)
  · try simp only [cnd] at hc1
    refine WP.skip (EX.then (WP.seq (WP.block (WP.seq (WP.region ?_)))))
    refine WPl.x 6 7 rfl rfl rfl (o_idx L26 rfl (lx rfl) rfl (by first | omega | (simp; omega)) (by first | omega | (simp; omega))) ?_
    refine WPl.v rfl (o_ldqg G53 rfl (lx rfl) (strG rfl) rfl rfl) ?_
    refine WPl.l 7 8 rfl rfl rfl (o_alloc Z53) ?_
    refine WPl.s1 (o_stag G53 rfl rfl rfl ⟨rfl, rfl, rfl, rfl, rfl, trivial⟩ rfl rfl) ?_
    refine WPl.nil (EX.then (WP.region ?_))
    refine WPl.v rfl (o_move rfl) ?_
    refine WPl.v rfl (o_move rfl) ?_
    refine WPl.bit 8 9 (s.head && allTo Pig.chk s.pigs i) rfl rfl ?_
    refine WPl.gv 8 rfl rfl (.plain rfl Iff.rfl rfl) (fun hb => o_fldp F53_0 rfl) ?_
    refine WPl.gv 8 rfl rfl (.plain rfl Iff.rfl rfl) (fun hb => o_ldp S3 rfl rfl rfl) ?_
    refine WPl.gc0 8 rfl rfl (.plain rfl Iff.rfl rfl) (fun hb => o_sig 9 id (c54 ((nth s.pigs (i : Int)).pounds) 1 40) e54 rfl rfl rfl w54 trivial r54) ?_
    refine WPl.v rfl (o_and rfl rfl rfl id) ?_
    refine WPl.v rfl (o_move rfl) ?_
    refine WPl.bit 9 10 ((s.head && allTo Pig.chk s.pigs i) && (within ((nth s.pigs (i : Int)).pounds) 1 40)) rfl rfl ?_
    refine WPl.gv 9 rfl rfl (.plain rfl Iff.rfl rfl) (fun hb => o_fldp F53_1 rfl) ?_
    refine WPl.gv 9 rfl rfl (.plain rfl Iff.rfl rfl) (fun hb => o_ldp S3 rfl rfl rfl) ?_
    refine WPl.gv 9 rfl rfl (.plain rfl Iff.rfl rfl) (fun hb => o_fldp F53_0 rfl) ?_
    refine WPl.gv 9 rfl rfl (.plain rfl Iff.rfl rfl) (fun hb => o_ldp S3 rfl rfl rfl) ?_
    refine WPl.gc0 9 rfl rfl (.plain rfl Iff.rfl rfl) (fun hb => o_sig 10 id (c54 ((nth s.pigs (i : Int)).tin) 0 ((nth s.pigs (i : Int)).pounds)) e54 rfl rfl rfl w54 trivial r54) ?_
    refine WPl.v rfl (o_and rfl rfl rfl id) ?_
    refine WPl.v rfl (o_move rfl) ?_
    refine WPl.bit 10 11 (((s.head && allTo Pig.chk s.pigs i) && (within ((nth s.pigs (i : Int)).pounds) 1 40)) && (within ((nth s.pigs (i : Int)).tin) 0 ((nth s.pigs (i : Int)).pounds))) rfl rfl ?_
    refine WPl.gv 10 rfl rfl (.plain rfl Iff.rfl rfl) (fun hb => o_fldp F53_2 rfl) ?_
    refine WPl.gv 10 rfl rfl (.plain rfl Iff.rfl rfl) (fun hb => o_ldp S3 rfl rfl rfl) ?_
    refine WPl.gv 10 rfl rfl (.plain rfl Iff.rfl rfl) (fun hb => o_fldp F53_0 rfl) ?_
    refine WPl.gv 10 rfl rfl (.plain rfl Iff.rfl rfl) (fun hb => o_ldp S3 rfl rfl rfl) ?_
    refine WPl.gv 10 rfl rfl (.plain rfl Iff.rfl rfl) (fun hb => o_fldp F53_1 rfl) ?_
    refine WPl.gv 10 rfl rfl (.plain rfl Iff.rfl rfl) (fun hb => o_ldp S3 rfl rfl rfl) ?_
    refine WPl.gv 10 rfl rfl (.plain rfl Iff.rfl rfl) (fun hb => o_sub rfl rfl (by simp [within] at hb; omega) (by simp [within] at hb; omega)) ?_
    refine WPl.gc0 10 rfl rfl (.plain rfl Iff.rfl rfl) (fun hb => o_sig 11 id (c54 ((nth s.pigs (i : Int)).ant) 0 (((nth s.pigs (i : Int)).pounds) - ((nth s.pigs (i : Int)).tin))) e54 rfl rfl rfl w54 trivial r54) ?_
    refine WPl.v rfl (o_and rfl rfl rfl id) ?_
    refine WPl.v rfl (o_move rfl) ?_
    refine WPl.bit 11 12 ((((s.head && allTo Pig.chk s.pigs i) && (within ((nth s.pigs (i : Int)).pounds) 1 40)) && (within ((nth s.pigs (i : Int)).tin) 0 ((nth s.pigs (i : Int)).pounds))) && (within ((nth s.pigs (i : Int)).ant) 0 (((nth s.pigs (i : Int)).pounds) - ((nth s.pigs (i : Int)).tin)))) rfl rfl ?_
    refine WPl.gv 11 rfl rfl (.plain rfl Iff.rfl rfl) (fun hb => o_fldp F53_3 rfl) ?_
    refine WPl.gv 11 rfl rfl (.plain rfl Iff.rfl rfl) (fun hb => o_ldp S3 rfl rfl rfl) ?_
    refine WPl.gc0 11 rfl rfl (.plain rfl Iff.rfl rfl) (fun hb => o_sig 12 id (c54 ((nth s.pigs (i : Int)).pence) 0 99) e54 rfl rfl rfl w54 trivial r54) ?_
    refine WPl.v rfl (o_and rfl rfl rfl id) ?_
    refine WPl.v rfl (o_move rfl) ?_
    refine WPl.bit 12 13 (((((s.head && allTo Pig.chk s.pigs i) && (within ((nth s.pigs (i : Int)).pounds) 1 40)) && (within ((nth s.pigs (i : Int)).tin) 0 ((nth s.pigs (i : Int)).pounds))) && (within ((nth s.pigs (i : Int)).ant) 0 (((nth s.pigs (i : Int)).pounds) - ((nth s.pigs (i : Int)).tin)))) && (within ((nth s.pigs (i : Int)).pence) 0 99)) rfl rfl ?_
    refine WPl.gv 12 rfl rfl (.plain rfl Iff.rfl rfl) (fun hb => o_fldp F53_4 rfl) ?_
    refine WPl.gv 12 rfl rfl (.plain rfl Iff.rfl rfl) (fun hb => o_ldp S3 rfl rfl rfl) ?_
    refine WPl.gc0 12 rfl rfl (.plain rfl Iff.rfl rfl) (fun hb => o_sig 13 id (c54 ((nth s.pigs (i : Int)).many) 0 5) e54 rfl rfl rfl w54 trivial r54) ?_
    refine WPl.v rfl (o_and rfl rfl rfl id) ?_
    refine WPl.v rfl (o_assign rfl) ?_
    refine WPl.nil (EX.blk (EX.then (WP.region ?_)))
    refine WPl.v rfl (o_add rfl rfl (by first | omega | (simp; omega)) (by first | omega | (simp; omega))) ?_
    refine WPl.v rfl (o_move rfl) ?_
    refine WPl.nil ?_
    refine EX.again (i + 1) id (by first | omega | (constructor <;> omega)) (by omega) (LeR.of ⟨rfl, (congrArg (fun z => some (SV.b z)) (show ((((((s.head && allTo Pig.chk s.pigs i) && (within ((nth s.pigs (i : Int)).pounds) 1 40)) && (within ((nth s.pigs (i : Int)).tin) 0 ((nth s.pigs (i : Int)).pounds))) && (within ((nth s.pigs (i : Int)).ant) 0 (((nth s.pigs (i : Int)).pounds) - ((nth s.pigs (i : Int)).tin)))) && (within ((nth s.pigs (i : Int)).pence) 0 99)) && (within ((nth s.pigs (i : Int)).many) 0 5)) = ((fun i => s.head && allTo Pig.chk s.pigs i) (i + 1)) from by simp only [allTo, Pig.chk, Bool.and_assoc])), rfl, rfl, rfl, trivial⟩ ⟨(lx rfl), trivial⟩ trivial rfl rfl rfl rfl rfl)
  · try simp only [cnd] at hc1
    refine WP.exit (EX.exit_then (EX.exit_then (EX.exit_blk (EX.then (WP.seq (WP.seq (WP.region ?_)))))))
    refine WPl.v rfl (o_move rfl) ?_
    refine WPl.v rfl (o_not rfl) ?_
    refine WPl.nil (EX.then ?_)
    refine WP.cond rfl (fun hc2 => ?_) (fun hc2 => ?_)
    · try simp only [cnd] at hc2
      refine WP.seq (WP.region ?_)
      refine WPl.v rfl (o_assign rfl) ?_
      refine WPl.nil (EX.then (WP.ret (EX.ret_then ?_)))
      have hi : i = s.pigs.length := by omega
      rw [show errM s.chk = 10 from by subst hi; rw [allTo_len] at hc2; simp only [errM, Shop.chk]; rcases hc2 with h | h <;> simp [h]]
      exact EX.fin id (.inl rfl) rfl (.tmp rfl .nil) rfl (by simp [SV.res, El.res, At.res, keys]) trivial (by simp) (by simp)
    · try simp only [cnd] at hc2
      refine WP.skip (EX.then (WP.seq (WP.region ?_)))
      refine WPl.v rfl (o_assign rfl) ?_
      refine WPl.nil (EX.then (WP.ret ?_))
      have hi : i = s.pigs.length := by omega
      rw [show errM s.chk = 0 from by subst hi; rw [allTo_len] at hc2; simp [errM, Shop.chk]; simpa using hc2]
      exact EX.fin id (.inl rfl) rfl (.tmp rfl .nil) rfl (by simp [SV.res, El.res, At.res, keys]) trivial (by simp) (by simp)
theorem w29 {s : Shop} {add : List Int} : ∀ x ∈ ([.e (.g [ai (s.pounds), ai (s.tl), ai (s.th), ai (s.al), ai (s.ah), ai (s.room), ai (s.tpl), ai (s.tph), ai (s.apl), ai (s.aph), .q 0]), .e (.a (.q 1))] : List SV), x.res (keys (α := Pred) [(0, PL EPig (s.pigs)), (1, PL EP.int (add))]) := by simp [SV.res, El.res, At.res, keys]
theorem r29 {s : Shop} {add : List Int} : SV.res (keys (α := Pred) []) (.i (sumOf Pig.pounds s.pigs add)) := by simp [SV.res, El.res, At.res, keys]
set_option maxHeartbeats 4000000 in
theorem c29 (s : Shop) (add : List Int) (hs : PigsOK s.pigs) (ha : bnd add 1000) (hl : add.length ≤ s.pigs.length) : Sig Try.prog 29 [.e (.g [ai (s.pounds), ai (s.tl), ai (s.th), ai (s.al), ai (s.ah), ai (s.room), ai (s.tpl), ai (s.tph), ai (s.apl), ai (s.aph), .q 0]), .e (.a (.q 1))] [(0, PL EPig (s.pigs)), (1, PL EP.int (add))] (.i (sumOf Pig.pounds s.pigs add)) [] := by
  have hl2 := hs.2
  have hf : ∀ j : Nat, j < add.length → 0 ≤ (nth s.pigs j).pounds ∧ (nth s.pigs j).pounds ≤ 99 := fun j hj => by have := Pig.bnds (hs.at (show j < s.pigs.length by omega)); omega
  have hsum := sumTo_bnd (f := Pig.pounds) ha hf
  refine Sig.intro Try.func29 rfl 2 [(0, .e (.g [ai (s.pounds), ai (s.tl), ai (s.th), ai (s.al), ai (s.ah), ai (s.room), ai (s.tpl), ai (s.tph), ai (s.apl), ai (s.aph), .q 0])), (1, .e (.a (.q 1)))] rfl w29 rfl rfl fun I w => ?_
  refine WP.seq (WP.region ?_)
  refine WPl.l 2 3 rfl rfl rfl (o_boxg rfl) ?_
  refine WPl.v rfl (o_assign rfl) ?_
  refine WPl.nil (EX.then (WP.seq (WP.region ?_)))
  refine WPl.v rfl (o_assign rfl) ?_
  refine WPl.nil (EX.then (WP.seq (WP.seq (WP.region ?_))))
  refine WPl.v rfl (o_assign rfl) ?_
  refine WPl.nil (EX.then (WP.block ?_))
  refine WP.loop (Gh := Nat) (fun i => ⟨3, [(1, .e (.a (.q 1))), (2, .e (.a (.p 2 (0)))), (4, .i (0)), (5, .i (sumTo Pig.pounds s.pigs add i)), (6, .i ((i : Int)))], [(0, PL EPig (s.pigs)), (1, PL EP.int (add))], [(2, .blk [ai (s.pounds), ai (s.tl), ai (s.th), ai (s.al), ai (s.ah), ai (s.room), ai (s.tpl), ai (s.tph), ai (s.apl), ai (s.aph), .q 0] 28)], [], []⟩) (fun i => i ≤ add.length) (fun i => add.length - i) (0) id ?_ (LeR.of ⟨rfl, rfl, rfl, rfl, rfl, trivial⟩ ⟨(lx rfl), (lx rfl), trivial⟩ ⟨rfl, trivial⟩ rfl rfl rfl rfl rfl) ?_
  · first | trivial | omega | (constructor <;> omega) | simp
  intro i hφ
  try simp only [] at hφ
  refine WP.seq (WP.seq (WP.region ?_))
  refine WPl.v rfl (o_move rfl) ?_
  refine WPl.v rfl (o_move rfl) ?_
  refine WPl.v rfl (o_lenq L32 rfl (lx rfl)) ?_
  refine WPl.v rfl (o_lss rfl rfl) ?_
  refine WPl.nil (EX.then ?_)
  refine WP.cond rfl (fun hc1 => ?_) (fun hc1 => ?_)
  · try simp only [cnd] at hc1
    refine WP.skip (EX.then (WP.seq (WP.block ?_)))
    refine WP.draw (nf := 5) [⟨[14, 15, 16, 17, 18, 19, 20, 21, 22, 23, 24], [3, 4], [], [], []⟩, ⟨[13, 15, 18, 19, 20, 21, 22, 23], [4], [], [], []⟩, ⟨[13, 14, 18, 19, 20, 21, 22, 23], [4], [], [], []⟩, ⟨[13, 18, 19, 20, 21, 22, 23], [4], [3], [3], [1, 2]⟩, ⟨[13, 18, 19, 20, 21, 22, 23], [4], [], [], [1, 2, 3]⟩, ⟨[13, 14, 15, 16, 17, 20], [3], [], [], []⟩, ⟨[13, 14, 15, 16, 17, 20], [3], [], [], [5]⟩, ⟨[13, 14, 15, 16, 17, 18, 19], [3], [], [], []⟩, ⟨[13, 14, 15, 16, 17], [3], [4], [4], [5, 6, 7]⟩, ⟨[13, 14, 15, 16, 17], [3], [], [], [5, 6, 7, 8]⟩, ⟨[13, 14, 15, 16, 17], [3], [], [], [5, 6, 7, 8, 9]⟩, ⟨[13], [], [], [], [1, 2, 3, 4, 5, 6, 7, 8, 9, 10]⟩, ⟨[], [], [], [], [0, 1, 2, 3, 4, 5, 6, 7, 8, 9, 10, 11]⟩, ⟨[], [], [], [], [0, 1, 2, 3, 4, 5, 6, 7, 8, 9, 10, 11, 12]⟩] (by kernel_rfl) (by kernel_rfl) ?_
    refine DRQ.v rfl rfl rfl (o_move rfl) ?_
    refine DRQ.v rfl rfl rfl (o_move rfl) ?_
    refine DRQ.v rfl rfl rfl (o_move rfl) ?_
    refine DRQ.x 3 rfl rfl rfl rfl (o_idx L32 rfl (lx rfl) rfl (by first | omega | (simp; omega)) (by first | omega | (simp; omega))) ?_
    refine DRQ.v rfl rfl rfl (o_ldq S3 rfl (lx rfl) intc) ?_
    refine DRQ.v rfl rfl rfl (o_fldp F28_4 rfl) ?_
    refine DRQ.v rfl rfl rfl (o_ldp S26 rfl rfl rfl) ?_
    refine DRQ.v rfl rfl rfl (o_move rfl) ?_
    refine DRQ.x 4 rfl rfl rfl rfl (o_idx L26 rfl (lx rfl) rfl (by first | omega | (simp; omega)) (by first | omega | (simp; omega))) ?_
    refine DRQ.v rfl rfl rfl (o_fldq F53_0 rfl (lx rfl)) ?_
    refine DRQ.v rfl rfl rfl (o_lde S3 rfl (lx rfl) (strI rfl)) ?_
    have h1 := ha i (by omega)
    have h2 := hf i (by omega)
    have h3 := mulb h1.1 h1.2 h2.1 h2.2
    have h4 := hsum i (by omega)
    refine DRQ.v rfl rfl rfl (o_mul rfl rfl (by first | omega | (simp; omega)) (by first | omega | (simp; omega))) ?_
    refine DRQ.v rfl rfl rfl (o_add rfl rfl (by first | omega | (simp; omega)) (by first | omega | (simp; omega))) ?_
    refine DRQ.v rfl rfl rfl (o_assign rfl) ?_
    refine DRQ.nil' ?_
    refine EX.blk (EX.then (WP.region ?_))
    refine WPl.v rfl (o_move rfl) ?_
    refine WPl.v rfl (o_add rfl rfl (by first | omega | (simp; omega)) (by first | omega | (simp; omega))) ?_
    refine WPl.v rfl (o_assign rfl) ?_
    refine WPl.nil ?_
    refine EX.again (i + 1) id (by first | omega | (constructor <;> omega)) (by omega) (LeR.of ⟨rfl, rfl, rfl, rfl, rfl, trivial⟩ ⟨(lx rfl), (lx rfl), trivial⟩ ⟨rfl, trivial⟩ rfl rfl rfl rfl rfl)
  · try simp only [cnd] at hc1
    refine WP.exit (EX.exit_then (EX.exit_then (EX.exit_blk (EX.then (WP.seq (WP.region ?_))))))
    refine WPl.v rfl (o_move rfl) ?_
    refine WPl.v rfl (o_assign rfl) ?_
    refine WPl.nil (EX.then (WP.ret ?_))
    have hi : i = add.length := by omega
    subst hi
    exact EX.fin id (.inl rfl) rfl (.tmp rfl .nil) rfl (by simp [SV.res, El.res, At.res, keys]) trivial (by simp) (by simp)
theorem w42 {s : Shop} {add : List Int} : ∀ x ∈ ([.e (.g [ai (s.pounds), ai (s.tl), ai (s.th), ai (s.al), ai (s.ah), ai (s.room), ai (s.tpl), ai (s.tph), ai (s.apl), ai (s.aph), .q 0]), .e (.a (.q 1))] : List SV), x.res (keys (α := Pred) [(0, PL EPig (s.pigs)), (1, PL EP.int (add))]) := by simp [SV.res, El.res, At.res, keys]
theorem r42 {s : Shop} {add : List Int} : SV.res (keys (α := Pred) []) (.i (sumOf Pig.pence s.pigs add)) := by simp [SV.res, El.res, At.res, keys]
set_option maxHeartbeats 4000000 in
theorem c42 (s : Shop) (add : List Int) (hs : PigsOK s.pigs) (ha : bnd add 1000) (hl : add.length ≤ s.pigs.length) : Sig Try.prog 42 [.e (.g [ai (s.pounds), ai (s.tl), ai (s.th), ai (s.al), ai (s.ah), ai (s.room), ai (s.tpl), ai (s.tph), ai (s.apl), ai (s.aph), .q 0]), .e (.a (.q 1))] [(0, PL EPig (s.pigs)), (1, PL EP.int (add))] (.i (sumOf Pig.pence s.pigs add)) [] := by
  have hl2 := hs.2
  have hf : ∀ j : Nat, j < add.length → 0 ≤ (nth s.pigs j).pence ∧ (nth s.pigs j).pence ≤ 99 := fun j hj => by have := Pig.bnds (hs.at (show j < s.pigs.length by omega)); omega
  have hsum := sumTo_bnd (f := Pig.pence) ha hf
  refine Sig.intro Try.func42 rfl 2 [(0, .e (.g [ai (s.pounds), ai (s.tl), ai (s.th), ai (s.al), ai (s.ah), ai (s.room), ai (s.tpl), ai (s.tph), ai (s.apl), ai (s.aph), .q 0])), (1, .e (.a (.q 1)))] rfl w42 rfl rfl fun I w => ?_
  refine WP.seq (WP.region ?_)
  refine WPl.l 2 3 rfl rfl rfl (o_boxg rfl) ?_
  refine WPl.v rfl (o_assign rfl) ?_
  refine WPl.nil (EX.then (WP.seq (WP.region ?_)))
  refine WPl.v rfl (o_assign rfl) ?_
  refine WPl.nil (EX.then (WP.seq (WP.seq (WP.region ?_))))
  refine WPl.v rfl (o_assign rfl) ?_
  refine WPl.nil (EX.then (WP.block ?_))
  refine WP.loop (Gh := Nat) (fun i => ⟨3, [(1, .e (.a (.q 1))), (2, .e (.a (.p 2 (0)))), (4, .i (0)), (5, .i (sumTo Pig.pence s.pigs add i)), (6, .i ((i : Int)))], [(0, PL EPig (s.pigs)), (1, PL EP.int (add))], [(2, .blk [ai (s.pounds), ai (s.tl), ai (s.th), ai (s.al), ai (s.ah), ai (s.room), ai (s.tpl), ai (s.tph), ai (s.apl), ai (s.aph), .q 0] 28)], [], []⟩) (fun i => i ≤ add.length) (fun i => add.length - i) (0) id ?_ (LeR.of ⟨rfl, rfl, rfl, rfl, rfl, trivial⟩ ⟨(lx rfl), (lx rfl), trivial⟩ ⟨rfl, trivial⟩ rfl rfl rfl rfl rfl) ?_
  · first | trivial | omega | (constructor <;> omega) | simp
  intro i hφ
  try simp only [] at hφ
  refine WP.seq (WP.seq (WP.region ?_))
  refine WPl.v rfl (o_move rfl) ?_
  refine WPl.v rfl (o_move rfl) ?_
  refine WPl.v rfl (o_lenq L32 rfl (lx rfl)) ?_
  refine WPl.v rfl (o_lss rfl rfl) ?_
  refine WPl.nil (EX.then ?_)
  refine WP.cond rfl (fun hc1 => ?_) (fun hc1 => ?_)
  · try simp only [cnd] at hc1
    refine WP.skip (EX.then (WP.seq (WP.block ?_)))
    refine WP.draw (nf := 5) [⟨[14, 15, 16, 17, 18, 19, 20, 21, 22, 23, 24], [3, 4], [], [], []⟩, ⟨[13, 15, 18, 19, 20, 21, 22, 23], [4], [], [], []⟩, ⟨[13, 14, 18, 19, 20, 21, 22, 23], [4], [], [], []⟩, ⟨[13, 18, 19, 20, 21, 22, 23], [4], [3], [3], [1, 2]⟩, ⟨[13, 18, 19, 20, 21, 22, 23], [4], [], [], [1, 2, 3]⟩, ⟨[13, 14, 15, 16, 17, 20], [3], [], [], []⟩, ⟨[13, 14, 15, 16, 17, 20], [3], [], [], [5]⟩, ⟨[13, 14, 15, 16, 17, 18, 19], [3], [], [], []⟩, ⟨[13, 14, 15, 16, 17], [3], [4], [4], [5, 6, 7]⟩, ⟨[13, 14, 15, 16, 17], [3], [], [], [5, 6, 7, 8]⟩, ⟨[13, 14, 15, 16, 17], [3], [], [], [5, 6, 7, 8, 9]⟩, ⟨[13], [], [], [], [1, 2, 3, 4, 5, 6, 7, 8, 9, 10]⟩, ⟨[], [], [], [], [0, 1, 2, 3, 4, 5, 6, 7, 8, 9, 10, 11]⟩, ⟨[], [], [], [], [0, 1, 2, 3, 4, 5, 6, 7, 8, 9, 10, 11, 12]⟩] (by kernel_rfl) (by kernel_rfl) ?_
    refine DRQ.v rfl rfl rfl (o_move rfl) ?_
    refine DRQ.v rfl rfl rfl (o_move rfl) ?_
    refine DRQ.v rfl rfl rfl (o_move rfl) ?_
    refine DRQ.x 3 rfl rfl rfl rfl (o_idx L32 rfl (lx rfl) rfl (by first | omega | (simp; omega)) (by first | omega | (simp; omega))) ?_
    refine DRQ.v rfl rfl rfl (o_ldq S3 rfl (lx rfl) intc) ?_
    refine DRQ.v rfl rfl rfl (o_fldp F28_4 rfl) ?_
    refine DRQ.v rfl rfl rfl (o_ldp S26 rfl rfl rfl) ?_
    refine DRQ.v rfl rfl rfl (o_move rfl) ?_
    refine DRQ.x 4 rfl rfl rfl rfl (o_idx L26 rfl (lx rfl) rfl (by first | omega | (simp; omega)) (by first | omega | (simp; omega))) ?_
    refine DRQ.v rfl rfl rfl (o_fldq F53_3 rfl (lx rfl)) ?_
    refine DRQ.v rfl rfl rfl (o_lde S3 rfl (lx rfl) (strI rfl)) ?_
    have h1 := ha i (by omega)
    have h2 := hf i (by omega)
    have h3 := mulb h1.1 h1.2 h2.1 h2.2
    have h4 := hsum i (by omega)
    refine DRQ.v rfl rfl rfl (o_mul rfl rfl (by first | omega | (simp; omega)) (by first | omega | (simp; omega))) ?_
    refine DRQ.v rfl rfl rfl (o_add rfl rfl (by first | omega | (simp; omega)) (by first | omega | (simp; omega))) ?_
    refine DRQ.v rfl rfl rfl (o_assign rfl) ?_
    refine DRQ.nil' ?_
    refine EX.blk (EX.then (WP.region ?_))
    refine WPl.v rfl (o_move rfl) ?_
    refine WPl.v rfl (o_add rfl rfl (by first | omega | (simp; omega)) (by first | omega | (simp; omega))) ?_
    refine WPl.v rfl (o_assign rfl) ?_
    refine WPl.nil ?_
    refine EX.again (i + 1) id (by first | omega | (constructor <;> omega)) (by omega) (LeR.of ⟨rfl, rfl, rfl, rfl, rfl, trivial⟩ ⟨(lx rfl), (lx rfl), trivial⟩ ⟨rfl, trivial⟩ rfl rfl rfl rfl rfl)
  · try simp only [cnd] at hc1
    refine WP.exit (EX.exit_then (EX.exit_then (EX.exit_blk (EX.then (WP.seq (WP.region ?_))))))
    refine WPl.v rfl (o_move rfl) ?_
    refine WPl.v rfl (o_assign rfl) ?_
    refine WPl.nil (EX.then (WP.ret ?_))
    have hi : i = add.length := by omega
    subst hi
    exact EX.fin id (.inl rfl) rfl (.tmp rfl .nil) rfl (by simp [SV.res, El.res, At.res, keys]) trivial (by simp) (by simp)
theorem w5 {f : Fnd} : ∀ x ∈ ([.e (.g [ai (f.shop.pounds), ai (f.shop.tl), ai (f.shop.th), ai (f.shop.al), ai (f.shop.ah), ai (f.shop.room), ai (f.shop.tpl), ai (f.shop.tph), ai (f.shop.apl), ai (f.shop.aph), .q 0, .q 1])] : List SV), x.res (keys (α := Pred) [(0, PL EPig (f.shop.pigs)), (1, PL ENight (f.nights))]) := by simp [SV.res, El.res, At.res, keys]
theorem r5 {f : Fnd} : SV.res (keys (α := Pred) []) (.i (errW f.chk)) := by simp [SV.res, El.res, At.res, keys]
set_option maxHeartbeats 4000000 in
theorem c5 (f : Fnd)  : Sig Try.prog 5 [.e (.g [ai (f.shop.pounds), ai (f.shop.tl), ai (f.shop.th), ai (f.shop.al), ai (f.shop.ah), ai (f.shop.room), ai (f.shop.tpl), ai (f.shop.tph), ai (f.shop.apl), ai (f.shop.aph), .q 0, .q 1])] [(0, PL EPig (f.shop.pigs)), (1, PL ENight (f.nights))] (.i (errW f.chk)) [] := by
  refine Sig.intro Try.func5 rfl 2 [(0, .e (.g [ai (f.shop.pounds), ai (f.shop.tl), ai (f.shop.th), ai (f.shop.al), ai (f.shop.ah), ai (f.shop.room), ai (f.shop.tpl), ai (f.shop.tph), ai (f.shop.apl), ai (f.shop.aph), .q 0, .q 1]))] rfl w5 rfl rfl fun I w => ?_
  refine WP.seq (WP.region ?_)
  refine WPl.l 2 3 rfl rfl rfl (o_boxg rfl) ?_
  refine WPl.v rfl (o_assign rfl) ?_
  refine WPl.nil (EX.then (WP.seq (WP.seq (WP.region ?_))))
  refine WPl.v rfl (o_fldp F31_0 rfl) ?_
  refine WPl.v rfl (o_ldpg G28 rfl rfl rfl) ?_
  refine WPl.cs 3 rfl rfl rfl rfl (o_sig 3 (ren [(0, 0)]) (c11 f.shop) e11 rfl rfl rfl w11 ⟨(lx rfl), trivial⟩ r11) ?_
  refine WPl.v rfl (o_neq rfl rfl) ?_
  refine WPl.v rfl (o_move rfl) ?_
  refine WPl.bit 3 4 (!(decide ((errM f.shop.chk) ≠ 0))) rfl rfl ?_
  refine WPl.gv 3 rfl rfl (.plain rfl (by simp) rfl) (fun hb => o_fldp F31_1 rfl) ?_
  refine WPl.gv 3 rfl rfl (.plain rfl (by simp) rfl) (fun hb => o_ldp S29 rfl rfl rfl) ?_
  refine WPl.gv 3 rfl rfl (.plain rfl (by simp) rfl) (fun hb => o_lenq L29 rfl (lx rfl)) ?_
  refine WPl.gv 3 rfl rfl (.plain rfl (by simp) rfl) (fun hb => o_gtr rfl rfl) ?_
  refine WPl.v rfl (o_or rfl rfl rfl (by first | (simp; done) | simp_all)) ?_
  refine WPl.nil (EX.then ?_)
  refine WP.cond rfl (fun hc1 => ?_) (fun hc1 => ?_)
  · try simp only [cnd] at hc1
    refine WP.seq (WP.region ?_)
    refine WPl.v rfl (o_assign rfl) ?_
    refine WPl.nil (EX.then (WP.ret (EX.ret_then ?_)))
    rw [show errW f.chk = 130 from by simp [errM_eq] at hc1; simp only [errW, Fnd.chk]; rcases hc1 with h | h; simp [h]; simp [show ¬ ((f.nights.length : Int) ≤ 4) by omega]]
    exact EX.fin id (.inl rfl) rfl (.tmp rfl .nil) rfl (by simp [SV.res, El.res, At.res, keys]) trivial (by simp) (by simp)
  · try simp only [cnd] at hc1
    refine WP.skip (EX.then (WP.seq (WP.region ?_)))
    refine WPl.v rfl (o_assign rfl) ?_
    refine WPl.nil (EX.then (WP.seq (WP.seq (WP.region ?_))))
    refine WPl.v rfl (o_assign rfl) ?_
    refine WPl.nil (EX.then (WP.block ?_))
    refine WP.loop (Gh := Nat) (fun i => ⟨4, [(1, .e (.a (.p 2 (0)))), (2, .i (0)), (3, .i (hiTo f.nights i)), (4, .i ((i : Int)))], [(0, PL EPig (f.shop.pigs)), (1, PL ENight (f.nights))], [(2, .blk [ai (f.shop.pounds), ai (f.shop.tl), ai (f.shop.th), ai (f.shop.al), ai (f.shop.ah), ai (f.shop.room), ai (f.shop.tpl), ai (f.shop.tph), ai (f.shop.apl), ai (f.shop.aph), .q 0, .q 1] 31)], [], []⟩) (fun i => i ≤ f.nights.length ∧ allTo Night.chk f.nights i = true) (fun i => f.nights.length - i) (0) id ?_ (LeR.of ⟨rfl, rfl, rfl, rfl, trivial⟩ ⟨(lx rfl), (lx rfl), trivial⟩ ⟨rfl, trivial⟩ rfl rfl rfl rfl rfl) ?_
    · exact ⟨by omega, rfl⟩
    intro i hφ
    obtain ⟨hi, hall⟩ := hφ; have hb := hiTo_bnd hall; have hok : f.shop.chk = true ∧ (f.nights.length : Int) ≤ 4 := by (simp [errM_eq] at hc1); exact hc1
    refine WP.seq (WP.seq (WP.region ?_))
    refine WPl.v rfl (o_move rfl) ?_
    refine WPl.v rfl (o_fldp F31_1 rfl) ?_
    refine WPl.v rfl (o_ldp S29 rfl rfl rfl) ?_
    refine WPl.v rfl (o_lenq L29 rfl (lx rfl)) ?_
    refine WPl.v rfl (o_lss rfl rfl) ?_
    refine WPl.nil (EX.then ?_)
    refine WP.cond rfl (fun hc2 => ?_) (fun hc2 => ?_)
    · try simp only [cnd] at hc2
      refine WP.skip (EX.then (WP.seq (WP.block (WP.seq (WP.seq (WP.region ?_))))))
      refine WPl.v rfl (o_fldp F31_1 rfl) ?_
      refine WPl.v rfl (o_ldp S29 rfl rfl rfl) ?_
      refine WPl.v rfl (o_move rfl) ?_
      refine WPl.x 4 5 rfl rfl rfl (o_idx L29 rfl (lx rfl) rfl (by first | omega | (simp; omega)) (by first | omega | (simp; omega))) ?_
      refine WPl.v rfl (o_fldq F43_0 rfl (lx rfl)) ?_
      refine WPl.v rfl (o_ldeg G23 rfl (lx rfl) (strG rfl) rfl rfl) ?_
      refine WPl.cs 5 rfl rfl rfl rfl (o_sig 5 id (c20 ((nth f.nights (i : Int)).lo) ((nth f.nights (i : Int)).hi) 9) e20 rfl rfl rfl w20 trivial r20) ?_
      refine WPl.v rfl (o_not rfl) ?_
      refine WPl.v rfl (o_move rfl) ?_
      refine WPl.bit 5 6 (!(!(isSpan ((nth f.nights (i : Int)).lo) ((nth f.nights (i : Int)).hi) 9))) rfl rfl ?_
      refine WPl.gv 5 rfl rfl (.plain rfl (by simp) rfl) (fun hb => o_fldp F31_1 rfl) ?_
      refine WPl.gv 5 rfl rfl (.plain rfl (by simp) rfl) (fun hb => o_ldp S29 rfl rfl rfl) ?_
      refine WPl.gv 5 rfl rfl (.plain rfl (by simp) rfl) (fun hb => o_move rfl) ?_
      refine WPl.gx 5 6 7 rfl rfl rfl rfl (.plain rfl (by simp) rfl) (fun hb => o_idx L29 rfl (lx rfl) rfl (by first | omega | (simp; omega)) (by first | omega | (simp; omega))) ?_
      refine WPl.gv 5 rfl rfl (.plain rfl (by simp) rfl) (fun hb => o_fldq F43_1 rfl (lxi hb rfl)) ?_
      refine WPl.gv 5 rfl rfl (.plain rfl (by simp) rfl) (fun hb => o_lde S3 rfl (lxi hb rfl) (strI rfl)) ?_
      refine WPl.gc0 5 rfl rfl (.plain rfl (by simp) rfl) (fun hb => o_sig 7 id (c21 ((nth f.nights (i : Int)).test) 0 1) e21 rfl rfl rfl w21 trivial r21) ?_
      refine WPl.gv 5 rfl rfl (.plain rfl (by simp) rfl) (fun hb => o_not rfl) ?_
      refine WPl.v rfl (o_or rfl rfl rfl (by first | (simp; done) | simp_all)) ?_
      refine WPl.nil (EX.then ?_)
      refine WP.cond rfl (fun hc3 => ?_) (fun hc3 => ?_)
      · try simp only [cnd] at hc3
        refine WP.seq (WP.region ?_)
        refine WPl.v rfl (o_assign rfl) ?_
        refine WPl.nil (EX.then (WP.ret (EX.ret_then (EX.ret_blk (EX.ret_then (EX.ret_then (EX.ret_blk (EX.ret_then ?_))))))))
        have hn : (nth f.nights i).chk = false := by simp [Night.chk]; (try simp at hc3); grind
        rw [show errW f.chk = 130 from by simp [errW, Fnd.chk, not_all (show i < f.nights.length by omega) hn]]
        exact EX.fin id (.inl rfl) rfl (.tmp rfl .nil) rfl (by simp [SV.res, El.res, At.res, keys]) trivial (by simp) (by simp)
      · try simp only [cnd] at hc3
        refine WP.skip (EX.then (WP.region ?_))
        refine WPl.v rfl (o_move rfl) ?_
        refine WPl.v rfl (o_fldp F31_1 rfl) ?_
        refine WPl.v rfl (o_ldp S29 rfl rfl rfl) ?_
        refine WPl.v rfl (o_move rfl) ?_
        refine WPl.x 7 8 rfl rfl rfl (o_idx L29 rfl (lx rfl) rfl (by first | omega | (simp; omega)) (by first | omega | (simp; omega))) ?_
        refine WPl.v rfl (o_fldq F43_0 rfl (lx rfl)) ?_
        refine WPl.v rfl (o_flde F23_1 rfl (lx rfl)) ?_
        refine WPl.v rfl (o_lde S3 rfl (lx rfl) (strI rfl)) ?_
        have hn : (nth f.nights i).chk = true := by simp [Night.chk]; simpa using hc3
        have hnb := Night.bnds hn
        refine WPl.v rfl (o_add rfl rfl (by first | omega | (simp; omega)) (by first | omega | (simp; omega))) ?_
        refine WPl.v rfl (o_assign rfl) ?_
        refine WPl.nil (EX.blk (EX.then (WP.region ?_)))
        refine WPl.v rfl (o_move rfl) ?_
        refine WPl.v rfl (o_add rfl rfl (by first | omega | (simp; omega)) (by first | omega | (simp; omega))) ?_
        refine WPl.v rfl (o_assign rfl) ?_
        refine WPl.nil ?_
        have hn : (nth f.nights i).chk = true := by simp [Night.chk]; simpa using hc3
        refine EX.again (i + 1) id (by exact ⟨by omega, by simp [allTo, hall, hn]⟩) (by omega) (LeR.of ⟨rfl, rfl, rfl, rfl, trivial⟩ ⟨(lx rfl), (lx rfl), trivial⟩ ⟨rfl, trivial⟩ rfl rfl rfl rfl rfl)
    · try simp only [cnd] at hc2
      refine WP.exit (EX.exit_then (EX.exit_then (EX.exit_blk (EX.then (WP.seq (WP.seq (WP.region ?_)))))))
      refine WPl.v rfl (o_move rfl) ?_
      refine WPl.v rfl (o_fldp F31_0 rfl) ?_
      refine WPl.v rfl (o_fldp F28_0 rfl) ?_
      refine WPl.v rfl (o_fldp F25_1 rfl) ?_
      refine WPl.v rfl (o_fldp F23_0 rfl) ?_
      refine WPl.v rfl (o_ldp S3 rfl rfl rfl) ?_
      refine WPl.v rfl (o_gtr rfl rfl) ?_
      refine WPl.nil (EX.then ?_)
      refine WP.cond rfl (fun hc4 => ?_) (fun hc4 => ?_)
      · try simp only [cnd] at hc4
        refine WP.seq (WP.region ?_)
        refine WPl.v rfl (o_assign rfl) ?_
        refine WPl.nil (EX.then (WP.ret (EX.ret_then ?_)))
        have hi2 : i = f.nights.length := by omega
        subst hi2
        rw [show errW f.chk = 130 from by simp only [errW, Fnd.chk]; simp [show ¬ (hiTo f.nights f.nights.length ≤ f.shop.tl) by omega]]
        exact EX.fin id (.inl rfl) rfl (.tmp rfl .nil) rfl (by simp [SV.res, El.res, At.res, keys]) trivial (by simp) (by simp)
      · try simp only [cnd] at hc4
        refine WP.skip (EX.then (WP.seq (WP.region ?_)))
        refine WPl.v rfl (o_assign rfl) ?_
        refine WPl.nil (EX.then (WP.ret ?_))
        have hi2 : i = f.nights.length := by omega
        subst hi2
        rw [allTo_len] at hall
        rw [show errW f.chk = 0 from by simp only [errW, Fnd.chk]; simp [hok, hall, show hiTo f.nights f.nights.length ≤ f.shop.tl by omega]]
        exact EX.fin id (.inl rfl) rfl (.tmp rfl .nil) rfl (by simp [SV.res, El.res, At.res, keys]) trivial (by simp) (by simp)
theorem w13 {s : Shop} {add : List Int} : ∀ x ∈ ([.e (.g [ai (s.pounds), ai (s.tl), ai (s.th), ai (s.al), ai (s.ah), ai (s.room), ai (s.tpl), ai (s.tph), ai (s.apl), ai (s.aph), .q 0]), .e (.a (.q 1))] : List SV), x.res (keys (α := Pred) [(0, PL EPig (s.pigs)), (1, PL EP.int (add))]) := by simp [SV.res, El.res, At.res, keys]
theorem r13 {s : Shop} {add : List Int} : SV.res (keys (α := Pred) []) (.b (isAdd s add)) := by simp [SV.res, El.res, At.res, keys]
set_option maxHeartbeats 4000000 in
theorem c13 (s : Shop) (add : List Int) (hs : PigsOK s.pigs) (hp : -100000 ≤ s.pounds ∧ s.pounds ≤ 100000) : Sig Try.prog 13 [.e (.g [ai (s.pounds), ai (s.tl), ai (s.th), ai (s.al), ai (s.ah), ai (s.room), ai (s.tpl), ai (s.tph), ai (s.apl), ai (s.aph), .q 0]), .e (.a (.q 1))] [(0, PL EPig (s.pigs)), (1, PL EP.int (add))] (.b (isAdd s add)) [] := by
  have hl2 := hs.2
  refine Sig.intro Try.func13 rfl 2 [(0, .e (.g [ai (s.pounds), ai (s.tl), ai (s.th), ai (s.al), ai (s.ah), ai (s.room), ai (s.tpl), ai (s.tph), ai (s.apl), ai (s.aph), .q 0])), (1, .e (.a (.q 1)))] rfl w13 rfl rfl fun I w => ?_
  refine WP.seq (WP.region ?_)
  refine WPl.l 2 3 rfl rfl rfl (o_boxg rfl) ?_
  refine WPl.v rfl (o_assign rfl) ?_
  refine WPl.nil (EX.then (WP.seq (WP.seq (WP.region ?_))))
  refine WPl.v rfl (o_move rfl) ?_
  refine WPl.v rfl (o_lenq L32 rfl (lx rfl)) ?_
  refine WPl.v rfl (o_fldp F28_4 rfl) ?_
  refine WPl.v rfl (o_ldp S26 rfl rfl rfl) ?_
  refine WPl.v rfl (o_lenq L26 rfl (lx rfl)) ?_
  refine WPl.v rfl (o_neq rfl rfl) ?_
  refine WPl.nil (EX.then ?_)
  refine WP.cond rfl (fun hc1 => ?_) (fun hc1 => ?_)
  · try simp only [cnd] at hc1
    refine WP.seq (WP.region ?_)
    refine WPl.v rfl (o_assign rfl) ?_
    refine WPl.nil (EX.then (WP.ret (EX.ret_then ?_)))
    rw [show isAdd s add = false from by simp [isAdd]; (try simp at hc1); grind]
    exact EX.fin id (.inl rfl) rfl (.tmp rfl .nil) rfl (by simp [SV.res, El.res, At.res, keys]) trivial (by simp) (by simp)
  · try simp only [cnd] at hc1
    refine WP.skip (EX.then (WP.seq (WP.seq (WP.region ?_))))
    refine WPl.v rfl (o_assign rfl) ?_
    refine WPl.nil (EX.then (WP.block ?_))
    refine WP.loop (Gh := Nat) (fun i => ⟨3, [(1, .e (.a (.q 1))), (2, .e (.a (.p 2 (0)))), (4, .b (false)), (5, .i ((i : Int)))], [(0, PL EPig (s.pigs)), (1, PL EP.int (add))], [(2, .blk [ai (s.pounds), ai (s.tl), ai (s.th), ai (s.al), ai (s.ah), ai (s.room), ai (s.tpl), ai (s.tph), ai (s.apl), ai (s.aph), .q 0] 28)], [], []⟩) (fun i => i ≤ add.length ∧ allI (fitsMany s.pigs add) i = true) (fun i => add.length - i) (0) id ?_ (LeR.of ⟨rfl, rfl, rfl, rfl, trivial⟩ ⟨(lx rfl), (lx rfl), trivial⟩ ⟨rfl, trivial⟩ rfl rfl rfl rfl rfl) ?_
    · exact ⟨by omega, rfl⟩
    intro i hφ
    obtain ⟨hi, hall⟩ := hφ; have hlen : (add.length : Int) = s.pigs.length := by simpa using hc1
    refine WP.seq (WP.seq (WP.region ?_))
    refine WPl.v rfl (o_move rfl) ?_
    refine WPl.v rfl (o_move rfl) ?_
    refine WPl.v rfl (o_lenq L32 rfl (lx rfl)) ?_
    refine WPl.v rfl (o_lss rfl rfl) ?_
    refine WPl.nil (EX.then ?_)
    refine WP.cond rfl (fun hc2 => ?_) (fun hc2 => ?_)
    · try simp only [cnd] at hc2
      refine WP.skip (EX.then (WP.seq (WP.block (WP.seq ?_))))
      refine WP.draw (nf := 5) [⟨[19, 22, 23, 24, 25, 26, 27], [4], [], [], []⟩, ⟨[18, 22, 23, 24, 25, 26, 27], [4], [], [], []⟩, ⟨[22, 23, 24, 25, 26, 27], [4], [3], [3], [0, 1]⟩, ⟨[22, 23, 24, 25, 26, 27], [4], [], [], [0, 1, 2]⟩, ⟨[18, 19, 20, 21, 24], [3], [], [], []⟩, ⟨[18, 19, 20, 21, 24], [3], [], [], [4]⟩, ⟨[18, 19, 20, 21, 22, 23], [3], [], [], []⟩, ⟨[18, 19, 20, 21], [3], [4], [4], [4, 5, 6]⟩, ⟨[18, 19, 20, 21], [3], [], [], [4, 5, 6, 7]⟩, ⟨[18, 19, 20, 21], [3], [], [], [4, 5, 6, 7, 8]⟩, ⟨[], [], [], [], [0, 1, 2, 3, 4, 5, 6, 7, 8, 9]⟩, ⟨[], [], [], [], [0, 1, 2, 3, 4, 5, 6, 7, 8, 9, 10]⟩] (by kernel_rfl) (by kernel_rfl) ?_
      refine DRQ.v rfl rfl rfl (o_move rfl) ?_
      refine DRQ.v rfl rfl rfl (o_move rfl) ?_
      refine DRQ.x 3 rfl rfl rfl rfl (o_idx L32 rfl (lx rfl) rfl (by first | omega | (simp; omega)) (by first | omega | (simp; omega))) ?_
      refine DRQ.v rfl rfl rfl (o_ldq S3 rfl (lx rfl) intc) ?_
      refine DRQ.v rfl rfl rfl (o_fldp F28_4 rfl) ?_
      refine DRQ.v rfl rfl rfl (o_ldp S26 rfl rfl rfl) ?_
      refine DRQ.v rfl rfl rfl (o_move rfl) ?_
      refine DRQ.x 4 rfl rfl rfl rfl (o_idx L26 rfl (lx rfl) rfl (by first | omega | (simp; omega)) (by first | omega | (simp; omega))) ?_
      refine DRQ.v rfl rfl rfl (o_fldq F53_4 rfl (lx rfl)) ?_
      refine DRQ.v rfl rfl rfl (o_lde S3 rfl (lx rfl) (strI rfl)) ?_
      refine DRQ.cs rfl rfl rfl rfl (o_sig 5 id (c6 (nth add (i : Int)) 0 ((nth s.pigs (i : Int)).many)) e6 rfl rfl rfl w6 trivial r6) ?_
      refine DRQ.v rfl rfl rfl (o_not rfl) ?_
      refine DRQ.nil' ?_
      refine EX.then ?_
      refine WP.cond rfl (fun hc3 => ?_) (fun hc3 => ?_)
      · try simp only [cnd] at hc3
        refine WP.seq (WP.region ?_)
        refine WPl.v rfl (o_assign rfl) ?_
        refine WPl.nil (EX.then (WP.ret (EX.ret_blk (EX.ret_then (EX.ret_then (EX.ret_blk (EX.ret_then ?_)))))))
        rw [show isAdd s add = false from by simp [isAdd, allI_false (show i < add.length by omega) (show fitsMany s.pigs add i = false by simpa [fitsMany] using hc3)]]
        exact EX.fin id (.inl rfl) rfl (.tmp rfl .nil) rfl (by simp [SV.res, El.res, At.res, keys]) trivial (by simp) (by simp)
      · try simp only [cnd] at hc3
        refine WP.skip (EX.blk (EX.then (WP.region ?_)))
        refine WPl.v rfl (o_move rfl) ?_
        refine WPl.v rfl (o_add rfl rfl (by first | omega | (simp; omega)) (by first | omega | (simp; omega))) ?_
        refine WPl.v rfl (o_assign rfl) ?_
        refine WPl.nil ?_
        refine EX.again (i + 1) id (by exact ⟨by omega, by simp [allI, hall, fitsMany]; simpa using hc3⟩) (by omega) (LeR.of ⟨rfl, rfl, rfl, rfl, trivial⟩ ⟨(lx rfl), (lx rfl), trivial⟩ ⟨rfl, trivial⟩ rfl rfl rfl rfl rfl)
    · try simp only [cnd] at hc2
      refine WP.exit (EX.exit_then (EX.exit_then (EX.exit_blk (EX.then (WP.seq ?_)))))
      refine WP.draw (nf := 3) [⟨[33, 34, 35, 37, 38], [], [], [], []⟩, ⟨[33, 34, 35, 37, 38], [], [], [], [0]⟩, ⟨[33, 34, 35, 37, 38], [], [], [], [0, 1]⟩, ⟨[30, 31, 32, 34, 37, 38], [], [], [], []⟩, ⟨[30, 31, 32, 33, 37, 38], [], [], [], []⟩, ⟨[30, 31, 32, 37, 38], [], [], [], [3, 4]⟩, ⟨[37, 38], [], [], [], [0, 1, 2, 3, 4, 5]⟩, ⟨[30, 31, 32, 33, 34, 35, 36], [], [], [], []⟩, ⟨[30, 31, 32, 33, 34, 35, 36], [], [], [], [7]⟩, ⟨[], [], [], [], [0, 1, 2, 3, 4, 5, 6, 7, 8]⟩, ⟨[], [], [], [], [0, 1, 2, 3, 4, 5, 6, 7, 8, 9]⟩] (by kernel_rfl) (by kernel_rfl) ?_
      refine DRQ.v rfl rfl rfl (o_fldp F28_0 rfl) ?_
      refine DRQ.v rfl rfl rfl (o_fldp F25_0 rfl) ?_
      refine DRQ.v rfl rfl rfl (o_ldp S3 rfl rfl rfl) ?_
      refine DRQ.v rfl rfl rfl (o_ldpa G28 rfl rfl rfl) ?_
      refine DRQ.v rfl rfl rfl (o_move rfl) ?_
      have hi : i = add.length := by omega
      subst hi
      have hbn := fits_bnd hs (by omega) hall
      have hsum := sumOf_bnd (f := Pig.pounds) hs (by omega) hbn (fun p h => by have := Pig.bnds h; omega)
      refine DRQ.cs rfl rfl rfl rfl (o_sig 3 (ren [(0, 0), (1, 1)]) (c29 s add hs hbn (by omega)) e29 rfl rfl rfl w29 ⟨(lx rfl), (lx rfl), trivial⟩ r29) ?_
      refine DRQ.v rfl rfl rfl (o_add rfl rfl (by first | omega | (simp; omega)) (by first | omega | (simp; omega))) ?_
      refine DRQ.v rfl rfl rfl (o_fldp F28_1 rfl) ?_
      refine DRQ.v rfl rfl rfl (o_ldp S3 rfl rfl rfl) ?_
      refine DRQ.v rfl rfl rfl (o_leq rfl rfl) ?_
      refine DRQ.v rfl rfl rfl (o_assign rfl) ?_
      refine DRQ.nil' ?_
      refine EX.then (WP.ret ?_)
      rw [show isAdd s add = decide (s.pounds + sumOf Pig.pounds s.pigs add ≤ s.room) from by simp [isAdd, hall, hlen]]
      exact EX.fin id (.inl rfl) rfl (.tmp rfl .nil) rfl (by simp [SV.res, El.res, At.res, keys]) trivial (by simp) (by simp)
theorem w24 {a b : List Int} : ∀ x ∈ ([.e (.a (.q 0)), .e (.a (.q 1))] : List SV), x.res (keys (α := Pred) [(0, PL EP.int (a)), (1, PL EP.int (b))]) := by simp [SV.res, El.res, At.res, keys]
theorem r24 {a b : List Int} : SV.res (keys (α := Pred) []) (.b (sameInts a b)) := by simp [SV.res, El.res, At.res, keys]
set_option maxHeartbeats 4000000 in
theorem c24 (a b : List Int) (hl : a.length ≤ 1000000) : Sig Try.prog 24 [.e (.a (.q 0)), .e (.a (.q 1))] [(0, PL EP.int (a)), (1, PL EP.int (b))] (.b (sameInts a b)) [] := by
  refine Sig.intro Try.func24 rfl 2 [(0, .e (.a (.q 0))), (1, .e (.a (.q 1)))] rfl w24 rfl rfl fun I w => ?_
  refine WP.seq (WP.region ?_)
  refine WPl.v rfl (o_assign rfl) ?_
  refine WPl.nil (EX.then (WP.seq (WP.seq (WP.region ?_))))
  refine WPl.v rfl (o_move rfl) ?_
  refine WPl.v rfl (o_lenq L32 rfl (lx rfl)) ?_
  refine WPl.v rfl (o_move rfl) ?_
  refine WPl.v rfl (o_lenq L32 rfl (lx rfl)) ?_
  refine WPl.v rfl (o_neq rfl rfl) ?_
  refine WPl.nil (EX.then ?_)
  refine WP.cond rfl (fun hc1 => ?_) (fun hc1 => ?_)
  · try simp only [cnd] at hc1
    refine WP.seq (WP.region ?_)
    refine WPl.v rfl (o_assign rfl) ?_
    refine WPl.nil (EX.then (WP.ret (EX.ret_then ?_)))
    rw [show sameInts a b = false from by simp [sameInts]; (try simp at hc1); grind]
    exact EX.fin id (.inl rfl) rfl (.tmp rfl .nil) rfl (by simp [SV.res, El.res, At.res, keys]) trivial (by simp) (by simp)
  · try simp only [cnd] at hc1
    refine WP.skip (EX.then (WP.seq (WP.seq (WP.region ?_))))
    refine WPl.v rfl (o_assign rfl) ?_
    refine WPl.nil (EX.then (WP.block ?_))
    refine WP.loop (Gh := Nat) (fun i => ⟨2, [(0, .e (.a (.q 0))), (1, .e (.a (.q 1))), (4, .b (false)), (5, .i ((i : Int)))], [(0, PL EP.int (a)), (1, PL EP.int (b))], [], [], []⟩) (fun i => i ≤ a.length ∧ allI (sameAt a b) i = true) (fun i => a.length - i) (0) id ?_ (LeR.of ⟨rfl, rfl, rfl, rfl, trivial⟩ ⟨(lx rfl), (lx rfl), trivial⟩ trivial rfl rfl rfl rfl rfl) ?_
    · exact ⟨by omega, rfl⟩
    intro i hφ
    obtain ⟨hi, hall⟩ := hφ; have hlen : (a.length : Int) = b.length := by simpa using hc1
    refine WP.seq (WP.seq (WP.region ?_))
    refine WPl.v rfl (o_move rfl) ?_
    refine WPl.v rfl (o_move rfl) ?_
    refine WPl.v rfl (o_lenq L32 rfl (lx rfl)) ?_
    refine WPl.v rfl (o_lss rfl rfl) ?_
    refine WPl.nil (EX.then ?_)
    refine WP.cond rfl (fun hc2 => ?_) (fun hc2 => ?_)
    · try simp only [cnd] at hc2
      refine WP.skip (EX.then (WP.seq (WP.block (WP.seq ?_))))
      refine WP.draw (nf := 4) [⟨[18, 21, 22, 23, 24], [3], [], [], []⟩, ⟨[17, 21, 22, 23, 24], [3], [], [], []⟩, ⟨[21, 22, 23, 24], [3], [2], [2], [0, 1]⟩, ⟨[21, 22, 23, 24], [3], [], [], [0, 1, 2]⟩, ⟨[17, 18, 19, 20, 22], [2], [], [], []⟩, ⟨[17, 18, 19, 20, 21], [2], [], [], []⟩, ⟨[17, 18, 19, 20], [2], [3], [3], [4, 5]⟩, ⟨[17, 18, 19, 20], [2], [], [], [4, 5, 6]⟩, ⟨[], [], [], [], [0, 1, 2, 3, 4, 5, 6, 7]⟩] (by kernel_rfl) (by kernel_rfl) ?_
      refine DRQ.v rfl rfl rfl (o_move rfl) ?_
      refine DRQ.v rfl rfl rfl (o_move rfl) ?_
      refine DRQ.x 2 rfl rfl rfl rfl (o_idx L32 rfl (lx rfl) rfl (by first | omega | (simp; omega)) (by first | omega | (simp; omega))) ?_
      refine DRQ.v rfl rfl rfl (o_ldq S3 rfl (lx rfl) intc) ?_
      refine DRQ.v rfl rfl rfl (o_move rfl) ?_
      refine DRQ.v rfl rfl rfl (o_move rfl) ?_
      refine DRQ.x 3 rfl rfl rfl rfl (o_idx L32 rfl (lx rfl) rfl (by first | omega | (simp; omega)) (by first | omega | (simp; omega))) ?_
      refine DRQ.v rfl rfl rfl (o_ldq S3 rfl (lx rfl) intc) ?_
      refine DRQ.v rfl rfl rfl (o_neq rfl rfl) ?_
      refine DRQ.nil' ?_
      refine EX.then ?_
      refine WP.cond rfl (fun hc3 => ?_) (fun hc3 => ?_)
      · try simp only [cnd] at hc3
        refine WP.seq (WP.region ?_)
        refine WPl.v rfl (o_assign rfl) ?_
        refine WPl.nil (EX.then (WP.ret (EX.ret_blk (EX.ret_then (EX.ret_then (EX.ret_blk (EX.ret_then ?_)))))))
        rw [show sameInts a b = false from by simp [sameInts, allI_false (show i < a.length by omega) (show sameAt a b i = false by simpa [sameAt] using hc3)]]
        exact EX.fin id (.inl rfl) rfl (.tmp rfl .nil) rfl (by simp [SV.res, El.res, At.res, keys]) trivial (by simp) (by simp)
      · try simp only [cnd] at hc3
        refine WP.skip (EX.blk (EX.then (WP.region ?_)))
        refine WPl.v rfl (o_move rfl) ?_
        refine WPl.v rfl (o_add rfl rfl (by first | omega | (simp; omega)) (by first | omega | (simp; omega))) ?_
        refine WPl.v rfl (o_assign rfl) ?_
        refine WPl.nil ?_
        refine EX.again (i + 1) id (by exact ⟨by omega, by simp [allI, hall, sameAt]; simpa using hc3⟩) (by omega) (LeR.of ⟨rfl, rfl, rfl, rfl, trivial⟩ ⟨(lx rfl), (lx rfl), trivial⟩ trivial rfl rfl rfl rfl rfl)
    · try simp only [cnd] at hc2
      refine WP.exit (EX.exit_then (EX.exit_then (EX.exit_blk (EX.then (WP.seq (WP.region ?_))))))
      refine WPl.v rfl (o_assign rfl) ?_
      refine WPl.nil (EX.then (WP.ret ?_))
      have hi2 : i = a.length := by omega
      subst hi2
      rw [show sameInts a b = true from by simp [sameInts, hall, hlen]]
      exact EX.fin id (.inl rfl) rfl (.tmp rfl .nil) rfl (by simp [SV.res, El.res, At.res, keys]) trivial (by simp) (by simp)
theorem w10 {s : Shop} : ∀ x ∈ ([.e (.g [ai (s.pounds), ai (s.tl), ai (s.th), ai (s.al), ai (s.ah), ai (s.room), ai (s.tpl), ai (s.tph), ai (s.apl), ai (s.aph), .q 0])] : List SV), x.res (keys (α := Pred) [(0, PL EPig (s.pigs))]) := by simp [SV.res, El.res, At.res, keys]
theorem r10 {s : Shop} : SV.res (keys (α := Pred) [(0, PL EPig (s.pigs))]) (.e (.g [ai (s.pounds), ai (s.tl), ai (s.th), ai (s.al), ai (s.ah), ai (s.room), ai (s.tpl), ai (s.tph), ai (s.apl), ai (s.aph), .q 0])) := by simp [SV.res, El.res, At.res, keys]
set_option maxHeartbeats 4000000 in
theorem c10 (s : Shop) (hl : s.pigs.length ≤ 40) : Sig Try.prog 10 [.e (.g [ai (s.pounds), ai (s.tl), ai (s.th), ai (s.al), ai (s.ah), ai (s.room), ai (s.tpl), ai (s.tph), ai (s.apl), ai (s.aph), .q 0])] [(0, PL EPig (s.pigs))] (.e (.g [ai (s.pounds), ai (s.tl), ai (s.th), ai (s.al), ai (s.ah), ai (s.room), ai (s.tpl), ai (s.tph), ai (s.apl), ai (s.aph), .q 0])) [(0, PL EPig (s.pigs))] := by
  refine Sig.intro Try.func10 rfl 1 [(0, .e (.g [ai (s.pounds), ai (s.tl), ai (s.th), ai (s.al), ai (s.ah), ai (s.room), ai (s.tpl), ai (s.tph), ai (s.apl), ai (s.aph), .q 0]))] rfl w10 rfl rfl fun I w => ?_
  refine WP.seq (WP.region ?_)
  refine WPl.l 1 2 rfl rfl rfl (o_boxg rfl) ?_
  refine WPl.l 2 3 rfl rfl rfl (o_alloc Z28) ?_
  refine WPl.nil (EX.then (WP.seq (WP.region ?_)))
  refine WPl.v rfl (o_ldpa G28 rfl rfl rfl) ?_
  refine WPl.l 3 4 rfl rfl rfl (o_alloc Z28) ?_
  refine WPl.s1 (o_stag G28 rfl rfl rfl ⟨rfl, rfl, rfl, rfl, rfl, rfl, rfl, rfl, rfl, rfl, (.inl ⟨_, (lx rfl), PL.one⟩), trivial⟩ rfl rfl) ?_
  refine WPl.nil (EX.then (WP.seq (WP.region ?_)))
  refine WPl.l 4 5 rfl rfl rfl (o_bsl (E := EPig) (l := []) R26 rfl rfl (.nil) rfl rfl) ?_
  refine WPl.v rfl (o_fldp F28_4 rfl) ?_
  refine WPl.v rfl (o_ldp S26 rfl rfl rfl) ?_
  refine WPl.u1 (k := 5) (m := 6) rfl rfl rfl (o_apps R26 EP.str_one rfl rfl rfl (lx rfl) (by simp; omega) (by simp; omega)) ?_
  refine WPl.v rfl (o_fldp F28_4 rfl) ?_
  refine WPl.s1 (o_sta S26 rfl rfl rfl (.inr ⟨_, _, _, _, rfl⟩) rfl) ?_
  refine WPl.nil (EX.then (WP.seq (WP.region ?_)))
  refine WPl.v rfl (o_ldpa G28 rfl rfl rfl) ?_
  refine WPl.s1 (o_stag G28 rfl rfl rfl ⟨rfl, rfl, rfl, rfl, rfl, rfl, rfl, rfl, rfl, rfl, (.inr ⟨_, _, _, _, rfl⟩), trivial⟩ rfl rfl) ?_
  refine WPl.nil (EX.then (WP.ret ?_))
  refine EX.imp (Imp.frz (E := EPig) (l := [] ++ s.pigs) 5 rfl rfl) ?_
  exact EX.fin (ren [(0, 5)]) (.inl rfl) rfl (.cellg G28 rfl rfl rfl (.nil)) rfl r10 ⟨(lx rfl), trivial⟩ (by simp) (by simp)
theorem w8 {f : Fnd} : ∀ x ∈ ([.e (.g [ai (f.shop.pounds), ai (f.shop.tl), ai (f.shop.th), ai (f.shop.al), ai (f.shop.ah), ai (f.shop.room), ai (f.shop.tpl), ai (f.shop.tph), ai (f.shop.apl), ai (f.shop.aph), .q 0, .q 1])] : List SV), x.res (keys (α := Pred) [(0, PL EPig (f.shop.pigs)), (1, PL ENight (f.nights))]) := by simp [SV.res, El.res, At.res, keys]
theorem r8 {f : Fnd} : SV.res (keys (α := Pred) [(0, PL EPig (f.shop.pigs)), (1, PL ENight (f.nights))]) (.e (.g [ai (f.shop.pounds), ai (f.shop.tl), ai (f.shop.th), ai (f.shop.al), ai (f.shop.ah), ai (f.shop.room), ai (f.shop.tpl), ai (f.shop.tph), ai (f.shop.apl), ai (f.shop.aph), .q 0, .q 1])) := by simp [SV.res, El.res, At.res, keys]
set_option maxHeartbeats 4000000 in
theorem c8 (f : Fnd) (hl : f.shop.pigs.length ≤ 40) (hn : f.nights.length ≤ 40) : Sig Try.prog 8 [.e (.g [ai (f.shop.pounds), ai (f.shop.tl), ai (f.shop.th), ai (f.shop.al), ai (f.shop.ah), ai (f.shop.room), ai (f.shop.tpl), ai (f.shop.tph), ai (f.shop.apl), ai (f.shop.aph), .q 0, .q 1])] [(0, PL EPig (f.shop.pigs)), (1, PL ENight (f.nights))] (.e (.g [ai (f.shop.pounds), ai (f.shop.tl), ai (f.shop.th), ai (f.shop.al), ai (f.shop.ah), ai (f.shop.room), ai (f.shop.tpl), ai (f.shop.tph), ai (f.shop.apl), ai (f.shop.aph), .q 0, .q 1])) [(0, PL EPig (f.shop.pigs)), (1, PL ENight (f.nights))] := by
  refine Sig.intro Try.func8 rfl 2 [(0, .e (.g [ai (f.shop.pounds), ai (f.shop.tl), ai (f.shop.th), ai (f.shop.al), ai (f.shop.ah), ai (f.shop.room), ai (f.shop.tpl), ai (f.shop.tph), ai (f.shop.apl), ai (f.shop.aph), .q 0, .q 1]))] rfl w8 rfl rfl fun I w => ?_
  refine WP.seq (WP.region ?_)
  refine WPl.l 2 3 rfl rfl rfl (o_boxg rfl) ?_
  refine WPl.l 3 4 rfl rfl rfl (o_alloc Z31) ?_
  refine WPl.nil (EX.then (WP.seq ?_))
  refine WP.draw (nf := 7) [⟨[6, 7, 8], [5], [], [], []⟩, ⟨[6, 7, 8], [5], [], [], [0]⟩, ⟨[6, 7, 8], [5], [4], [4], [0, 1]⟩, ⟨[3, 4, 5, 7, 8], [4], [5], [5], []⟩, ⟨[3, 4, 5, 6], [4, 5], [], [], []⟩, ⟨[3, 4, 5, 6], [4, 5], [], [], [4]⟩, ⟨[], [], [6], [6, 5], [0, 1, 2, 3, 4, 5]⟩, ⟨[], [], [], [], [0, 1, 2, 3, 4, 5, 6]⟩, ⟨[], [], [], [3], [0, 1, 2, 3, 4, 5, 6, 7]⟩] (by kernel_rfl) (by kernel_rfl) ?_
  refine DRQ.v rfl rfl rfl (o_fldp F31_0 rfl) ?_
  refine DRQ.v rfl rfl rfl (o_ldpg G28 rfl rfl rfl) ?_
  refine DRQ.cs rfl rfl rfl rfl (o_sig 4 (ren [(0, 0)]) (c10 f.shop (by omega)) e10 rfl rfl rfl w10 ⟨(lx rfl), trivial⟩ r10) ?_
  refine DRQ.l 5 rfl rfl rfl rfl (o_bsl (E := ENight) (l := []) R29 rfl rfl (.nil) rfl rfl) ?_
  refine DRQ.v rfl rfl rfl (o_fldp F31_1 rfl) ?_
  refine DRQ.v rfl rfl rfl (o_ldp S29 rfl rfl rfl) ?_
  refine DRQ.l2 6 5 rfl rfl rfl rfl (o_apps R29 EP.str_one rfl rfl rfl (lx rfl) (by simp; omega) (by simp; omega)) ?_
  refine DRQ.v rfl rfl rfl (o_build B31 rfl ⟨(.inr ⟨_, _, _, _, rfl⟩), trivial⟩ rfl rfl) ?_
  refine DRQ.s 3 rfl rfl rfl (o_stag G31 rfl rfl rfl ⟨rfl, rfl, rfl, rfl, rfl, rfl, rfl, rfl, rfl, rfl, (.inl ⟨_, (lx rfl), PL.one⟩), (.inr ⟨_, _, _, _, rfl⟩), trivial⟩ rfl rfl) ?_
  refine DRQ.nil' ?_
  refine EX.then (WP.ret ?_)
  refine EX.imp (Imp.frz (E := ENight) (l := [] ++ f.nights) 6 rfl rfl) ?_
  exact EX.fin (ren [(0, 4), (1, 6)]) (.inl rfl) rfl (.cellg G31 rfl rfl rfl (.nil)) rfl r8 ⟨(lx rfl), (lx rfl), trivial⟩ (by simp) (by simp)
end Go.Flong
namespace Go.Flong
open Go Go.Eng Go.Proofs
theorem L45 : IsSl Try.prog 45 32 1 := ⟨Try.underlying45, Try.sizeOf32⟩
theorem S32 : TyS Try.prog 32 := ⟨Try.isAgg32, Try.sizeOf32⟩
theorem e42 : Enters' Try.prog 42 := Try.call42
theorem w17 {f : Fnd} {p : List (List Int)} : ∀ x ∈ ([.e (.g [ai (f.shop.pounds), ai (f.shop.tl), ai (f.shop.th), ai (f.shop.al), ai (f.shop.ah), ai (f.shop.room), ai (f.shop.tpl), ai (f.shop.tph), ai (f.shop.apl), ai (f.shop.aph), .q 0, .q 1]), .e (.a (.q 2))] : List SV), x.res (keys (α := Pred) [(0, PL EPig (f.shop.pigs)), (1, PL ENight (f.nights)), (2, PL (EP.sl EP.int) (p))]) := by simp [SV.res, El.res, At.res, keys]
theorem r17 {f : Fnd} {p : List (List Int)} : SV.res (keys (α := Pred) []) (.i (f.shop.cost p)) := by simp [SV.res, El.res, At.res, keys]
set_option maxHeartbeats 4000000 in
theorem c17 (f : Fnd) (p : List (List Int)) (hs : PigsOK f.shop.pigs) (hp : RowsB f.shop.pigs.length p) : Sig Try.prog 17 [.e (.g [ai (f.shop.pounds), ai (f.shop.tl), ai (f.shop.th), ai (f.shop.al), ai (f.shop.ah), ai (f.shop.room), ai (f.shop.tpl), ai (f.shop.tph), ai (f.shop.apl), ai (f.shop.aph), .q 0, .q 1]), .e (.a (.q 2))] [(0, PL EPig (f.shop.pigs)), (1, PL ENight (f.nights)), (2, PL (EP.sl EP.int) (p))] (.i (f.shop.cost p)) [] := by
  have hp1 := hp.1
  have hc := costTo_bnd hs hp
  refine Sig.intro Try.func17 rfl 3 [(0, .e (.g [ai (f.shop.pounds), ai (f.shop.tl), ai (f.shop.th), ai (f.shop.al), ai (f.shop.ah), ai (f.shop.room), ai (f.shop.tpl), ai (f.shop.tph), ai (f.shop.apl), ai (f.shop.aph), .q 0, .q 1])), (1, .e (.a (.q 2)))] rfl w17 rfl rfl fun I w => ?_
  refine WP.seq (WP.region ?_)
  refine WPl.l 3 4 rfl rfl rfl (o_boxg rfl) ?_
  refine WPl.v rfl (o_assign rfl) ?_
  refine WPl.nil (EX.then (WP.seq (WP.region ?_)))
  refine WPl.v rfl (o_assign rfl) ?_
  refine WPl.nil (EX.then (WP.seq (WP.seq (WP.region ?_))))
  refine WPl.v rfl (o_assign rfl) ?_
  refine WPl.nil (EX.then (WP.block ?_))
  refine WP.loop (Gh := Nat) (fun i => ⟨4, [(1, .e (.a (.q 2))), (2, .e (.a (.p 3 (0)))), (4, .i (0)), (5, .i (f.shop.costTo p i)), (6, .i ((i : Int)))], [(0, PL EPig (f.shop.pigs)), (1, PL ENight (f.nights)), (2, PL (EP.sl EP.int) (p))], [(3, .blk [ai (f.shop.pounds), ai (f.shop.tl), ai (f.shop.th), ai (f.shop.al), ai (f.shop.ah), ai (f.shop.room), ai (f.shop.tpl), ai (f.shop.tph), ai (f.shop.apl), ai (f.shop.aph), .q 0, .q 1] 31)], [], []⟩) (fun i => i ≤ p.length) (fun i => p.length - i) (0) id ?_ (LeR.of ⟨rfl, rfl, rfl, rfl, rfl, trivial⟩ ⟨(lx rfl), (lx rfl), (lx rfl), trivial⟩ ⟨rfl, trivial⟩ rfl rfl rfl rfl rfl) ?_
  · first | trivial | omega | (constructor <;> omega) | simp
  intro i hφ
  have hi : i ≤ p.length := hφ
  refine WP.seq (WP.seq (WP.region ?_))
  refine WPl.v rfl (o_move rfl) ?_
  refine WPl.v rfl (o_move rfl) ?_
  refine WPl.v rfl (o_lenq L45 rfl (lx rfl)) ?_
  refine WPl.v rfl (o_lss rfl rfl) ?_
  refine WPl.nil (EX.then ?_)
  refine WP.cond rfl (fun hc1 => ?_) (fun hc1 => ?_)
  · try simp only [cnd] at hc1
    refine WP.skip (EX.then (WP.seq (WP.block ?_)))
    refine WP.draw (nf := 6) [⟨[14, 15, 16, 17, 18, 19, 20], [4, 5], [], [], []⟩, ⟨[13, 16, 17, 18, 19], [4, 5], [], [], []⟩, ⟨[13, 16, 17, 18, 19], [4, 5], [], [], [1]⟩, ⟨[13, 14, 15, 17], [], [], [], []⟩, ⟨[13, 14, 15, 16], [], [], [], []⟩, ⟨[13, 14, 15], [], [4], [4], [3, 4]⟩, ⟨[13, 14, 15], [], [5], [5], [3, 4, 5]⟩, ⟨[13], [], [], [], [1, 2, 3, 4, 5, 6]⟩, ⟨[], [], [], [], [0, 1, 2, 3, 4, 5, 6, 7]⟩, ⟨[], [], [], [], [0, 1, 2, 3, 4, 5, 6, 7, 8]⟩] (by kernel_rfl) (by kernel_rfl) ?_
    refine DRQ.v rfl rfl rfl (o_move rfl) ?_
    refine DRQ.v rfl rfl rfl (o_fldp F31_0 rfl) ?_
    refine DRQ.v rfl rfl rfl (o_ldpg G28 rfl rfl rfl) ?_
    refine DRQ.v rfl rfl rfl (o_move rfl) ?_
    refine DRQ.v rfl rfl rfl (o_move rfl) ?_
    refine DRQ.x 4 rfl rfl rfl rfl (o_idx L45 rfl (lx rfl) rfl (by first | omega | (simp; omega)) (by first | omega | (simp; omega))) ?_
    refine DRQ.x 5 rfl rfl rfl rfl (o_ldqx S32 rfl (lx rfl) slx) ?_
    have h1 := hc i (by omega)
    have h2 := hp.2 i (by omega)
    have h3 := sumOf_bnd (f := Pig.pence) hs (by rw [h2.1]; exact Nat.le_refl _) h2.2 (fun p h => by have := Pig.bnds h; omega)
    refine DRQ.cs rfl rfl rfl rfl (o_sig 6 (ren [(0, 0), (1, 5)]) (c42 f.shop (nth p (i : Int)) hs (hp.2 i (by omega)).2 (by rw [(hp.2 i (by omega)).1]; exact Nat.le_refl _)) e42 rfl rfl rfl w42 ⟨(lx rfl), (lx rfl), trivial⟩ r42) ?_
    refine DRQ.v rfl rfl rfl (o_add rfl rfl (by first | omega | (simp; omega)) (by first | omega | (simp; omega))) ?_
    refine DRQ.v rfl rfl rfl (o_assign rfl) ?_
    refine DRQ.nil' ?_
    refine EX.blk (EX.then (WP.region ?_))
    refine WPl.v rfl (o_move rfl) ?_
    refine WPl.v rfl (o_add rfl rfl (by first | omega | (simp; omega)) (by first | omega | (simp; omega))) ?_
    refine WPl.v rfl (o_assign rfl) ?_
    refine WPl.nil ?_
    refine EX.again (i + 1) id (by first | omega | (constructor <;> omega)) (by omega) (LeR.of ⟨rfl, rfl, rfl, rfl, rfl, trivial⟩ ⟨(lx rfl), (lx rfl), (lx rfl), trivial⟩ ⟨rfl, trivial⟩ rfl rfl rfl rfl rfl)
  · try simp only [cnd] at hc1
    refine WP.exit (EX.exit_then (EX.exit_then (EX.exit_blk (EX.then (WP.seq (WP.region ?_))))))
    refine WPl.v rfl (o_move rfl) ?_
    refine WPl.v rfl (o_assign rfl) ?_
    refine WPl.nil (EX.then (WP.ret ?_))
    have he : i = p.length := by omega
    subst he
    rw [show f.shop.cost p = f.shop.costTo p p.length from rfl]
    exact EX.fin id (.inl rfl) rfl (.tmp rfl .nil) rfl (by simp [SV.res, El.res, At.res, keys]) trivial (by simp) (by simp)
end Go.Flong
namespace Go.Flong
open Go Go.Eng Go.Proofs
theorem e8 : Enters' Try.prog 8 := Try.call8
theorem G43 : TyG Try.prog 43 3 := ⟨Try.isAgg43, Try.sizeOf43⟩
theorem Z43 : Zero Try.prog 43 [ai (0), ai (0), ai (0)] := .mk Try.zeroValue43 rfl rfl
theorem w10O {s : Shop} : ∀ x ∈ ([.e (.g [ai (s.pounds), ai (s.tl), ai (s.th), ai (s.al), ai (s.ah), ai (s.room), ai (s.tpl), ai (s.tph), ai (s.apl), ai (s.aph), .q 0])] : List SV), x.res (keys (α := Pred) [(0, PL EPig (s.pigs))]) := by simp [SV.res, El.res, At.res, keys]
theorem r10O {s : Shop} : SV.res (keys (α := Pred) [(0, Pred.top)]) (.e (.g [ai (s.pounds), ai (s.tl), ai (s.th), ai (s.al), ai (s.ah), ai (s.room), ai (s.tpl), ai (s.tph), ai (s.apl), ai (s.aph), .q 0])) := by simp [SV.res, El.res, At.res, keys]
set_option maxHeartbeats 4000000 in
theorem c10O (s : Shop) (hl : s.pigs.length ≤ 40) : SigO Try.prog 10 [.e (.g [ai (s.pounds), ai (s.tl), ai (s.th), ai (s.al), ai (s.ah), ai (s.room), ai (s.tpl), ai (s.tph), ai (s.apl), ai (s.aph), .q 0])] [(0, PL EPig (s.pigs))] (.e (.g [ai (s.pounds), ai (s.tl), ai (s.th), ai (s.al), ai (s.ah), ai (s.room), ai (s.tpl), ai (s.tph), ai (s.apl), ai (s.aph), .q 0])) [(0, Pred.top)] [(0, .own 53 EPig.size ([] ++ s.pigs).length (RP EPig ([] ++ s.pigs)))] := by
  refine SigO.intro Try.func10 rfl 1 [(0, .e (.g [ai (s.pounds), ai (s.tl), ai (s.th), ai (s.al), ai (s.ah), ai (s.room), ai (s.tpl), ai (s.tph), ai (s.apl), ai (s.aph), .q 0]))] rfl w10O rfl rfl fun I w => ?_
  refine WP.seq (WP.region ?_)
  refine WPl.l 1 2 rfl rfl rfl (o_boxg rfl) ?_
  refine WPl.l 2 3 rfl rfl rfl (o_alloc Z28) ?_
  refine WPl.nil (EX.then (WP.seq (WP.region ?_)))
  refine WPl.v rfl (o_ldpa G28 rfl rfl rfl) ?_
  refine WPl.l 3 4 rfl rfl rfl (o_alloc Z28) ?_
  refine WPl.s1 (o_stag G28 rfl rfl rfl ⟨rfl, rfl, rfl, rfl, rfl, rfl, rfl, rfl, rfl, rfl, (.inl ⟨_, (lx rfl), PL.one⟩), trivial⟩ rfl rfl) ?_
  refine WPl.nil (EX.then (WP.seq (WP.region ?_)))
  refine WPl.l 4 5 rfl rfl rfl (o_bsl (E := EPig) (l := []) R26 rfl rfl (.nil) rfl rfl) ?_
  refine WPl.v rfl (o_fldp F28_4 rfl) ?_
  refine WPl.v rfl (o_ldp S26 rfl rfl rfl) ?_
  refine WPl.u1 (k := 5) (m := 6) rfl rfl rfl (o_apps R26 EP.str_one rfl rfl rfl (lx rfl) (by first | omega | (simp; omega) | (simp at *; omega)) (by first | omega | (simp; omega) | (simp at *; omega))) ?_
  refine WPl.v rfl (o_fldp F28_4 rfl) ?_
  refine WPl.s1 (o_sta S26 rfl rfl rfl (.inr ⟨_, _, _, _, rfl⟩) rfl) ?_
  refine WPl.nil (EX.then (WP.seq (WP.region ?_)))
  refine WPl.v rfl (o_ldpa G28 rfl rfl rfl) ?_
  refine WPl.s1 (o_stag G28 rfl rfl rfl ⟨rfl, rfl, rfl, rfl, rfl, rfl, rfl, rfl, rfl, rfl, (.inr ⟨_, _, _, _, rfl⟩), trivial⟩ rfl rfl) ?_
  refine WPl.nil (EX.then (WP.ret ?_))
  refine EX.imp (Imp.topX 5 rfl) ?_
  exact EX.finO (ren [(0, 5)]) rfl (.inl rfl) rfl (.cellg G28 rfl rfl rfl (.nil)) rfl r10O ⟨lx rfl, trivial⟩ ⟨rfl, trivial⟩ rfl rfl (by simp) (by simp)
theorem w8O {f : Fnd} : ∀ x ∈ ([.e (.g [ai (f.shop.pounds), ai (f.shop.tl), ai (f.shop.th), ai (f.shop.al), ai (f.shop.ah), ai (f.shop.room), ai (f.shop.tpl), ai (f.shop.tph), ai (f.shop.apl), ai (f.shop.aph), .q 0, .q 1])] : List SV), x.res (keys (α := Pred) [(0, PL EPig (f.shop.pigs)), (1, PL ENight (f.nights))]) := by simp [SV.res, El.res, At.res, keys]
theorem r8O {f : Fnd} : SV.res (keys (α := Pred) [(0, Pred.top), (1, Pred.top)]) (.e (.g [ai (f.shop.pounds), ai (f.shop.tl), ai (f.shop.th), ai (f.shop.al), ai (f.shop.ah), ai (f.shop.room), ai (f.shop.tpl), ai (f.shop.tph), ai (f.shop.apl), ai (f.shop.aph), .q 0, .q 1])) := by simp [SV.res, El.res, At.res, keys]
set_option maxHeartbeats 4000000 in
theorem c8O (f : Fnd) (hl : f.shop.pigs.length ≤ 40) (hn : f.nights.length ≤ 40) : SigO Try.prog 8 [.e (.g [ai (f.shop.pounds), ai (f.shop.tl), ai (f.shop.th), ai (f.shop.al), ai (f.shop.ah), ai (f.shop.room), ai (f.shop.tpl), ai (f.shop.tph), ai (f.shop.apl), ai (f.shop.aph), .q 0, .q 1])] [(0, PL EPig (f.shop.pigs)), (1, PL ENight (f.nights))] (.e (.g [ai (f.shop.pounds), ai (f.shop.tl), ai (f.shop.th), ai (f.shop.al), ai (f.shop.ah), ai (f.shop.room), ai (f.shop.tpl), ai (f.shop.tph), ai (f.shop.apl), ai (f.shop.aph), .q 0, .q 1])) [(0, Pred.top), (1, Pred.top)] [(0, .own 53 EPig.size ([] ++ f.shop.pigs).length (RP EPig ([] ++ f.shop.pigs))), (1, .own 43 ENight.size ([] ++ f.nights).length (RP ENight ([] ++ f.nights)))] := by
  refine SigO.intro Try.func8 rfl 2 [(0, .e (.g [ai (f.shop.pounds), ai (f.shop.tl), ai (f.shop.th), ai (f.shop.al), ai (f.shop.ah), ai (f.shop.room), ai (f.shop.tpl), ai (f.shop.tph), ai (f.shop.apl), ai (f.shop.aph), .q 0, .q 1]))] rfl w8O rfl rfl fun I w => ?_
  refine WP.seq (WP.region ?_)
  refine WPl.l 2 3 rfl rfl rfl (o_boxg rfl) ?_
  refine WPl.l 3 4 rfl rfl rfl (o_alloc Z31) ?_
  refine WPl.nil (EX.then (WP.seq ?_))
  refine WP.draw (nf := 7) [⟨[6, 7, 8], [5], [], [], []⟩, ⟨[6, 7, 8], [5], [], [], [0]⟩, ⟨[6, 7, 8], [5], [4], [4, 4], [0, 1]⟩, ⟨[3, 4, 5, 7, 8], [4], [5], [5], []⟩, ⟨[3, 4, 5, 6], [4, 5], [], [], []⟩, ⟨[3, 4, 5, 6], [4, 5], [], [], [4]⟩, ⟨[], [], [6], [6, 5], [0, 1, 2, 3, 4, 5]⟩, ⟨[], [], [], [], [0, 1, 2, 3, 4, 5, 6]⟩, ⟨[], [], [], [3], [0, 1, 2, 3, 4, 5, 6, 7]⟩] (by kernel_rfl) (by kernel_rfl) ?_
  refine DRQ.v rfl rfl rfl (o_fldp F31_0 rfl) ?_
  refine DRQ.v rfl rfl rfl (o_ldpg G28 rfl rfl rfl) ?_
  refine DRQ.cL rfl rfl rfl rfl (o_sigo 4 (ren [(0, 0)]) (c10O f.shop (by omega)) e10 rfl rfl SvsOK.rf w10O ⟨(lx rfl), trivial⟩ r10O rfl rfl) ?_
  refine DRQ.l 5 rfl rfl rfl rfl (o_bsl (E := ENight) (l := []) R29 rfl rfl (.nil) rfl rfl) ?_
  refine DRQ.v rfl rfl rfl (o_fldp F31_1 rfl) ?_
  refine DRQ.v rfl rfl rfl (o_ldp S29 rfl rfl rfl) ?_
  refine DRQ.l2 6 5 rfl rfl rfl rfl (o_apps R29 EP.str_one rfl rfl rfl (lx rfl) (by first | omega | (simp; omega) | (simp at *; omega)) (by first | omega | (simp; omega) | (simp at *; omega))) ?_
  refine DRQ.v rfl rfl rfl (o_build B31 rfl ⟨(.inr ⟨_, _, _, _, rfl⟩), trivial⟩ rfl rfl) ?_
  refine DRQ.s 3 rfl rfl rfl (o_stag G31 rfl rfl rfl ⟨rfl, rfl, rfl, rfl, rfl, rfl, rfl, rfl, rfl, rfl, (.inr ⟨_, _, _, _, rfl⟩), (.inr ⟨_, _, _, _, rfl⟩), trivial⟩ rfl rfl) ?_
  refine DRQ.nil' ?_
  refine EX.then (WP.ret ?_)
  refine EX.imp (Imp.topX 6 rfl) ?_
  exact EX.finO (ren [(0, 4), (1, 6)]) rfl (.inl rfl) rfl (.cellg G31 rfl rfl rfl (.nil)) rfl r8O ⟨lx rfl, lx rfl, trivial⟩ ⟨rfl, rfl, trivial⟩ rfl rfl (by simp) (by simp)
theorem w46 {f : Fnd} {i : Int} : ∀ x ∈ ([.e (.g [ai (f.shop.pounds), ai (f.shop.tl), ai (f.shop.th), ai (f.shop.al), ai (f.shop.ah), ai (f.shop.room), ai (f.shop.tpl), ai (f.shop.tph), ai (f.shop.apl), ai (f.shop.aph), .q 0, .q 1]), .i (i)] : List SV), x.res (keys (α := Pred) [(0, PL EPig (f.shop.pigs)), (1, PL ENight (f.nights))]) := by simp [SV.res, El.res, At.res, keys]
theorem r46 {f : Fnd} {i : Int} : SV.res (keys (α := Pred) [(0, PL EPig ((f.tested i).shop.pigs)), (1, PL ENight ((f.tested i).nights))]) (.e (.g [ai ((f.tested i).shop.pounds), ai ((f.tested i).shop.tl), ai ((f.tested i).shop.th), ai ((f.tested i).shop.al), ai ((f.tested i).shop.ah), ai ((f.tested i).shop.room), ai ((f.tested i).shop.tpl), ai ((f.tested i).shop.tph), ai ((f.tested i).shop.apl), ai ((f.tested i).shop.aph), .q 0, .q 1])) := by simp [SV.res, El.res, At.res, keys]
set_option maxHeartbeats 4000000 in
theorem c46 (f : Fnd) (i : Int) (hf : f.chk = true) (hi : 0 ≤ i ∧ i < f.nights.length) : Sig Try.prog 46 [.e (.g [ai (f.shop.pounds), ai (f.shop.tl), ai (f.shop.th), ai (f.shop.al), ai (f.shop.ah), ai (f.shop.room), ai (f.shop.tpl), ai (f.shop.tph), ai (f.shop.apl), ai (f.shop.aph), .q 0, .q 1]), .i (i)] [(0, PL EPig (f.shop.pigs)), (1, PL ENight (f.nights))] (.e (.g [ai ((f.tested i).shop.pounds), ai ((f.tested i).shop.tl), ai ((f.tested i).shop.th), ai ((f.tested i).shop.al), ai ((f.tested i).shop.ah), ai ((f.tested i).shop.room), ai ((f.tested i).shop.tpl), ai ((f.tested i).shop.tph), ai ((f.tested i).shop.apl), ai ((f.tested i).shop.aph), .q 0, .q 1])) [(0, PL EPig ((f.tested i).shop.pigs)), (1, PL ENight ((f.tested i).nights))] := by
  have hcb := Fnd.chkB hf
  refine Sig.intro Try.func46 rfl 2 [(0, .e (.g [ai (f.shop.pounds), ai (f.shop.tl), ai (f.shop.th), ai (f.shop.al), ai (f.shop.ah), ai (f.shop.room), ai (f.shop.tpl), ai (f.shop.tph), ai (f.shop.apl), ai (f.shop.aph), .q 0, .q 1])), (1, .i (i))] rfl w46 rfl rfl fun I w => ?_
  refine WP.seq (WP.region ?_)
  refine WPl.l 2 3 rfl rfl rfl (o_boxg rfl) ?_
  refine WPl.l 3 4 rfl rfl rfl (o_alloc Z31) ?_
  refine WPl.nil (EX.then (WP.seq (WP.region ?_)))
  refine WPl.v rfl (o_ldpa G31 rfl rfl rfl) ?_
  refine WPl.cL 6 rfl rfl rfl rfl rfl (o_sigo 4 (ren [(0, 0), (1, 1)]) (c8O f (by omega) (by omega)) e8 rfl rfl SvsOK.rf w8O ⟨(lx rfl), (lx rfl), trivial⟩ r8O rfl rfl) ?_
  refine WPl.l 6 7 rfl rfl rfl (o_alloc Z31) ?_
  refine WPl.s1 (o_stag G31 rfl rfl rfl ⟨rfl, rfl, rfl, rfl, rfl, rfl, rfl, rfl, rfl, rfl, (.inr ⟨_, _, _, _, rfl⟩), (.inr ⟨_, _, _, _, rfl⟩), trivial⟩ rfl rfl) ?_
  refine WPl.nil (EX.then (WP.seq (WP.region ?_)))
  refine WPl.v rfl (o_fldp F31_1 rfl) ?_
  refine WPl.v rfl (o_ldp S29 rfl rfl rfl) ?_
  refine WPl.v rfl (o_move rfl) ?_
  refine WPl.v rfl (o_idxo L29 rfl rfl rfl (by first | omega | (simp; omega)) (by first | omega | (simp; omega))) ?_
  refine WPl.v rfl (o_ldoG G43 rfl rfl rfl rfl (by first | omega | (simp; omega)) (by first | omega | (simp; omega)) (strG rfl) rfl rfl) ?_
  refine WPl.l 7 8 rfl rfl rfl (o_alloc Z43) ?_
  refine WPl.s1 (o_stag G43 rfl rfl rfl ⟨rfl, rfl, rfl, trivial⟩ rfl rfl) ?_
  refine WPl.nil (EX.then (WP.seq (WP.region ?_)))
  refine WPl.v rfl (o_fldp F43_1 rfl) ?_
  refine WPl.s1 (o_sta S3 rfl rfl rfl rfl rfl) ?_
  refine WPl.nil (EX.then (WP.seq (WP.region ?_)))
  refine WPl.v rfl (o_fldp F31_1 rfl) ?_
  refine WPl.v rfl (o_ldp S29 rfl rfl rfl) ?_
  refine WPl.v rfl (o_move rfl) ?_
  refine WPl.v rfl (o_ldpa G43 rfl rfl rfl) ?_
  refine WPl.v rfl (o_idxo L29 rfl rfl rfl (by first | omega | (simp; omega)) (by first | omega | (simp; omega))) ?_
  refine WPl.s1 (o_steE2 (z := ({ nth f.nights i with test := 1 } : Night)) Try.sizeOf43 rfl rfl rfl ⟨rfl, rfl, rfl, trivial⟩ (eok_str ⟨rfl, rfl, rfl, trivial⟩) rfl rfl rfl (by first | omega | (simp; omega)) (by first | omega | (simp; omega))) ?_
  refine WPl.nil (EX.then (WP.seq (WP.region ?_)))
  refine WPl.v rfl (o_ldpa G31 rfl rfl rfl) ?_
  refine WPl.s1 (o_stag G31 rfl rfl rfl ⟨rfl, rfl, rfl, rfl, rfl, rfl, rfl, rfl, rfl, rfl, (.inr ⟨_, _, _, _, rfl⟩), (.inr ⟨_, _, _, _, rfl⟩), trivial⟩ rfl rfl) ?_
  refine WPl.nil (EX.then (WP.ret ?_))
  refine EX.imp (Imp.frz (E := EPig) (l := [] ++ f.shop.pigs) 4 rfl rfl) ?_
  refine EX.imp (Imp.frz (E := ENight) (l := lset ([] ++ f.nights) i ({ nth f.nights i with test := 1 } : Night)) 5 rfl rfl) ?_
  exact EX.fin (ren [(0, 4), (1, 5)]) (.inl rfl) rfl (.cellg G31 rfl rfl rfl (.nil)) rfl r46 ⟨(lx rfl), (lx rfl), trivial⟩ (by simp) (by simp)
end Go.Flong
