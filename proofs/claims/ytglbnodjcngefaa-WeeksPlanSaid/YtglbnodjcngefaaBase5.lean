/- The plain model of layer 13, part 5: the choices of a night. -/
import Derived.Test.YtglbnodjcngefaaBase4
set_option linter.unusedSimpArgs false
set_option linter.unusedVariables false
namespace Go.Flong
open Go Go.Eng
/-- All lists below a list, the least first. -/
def boxS : List Int → List (List Int)
  | [] => [[]]
  | b :: t => (List.range (b + 1).toNat).flatMap fun (n : Nat) => (boxS t).map fun x => (n : Int) :: x
/-- The next list. -/
def odoS : List Int → List Int → Option (List Int)
  | b :: t, x :: xs => match odoS t xs with
    | some ys => some (x :: ys)
    | none => if x = b then none else some ((x + 1) :: List.replicate xs.length 0)
  | _, _ => none
def hdO {α : Type} : List α → Option α → Option α
  | [], e => e
  | y :: _, _ => some y
def OdoOK (left : List Int) : List (List Int) → Option (List Int) → Prop
  | [], _ => True
  | x :: t, e => odoS left x = hdO t e ∧ OdoOK left t e
theorem OdoOK.app {left : List Int} {e : Option (List Int)} {l2 : List (List Int)} (h2 : OdoOK left l2 e) : ∀ {l1 : List (List Int)}, OdoOK left l1 (hdO l2 e) → OdoOK left (l1 ++ l2) e
  | [], _ => h2
  | [x], h => by
    obtain ⟨h1, _⟩ := h
    exact ⟨by simpa [hdO] using h1, h2⟩
  | x :: y :: t, h => ⟨h.1, OdoOK.app h2 h.2⟩
theorem OdoOK.map {b n : Int} {t : List Int} : ∀ {l : List (List Int)}, (∀ x ∈ l, x.length = t.length) → OdoOK t l none → OdoOK (b :: t) (l.map (n :: ·)) (if n = b then none else some ((n + 1) :: List.replicate t.length 0))
  | [], _, _ => trivial
  | [x], hl, h => by
    have h1 : odoS t x = none := h.1
    have hx := hl x (by simp)
    refine ⟨?_, trivial⟩
    simp only [odoS, h1, hdO, List.map_nil, hx]
  | x :: y :: r, hl, h => by
    have h1 : odoS t x = some y := h.1
    refine ⟨?_, OdoOK.map (l := y :: r) (fun z hz => hl z (List.mem_cons_of_mem _ hz)) h.2⟩
    simp only [odoS, h1, hdO, List.map_cons]
theorem boxS_len : ∀ {left : List Int}, ∀ x ∈ boxS left, x.length = left.length
  | [], x, h => by simp [boxS] at h; subst h; rfl
  | b :: t, x, h => by
    simp only [boxS, List.mem_flatMap, List.mem_map] at h
    obtain ⟨n, _, y, hy, rfl⟩ := h
    simp [boxS_len y hy]
theorem boxS_hd : ∀ {left : List Int}, (∀ x ∈ left, 0 ≤ x) → ∃ r, boxS left = List.replicate left.length 0 :: r
  | [], _ => ⟨[], rfl⟩
  | b :: t, h => by
    obtain ⟨r, hr⟩ := boxS_hd (left := t) (fun x hx => h x (List.mem_cons_of_mem _ hx))
    have hb := h b List.mem_cons_self
    obtain ⟨m, hm⟩ : ∃ m, (b + 1).toNat = m + 1 := ⟨b.toNat, by omega⟩
    rw [boxS, hm, List.range_succ_eq_map, List.flatMap_cons, hr]
    simp only [List.map_cons, List.cons_append, List.length_cons, List.replicate_succ]
    exact ⟨_, rfl⟩
theorem boxS_ok : ∀ {left : List Int}, (∀ x ∈ left, 0 ≤ x) → OdoOK left (boxS left) none
  | [], _ => ⟨rfl, trivial⟩
  | b :: t, h => by
    have ht := fun x hx => h x (List.mem_cons_of_mem _ hx)
    have hb := h b List.mem_cons_self
    have ih := boxS_ok (left := t) ht
    obtain ⟨r, hr⟩ := boxS_hd ht
    have key : ∀ m k : Nat, (k : Int) + m = b + 1 → OdoOK (b :: t) ((List.range' k m).flatMap fun (n : Nat) => (boxS t).map fun x => (n : Int) :: x) none := by
      intro m
      induction m with
      | zero => intro k _; trivial
      | succ m ihm =>
        intro k hk
        rw [List.range'_succ, List.flatMap_cons]
        refine OdoOK.app (ihm (k + 1) (by omega)) ?_
        have := OdoOK.map (b := b) (n := (k : Int)) (fun x hx => boxS_len x hx) ih
        cases m with
        | zero => rw [if_pos (by omega)] at this; exact this
        | succ m =>
          rw [if_neg (by omega)] at this
          rw [List.range'_succ, List.flatMap_cons, hr]
          simp only [List.map_cons, List.cons_append, hdO]
          rw [hr] at this
          simpa using this
    have := key (b + 1).toNat 0 (by omega)
    rw [boxS, List.range_eq_range']; exact this
theorem OdoOK.at {left : List Int} : ∀ {l : List (List Int)} {e : Option (List Int)}, OdoOK left l e → ∀ i (hi : i < l.length), odoS left l[i] = if h : i + 1 < l.length then some l[i + 1] else e
  | [], _, _, i, hi => absurd hi (by simp)
  | [x], e, h, 0, _ => by simpa [hdO] using h.1
  | x :: y :: t, e, h, 0, _ => by simpa [hdO] using h.1
  | x :: t, e, h, i + 1, hi => by
    have := OdoOK.at h.2 i (by simpa using hi)
    simp only [List.getElem_cons_succ, List.length_cons]
    rw [this]
    by_cases h1 : i + 1 < t.length
    · rw [dif_pos h1, dif_pos (by omega)]
    · rw [dif_neg h1, dif_neg (by omega)]
theorem odo_none : ∀ {left : List Int}, odoS left left = none
  | [] => rfl
  | b :: t => by simp only [odoS, odo_none (left := t), if_true]
theorem odo_some : ∀ {left x : List Int} {i : Nat}, x.length = left.length → (hi : i < x.length) → (h0 : i < left.length) → x[i] ≠ left[i] → x.drop (i + 1) = left.drop (i + 1) → odoS left x = some (x.take i ++ (x[i] + 1) :: List.replicate (x.length - (i + 1)) 0)
  | b :: t, y :: ys, 0, hl, _, _, hne, hd => by
    simp only [Nat.zero_add, List.drop_succ_cons, List.drop_zero] at hd
    subst hd
    simp only [List.getElem_cons_zero] at hne
    simp only [odoS, odo_none, if_neg hne]
    simp
  | b :: t, y :: ys, i + 1, hl, hi, h0, hne, hd => by
    have := odo_some (left := t) (x := ys) (i := i) (by simpa using hl) (by simpa using hi) (by simpa using h0) (by simpa using hne) (by simpa using hd)
    simp only [odoS, this]
    simp
/-- A list of which the last m numbers are 0. -/
def zr (x : List Int) (m : Nat) : List Int := x.take (x.length - m) ++ List.replicate m 0
theorem zr_len {x : List Int} {m : Nat} (h : m ≤ x.length) : (zr x m).length = x.length := by simp [zr]; omega
theorem zr_nth {x : List Int} {m : Nat} (h : m < x.length) : nth (zr x m) ((x.length : Int) - 1 - m) = nth x ((x.length : Int) - 1 - m) := by
  have e : ((x.length : Int) - 1 - m).toNat = x.length - 1 - m := by omega
  simp only [nth, e, zr, List.getD_eq_getElem?_getD]
  rw [List.getElem?_append_left (by simp; omega), List.getElem?_take, if_pos (by omega)]
theorem zr_step {x : List Int} {m : Nat} (h : m < x.length) : lset (zr x m) ((x.length : Int) - 1 - m) 0 = zr x (m + 1) := by
  have e : ((x.length : Int) - 1 - m).toNat = x.length - 1 - m := by omega
  simp only [lset, e, zr]
  have e2 : x.length - m = x.length - 1 - m + 1 := by omega
  rw [List.set_append_left _ _ (by simp; omega), e2, List.take_succ_eq_append_getElem (by omega), List.set_append_right _ _ (by simp only [List.length_take]; omega)]
  simp only [List.length_take, show min (x.length - 1 - m) x.length = x.length - 1 - m by omega, Nat.sub_self, List.set_cons_zero, List.append_assoc, List.cons_append, List.nil_append, show x.length - (m + 1) = x.length - 1 - m by omega, List.replicate_succ]
/-- The step of the odometer, as the program takes it. -/
theorem odo_zr {left x : List Int} {m : Nat} (hl : x.length = left.length) (h : m < x.length) (heq : ∀ j : Nat, x.length - m ≤ j → j < x.length → nth x j = nth left j) (hne : nth x ((x.length : Int) - 1 - m) ≠ nth left ((x.length : Int) - 1 - m)) :
    odoS left x = some (lset (zr x m) ((x.length : Int) - 1 - m) (nth (zr x m) ((x.length : Int) - 1 - m) + 1)) := by
  have e : ((x.length : Int) - 1 - m).toNat = x.length - 1 - m := by omega
  have g1 : ∀ (l : List Int) (j : Nat) (hj : j < l.length), nth l (j : Int) = l[j] := fun l j hj => by simp [nth, List.getD_eq_getElem?_getD, hj]
  have hx : nth x ((x.length : Int) - 1 - m) = x[x.length - 1 - m]'(by omega) := by rw [← g1]; congr 1; omega
  have hy : nth left ((x.length : Int) - 1 - m) = left[x.length - 1 - m]'(by omega) := by rw [← g1]; congr 1; omega
  have hd : x.drop (x.length - 1 - m + 1) = left.drop (x.length - 1 - m + 1) := by
    apply List.ext_getElem?
    intro j
    rw [List.getElem?_drop, List.getElem?_drop]
    by_cases c : x.length - 1 - m + 1 + j < x.length
    · have := heq (x.length - 1 - m + 1 + j) (by omega) c
      rw [g1 _ _ c, g1 _ _ (by omega)] at this
      rw [List.getElem?_eq_getElem c, List.getElem?_eq_getElem (by omega), this]
    · rw [List.getElem?_eq_none (by omega), List.getElem?_eq_none (by omega)]
  rw [zr_nth h, hx]
  rw [hx, hy] at hne
  rw [odo_some hl (by omega) (by omega) hne hd]
  congr 1
  simp only [lset, e, zr]
  have e2 : x.length - m = x.length - 1 - m + 1 := by omega
  rw [List.set_append_left _ _ (by simp; omega), e2, List.take_succ_eq_append_getElem (by omega), List.set_append_right _ _ (by simp only [List.length_take]; omega)]
  simp only [List.length_take, show min (x.length - 1 - m) x.length = x.length - 1 - m by omega, Nat.sub_self, List.set_cons_zero, List.append_assoc, List.cons_append, List.nil_append]
  congr 3; omega
theorem odo_last {left x : List Int} (hl : x.length = left.length) (heq : ∀ j : Nat, j < x.length → nth x j = nth left j) : odoS left x = none := by
  have : x = left := List.ext_getElem hl fun j h1 h2 => by
    have := heq j h1
    simpa [nth, List.getD_eq_getElem?_getD, h1, h2] using this
  rw [this]; exact odo_none
def Fnd.chBox (f : Fnd) (left : List Int) : List (List Int) := boxS (left.take f.shop.pigs.length)
def Fnd.chOK (f : Fnd) (p : Pt) (row : List Int) : Bool := f.fitsP (p.addL f.shop.pigs row) && f.sureP (p.addL f.shop.pigs row)
/-- What may be added. -/
def Fnd.chL (f : Fnd) (p : Pt) (left : List Int) : List (List Int) := (f.chBox left).filter (f.chOK p)
def Fnd.chIdx (f : Fnd) (p : Pt) (left : List Int) (i : Nat) : Nat := (((f.chBox left).take i).filter (f.chOK p)).length
def Fnd.chItem (f : Fnd) (p : Pt) (row : List Int) : Eng.Item := ⟨[.e (.a (.q 0)), .e (.g [ai (p.addL f.shop.pigs row).pounds, ai (p.addL f.shop.pigs row).tl, ai (p.addL f.shop.pigs row).th, ai (p.addL f.shop.pigs row).al, ai (p.addL f.shop.pigs row).ah, ai (p.addL f.shop.pigs row).dl, ai (p.addL f.shop.pigs row).dh])], [], [(0, PL EP.int row)]⟩
def Fnd.chItems (f : Fnd) (p : Pt) (left : List Int) : List Eng.Item := (List.range (f.chL p left).length).map fun (i : Nat) => f.chItem p (nth (f.chL p left) (i : Int))
theorem nthN {α : Type} [Inhabited α] {l : List α} {j : Nat} (hj : j < l.length) : nth l (j : Int) = l[j] := by simp [nth, List.getD_eq_getElem?_getD, hj]
theorem chIdx_succ {f : Fnd} {p : Pt} {left : List Int} {i : Nat} (hi : i < (f.chBox left).length) : f.chIdx p left (i + 1) = f.chIdx p left i + if f.chOK p (nth (f.chBox left) i) then 1 else 0 := by
  rw [nthN hi]
  simp only [Fnd.chIdx]
  rw [List.take_succ_eq_append_getElem hi, List.filter_append, List.length_append]
  congr 1
  by_cases h : f.chOK p (f.chBox left)[i] <;> simp [h]
theorem filter_at {α : Type} {q : α → Bool} : ∀ {l : List α} {i : Nat} (hi : i < l.length), q l[i] = true → (l.filter q)[((l.take i).filter q).length]? = some l[i]
  | x :: t, 0, _, h => by
    have h : q x = true := h
    simp [List.filter_cons, h]
  | x :: t, i + 1, hi, h => by
    have := filter_at (l := t) (i := i) (by simpa using hi) h
    simp only [List.take_succ_cons, List.filter_cons, List.getElem_cons_succ]
    by_cases hx : q x = true
    · simp only [hx, if_true, List.length_cons, List.getElem?_cons_succ]; exact this
    · simp only [hx, Bool.false_eq_true, if_false]; exact this
theorem chIdx_at {f : Fnd} {p : Pt} {left : List Int} {i : Nat} (hi : i < (f.chBox left).length) (h : f.chOK p (nth (f.chBox left) i) = true) : (f.chItems p left)[f.chIdx p left i]? = some (f.chItem p (nth (f.chBox left) i)) := by
  rw [nthN hi] at h ⊢
  have h1 := filter_at hi h
  have h2 := (List.getElem?_eq_some_iff.1 h1).1
  rw [Fnd.chItems, range_at (show f.chIdx p left i < (f.chL p left).length from h2)]
  congr 2
  exact (nthN (show f.chIdx p left i < (f.chL p left).length from h2)).trans (List.getElem?_eq_some_iff.1 h1).2
theorem chIdx_end {f : Fnd} {p : Pt} {left : List Int} : f.chIdx p left (f.chBox left).length = (f.chItems p left).length := by
  simp [Fnd.chIdx, Fnd.chItems, Fnd.chL]
theorem boxS_bnd : ∀ {left : List Int} {x : List Int}, x ∈ boxS left → ∀ j : Nat, j < left.length → 0 ≤ nth x j ∧ nth x j ≤ nth left j
  | [], _, _, j, hj => absurd hj (by simp)
  | b :: t, x, h, j, hj => by
    simp only [boxS, List.mem_flatMap, List.mem_map, List.mem_range] at h
    obtain ⟨n, hn, y, hy, rfl⟩ := h
    cases j with
    | zero => simp only [nth, Int.natCast_zero, Int.toNat_zero, List.getD_cons_zero]; omega
    | succ j =>
      have := boxS_bnd hy j (by simpa using hj)
      have e : ((j + 1 : Nat) : Int).toNat = j + 1 := by omega
      have e2 : ((j : Nat) : Int).toNat = j := by omega
      simp only [nth, e, e2, List.getD_cons_succ] at this ⊢
      exact this
theorem take_nth {l : List Int} {k j : Nat} (h : j < k) (hk : k ≤ l.length) : nth (l.take k) j = nth l j := by
  simp [nth, List.getD_eq_getElem?_getD, h, List.getElem?_take]
section ch
variable {f : Fnd} {left : List Int}
theorem chBox_pos (hl : bnd4 left) (hp : f.shop.pigs.length ≤ 4) : (f.chBox left)[0]? = some (List.replicate f.shop.pigs.length 0) := by
  obtain ⟨r, hr⟩ := boxS_hd (left := left.take f.shop.pigs.length) (fun x hx => by
    obtain ⟨j, hj, rfl⟩ := List.mem_iff_getElem.1 (List.mem_of_mem_take hx)
    have := hl.2 j (by rw [hl.1] at hj; exact hj)
    rw [nthN hj] at this; exact this.1)
  rw [Fnd.chBox, hr, List.length_take, hl.1, Nat.min_eq_left hp]; rfl
theorem chBox_row (hl : bnd4 left) (hp : f.shop.pigs.length ≤ 4) {i : Nat} (hi : i < (f.chBox left).length) : (nth (f.chBox left) (i : Int)).length = f.shop.pigs.length ∧ bnd (nth (f.chBox left) (i : Int)) 5 ∧ nth (f.chBox left) (i : Int) ∈ f.chBox left := by
  have hm : nth (f.chBox left) (i : Int) ∈ f.chBox left := by rw [nthN hi]; exact List.getElem_mem hi
  have h1 := boxS_len _ hm
  rw [List.length_take, hl.1, Nat.min_eq_left hp] at h1
  refine ⟨h1, fun j hj => ?_, hm⟩
  have h2 := boxS_bnd hm j (by rw [List.length_take, hl.1]; omega)
  rw [take_nth (by omega) (by rw [hl.1]; exact hp)] at h2
  have := hl.2 j (by omega)
  omega
theorem ch_next (hl : bnd4 left) (hp : f.shop.pigs.length ≤ 4) {i m : Nat} (hi : i < (f.chBox left).length) (heq : ∀ j : Nat, f.shop.pigs.length - m ≤ j → j < f.shop.pigs.length → nth (nth (f.chBox left) (i : Int)) j = nth left j) :
    (f.shop.pigs.length ≤ m → i + 1 = (f.chBox left).length) ∧
    (m < f.shop.pigs.length → nth (nth (f.chBox left) (i : Int)) ((f.shop.pigs.length : Int) - 1 - m) ≠ nth left ((f.shop.pigs.length : Int) - 1 - m) → i + 1 < (f.chBox left).length ∧
      lset (zr (nth (f.chBox left) (i : Int)) m) ((f.shop.pigs.length : Int) - 1 - m) (nth (zr (nth (f.chBox left) (i : Int)) m) ((f.shop.pigs.length : Int) - 1 - m) + 1) = nth (f.chBox left) ((i + 1 : Nat) : Int)) := by
  obtain ⟨h1, _, h3⟩ := chBox_row hl hp hi
  have hlk : (left.take f.shop.pigs.length).length = f.shop.pigs.length := by rw [List.length_take, hl.1]; omega
  have hok := OdoOK.at (boxS_ok (left := left.take f.shop.pigs.length) (fun x hx => by
    obtain ⟨j, hj, rfl⟩ := List.mem_iff_getElem.1 (List.mem_of_mem_take hx)
    have := hl.2 j (by rw [hl.1] at hj; exact hj)
    rw [nthN hj] at this; exact this.1)) i hi
  have hr : (boxS (left.take f.shop.pigs.length))[i]'hi = nth (f.chBox left) (i : Int) := (nthN hi).symm
  rw [hr] at hok
  constructor
  · intro hm
    have h5 := odo_last (left := left.take f.shop.pigs.length) (x := nth (f.chBox left) (i : Int)) (by rw [h1, hlk]) (fun j hj => by
      rw [take_nth (by omega) (by rw [hl.1]; exact hp)]; exact heq j (by omega) (by omega))
    rw [h5] at hok
    by_cases h6 : i + 1 < (boxS (left.take f.shop.pigs.length)).length
    · rw [dif_pos h6] at hok; cases hok
    · have : (f.chBox left).length = (boxS (left.take f.shop.pigs.length)).length := rfl
      omega
  · intro hm hne
    have h5 := odo_zr (left := left.take f.shop.pigs.length) (x := nth (f.chBox left) (i : Int)) (m := m) (by rw [h1, hlk]) (by omega) (fun j hj hj2 => by
      rw [take_nth (by omega) (by rw [hl.1]; exact hp)]; exact heq j (by omega) (by omega)) (by
      rw [h1]
      have e : (f.shop.pigs.length : Int) - 1 - m = ((f.shop.pigs.length - 1 - m : Nat) : Int) := by omega
      rw [e] at hne ⊢
      rw [take_nth (by omega) (by rw [hl.1]; exact hp)]; exact hne)
    rw [h1] at h5
    rw [h5] at hok
    by_cases h6 : i + 1 < (boxS (left.take f.shop.pigs.length)).length
    · rw [dif_pos h6] at hok
      refine ⟨h6, ?_⟩
      rw [nthN (show i + 1 < (f.chBox left).length from h6)]
      exact Option.some.inj hok
    · rw [dif_neg h6] at hok; cases hok
end ch
end Go.Flong
