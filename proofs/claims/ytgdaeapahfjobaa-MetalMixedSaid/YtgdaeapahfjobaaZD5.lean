/- Part 5 of the texts behind the claim: MR2 QR2 MB14 QLM10. -/
import Derived.Test.YtgdaeapahfjobaaZD4
set_option linter.unusedSimpArgs false
set_option linter.unusedVariables false
namespace Go.Flong
open Go Go.Eng
def Shop.addsR (s : Shop) : Nat → List Int → List (List Int)
  | 0, first => if isAdd s first then [first] else []
  | n + 1, first => flatTo (fun j => Shop.addsR s n (first ++ [(j : Int)])) ((nth s.pigs first.length).many + 1).toNat
theorem sAddsR_len {s : Shop} (hs : PigsOK s.pigs) : ∀ (n : Nat) (first : List Int), first.length + n = s.pigs.length → (s.addsR n first).length ≤ 6 ^ n
  | 0, first, _ => by simp only [Shop.addsR]; split <;> simp
  | n + 1, first, h => by
    have h1 := Pig.bnds (hs.at (show first.length < s.pigs.length by omega))
    have h3 := flatTo_len (g := fun (j : Nat) => s.addsR n (first ++ [(j : Int)])) (m := 6 ^ n) (n := ((nth s.pigs first.length).many + 1).toNat) (fun j _ => sAddsR_len hs n _ (by simp; omega))
    simp only [Shop.addsR]
    refine Nat.le_trans h3 ?_
    rw [Nat.pow_succ, Nat.mul_comm]
    exact Nat.mul_le_mul_left _ (by omega)
theorem sAddsR_flat {s : Shop} (hs : PigsOK s.pigs) {m : Nat} {first : List Int} (h : first.length + (m + 1) = s.pigs.length) {j : Nat} (hj : j ≤ 6) :
    (flatTo (fun z : Nat => s.addsR m (first ++ [(z : Int)])) j).length ≤ 7776 ∧ ∀ z : Nat, (s.addsR m (first ++ [(z : Int)])).length ≤ 1296 := by
  have h1 : ∀ z : Nat, (s.addsR m (first ++ [(z : Int)])).length ≤ 1296 := fun z => by
    have h1 := sAddsR_len hs m (first ++ [(z : Int)]) (by simp; omega)
    have h2 : 6 ^ m ≤ 6 ^ 4 := Nat.pow_le_pow_right (by omega) (by have := hs.2; omega)
    have h3 : (6 : Nat) ^ 4 = 1296 := by decide
    omega
  refine ⟨?_, h1⟩
  have h4 := flatTo_len (g := fun z : Nat => s.addsR m (first ++ [(z : Int)])) (n := j) (fun i _ => h1 i)
  have h5 : j * 1296 ≤ 6 * 1296 := Nat.mul_le_mul_right _ hj
  omega
theorem sAddsR_eq {s : Shop} : ∀ (n : Nat) (first : List Int), first.length + n = s.pigs.length → s.addsR n first = ((boxS (s.manyL.drop first.length)).map (first ++ ·)).filter (isAdd s)
  | 0, first, h => by
    rw [List.drop_of_length_le (by rw [manyL_len]; omega)]
    simp only [Shop.addsR, boxS, List.map_cons, List.map_nil, List.append_nil]
    split
    · next g => simp [g]
    · next g => simp [g]
  | n + 1, first, h => by
    have hd : s.manyL.drop first.length = (nth s.pigs (first.length : Int)).many :: s.manyL.drop (first.length + 1) := by
      rw [drop_at (by rw [manyL_len]; omega), manyL_nth (by omega)]
    rw [hd]
    simp only [Shop.addsR, boxS]
    rw [flatTo_range, List.map_flatMap, List.filter_flatMap]
    congr 1
    funext j
    rw [sAddsR_eq n (first ++ [(j : Int)]) (by simp; omega), List.map_map]
    simp only [List.length_append, List.length_cons, List.length_nil, Function.comp_def, List.append_assoc, List.cons_append, List.nil_append, Nat.zero_add]
theorem sAddsR_all (s : Shop) : s.addsR s.pigs.length [] = s.adL := by
  rw [sAddsR_eq _ _ (by simp)]
  simp only [List.length_nil, List.drop_zero, List.nil_append, List.map_id']
  rfl
theorem sAdds_none {s : Shop} {first : List Int} (h : isAdd s first = false) : s.addsR 0 first = [] := by simp [Shop.addsR, h]
theorem sAdds_one {s : Shop} {first : List Int} (h : isAdd s first = true) : s.addsR 0 first = [first] := by simp [Shop.addsR, h]
def Shop.rsTo (s : Shop) : Nat → List (List Int)
  | 0 => []
  | i + 1 => if s.safeP (s.aft (nth s.adL (i : Int))) then Shop.rsTo s i ++ [nth s.adL (i : Int)] else Shop.rsTo s i
def Shop.rsL (s : Shop) : List (List Int) := s.rsTo s.adL.length
theorem rsTo_len (s : Shop) : ∀ i, (s.rsTo i).length ≤ i
  | 0 => by simp [Shop.rsTo]
  | i + 1 => by
    have := rsTo_len s i
    simp only [Shop.rsTo]; split
    · simp; omega
    · omega
theorem mem_rsTo {s : Shop} {l : List Int} : ∀ {i : Nat}, l ∈ s.rsTo i ↔ ∃ j : Nat, j < i ∧ l = nth s.adL (j : Int) ∧ s.safeP (s.aft l) = true
  | 0 => by simp [Shop.rsTo]
  | i + 1 => by
    have ih := mem_rsTo (s := s) (l := l) (i := i)
    simp only [Shop.rsTo]
    constructor
    · intro h
      split at h
      · next g =>
        rcases List.mem_append.1 h with h | h
        · obtain ⟨j, h1, h2, h3⟩ := ih.1 h; exact ⟨j, by omega, h2, h3⟩
        · simp only [List.mem_singleton] at h; subst h; exact ⟨i, by omega, rfl, g⟩
      · obtain ⟨j, h1, h2, h3⟩ := ih.1 h; exact ⟨j, by omega, h2, h3⟩
    · rintro ⟨j, h1, h2, h3⟩
      by_cases e : j = i
      · subst e
        rw [if_pos (by rw [← h2]; exact h3)]
        exact List.mem_append.2 (.inr (by rw [h2]; simp))
      · have := ih.2 ⟨j, by omega, h2, h3⟩
        split
        · exact List.mem_append.2 (.inl this)
        · exact this
theorem mem_rsL {s : Shop} (hs : PigsOK s.pigs) {l : List Int} : l ∈ s.rsL ↔ s.okM l = true := by
  unfold Shop.rsL Shop.okM
  rw [mem_rsTo, Bool.and_eq_true]
  constructor
  · rintro ⟨j, h1, h2, h3⟩
    exact ⟨by rw [h2]; exact adL_at h1, h3⟩
  · rintro ⟨h1, h2⟩
    obtain ⟨j, hj, e⟩ := adL_index hs h1
    exact ⟨j, hj, e.symm, h2⟩
theorem rsL_len {s : Shop} (hs : PigsOK s.pigs) : s.rsL.length ≤ 1296 := Nat.le_trans (rsTo_len s _) (adL_len hs)
theorem rsL_at {s : Shop} (hs : PigsOK s.pigs) {i : Nat} (hi : i < s.rsL.length) : s.okM (nth s.rsL (i : Int)) = true := (mem_rsL hs).1 (nth_mem (by omega) (by omega))
theorem okM_bnd {s : Shop} (hs : PigsOK s.pigs) {l : List Int} (h : s.okM l = true) : l.length = s.pigs.length ∧ bnd l 5 ∧ bnd l 1000 := by
  unfold Shop.okM at h
  rw [Bool.and_eq_true] at h
  exact isAddB hs h.1
def Shop.betM (s : Shop) (x b : List Int) : Bool := decide (sumOf Pig.pence s.pigs x < sumOf Pig.pence s.pigs b) || (decide (sumOf Pig.pence s.pigs x = sumOf Pig.pence s.pigs b) && decide (sumOf Pig.pounds s.pigs x < sumOf Pig.pounds s.pigs b))
def Shop.rbTo (s : Shop) (l : List (List Int)) : Nat → List Int
  | 0 => nth l 0
  | i + 1 => if s.betM (nth l (i : Int)) (Shop.rbTo s l i) then nth l (i : Int) else Shop.rbTo s l i
theorem betM_cmp {s : Shop} {x b : List Int} : s.betM x b = decide (cmpL (priceG s x) (priceG s b) < 0) := by
  rw [Bool.eq_iff_iff]
  simp only [Shop.betM, Bool.or_eq_true, Bool.and_eq_true, decide_eq_true_eq, priceG, cmpL]
  by_cases e1 : cmpI (sumOf Pig.pence s.pigs x) (sumOf Pig.pence s.pigs b) = 0
  · rw [if_pos e1]
    have e := cmpI_eq.1 e1
    by_cases e2 : cmpI (sumOf Pig.pounds s.pigs x) (sumOf Pig.pounds s.pigs b) = 0
    · rw [if_pos e2]
      have := cmpI_eq.1 e2
      omega
    · rw [if_neg e2, cmpI_lt]; omega
  · rw [if_neg e1, cmpI_lt]
    have : sumOf Pig.pence s.pigs x ≠ sumOf Pig.pence s.pigs b := fun g => e1 (cmpI_eq.2 g)
    omega
theorem nth_app {α : Type} [Inhabited α] {l : List α} {x : α} {j : Nat} (h : j < l.length) : nth (l ++ [x]) (j : Int) = nth l (j : Int) := by
  rw [nthN (by simp; omega), nthN h, List.getElem_append_left h]
theorem nth_last {α : Type} [Inhabited α] {l : List α} {x : α} : nth (l ++ [x]) (l.length : Int) = x := by
  rw [nthN (by simp)]; simp
theorem rbTo_app {s : Shop} {l : List (List Int)} {x : List Int} (h0 : 0 < l.length) : ∀ i : Nat, i ≤ l.length → s.rbTo (l ++ [x]) i = s.rbTo l i
  | 0, _ => nth_app (j := 0) h0
  | i + 1, h => by simp only [Shop.rbTo]; rw [rbTo_app h0 i (by omega), nth_app (by omega)]
theorem rbTo_mem {s : Shop} {l : List (List Int)} (h0 : 0 < l.length) : ∀ i : Nat, i ≤ l.length → s.rbTo l i ∈ l
  | 0, _ => nth_mem (i := 0) (by omega) (by omega)
  | i + 1, h => by
    simp only [Shop.rbTo]; split
    · exact nth_mem (by omega) (by omega)
    · exact rbTo_mem h0 i (by omega)
theorem rb_best {s : Shop} : ∀ i : Nat, i ≤ s.adL.length → (s.rsTo i = [] ∧ s.bestM (priceG s) i = ([], [])) ∨ (0 < (s.rsTo i).length ∧ s.bestM (priceG s) i = (s.rbTo (s.rsTo i) (s.rsTo i).length, priceG s (s.rbTo (s.rsTo i) (s.rsTo i).length)))
  | 0, _ => .inl ⟨rfl, rfl⟩
  | i + 1, h => by
    have ih := rb_best (s := s) i (by omega)
    simp only [Shop.rsTo, Shop.bestM]
    cases hs : s.safeP (s.aft (nth s.adL (i : Int))) with
    | false => rw [Bool.false_and, if_neg (by simp)]; exact ih
    | true =>
      rw [Bool.true_and]
      right
      rcases ih with ⟨h1, h2⟩ | ⟨h1, h2⟩
      · rw [h1, h2, if_pos rfl, if_pos (by simp)]
        refine ⟨by simp, ?_⟩
        have e : s.rbTo ([] ++ [nth s.adL (i : Int)]) ([] ++ [nth s.adL (i : Int)]).length = nth s.adL (i : Int) := by
          simp only [List.nil_append, List.length_singleton, Shop.rbTo]
          exact ite_self _
        rw [e]
      · rw [if_pos rfl]
        refine ⟨by simp, ?_⟩
        have e : s.rbTo (s.rsTo i ++ [nth s.adL (i : Int)]) (s.rsTo i ++ [nth s.adL (i : Int)]).length = if s.betM (nth s.adL (i : Int)) (s.rbTo (s.rsTo i) (s.rsTo i).length) then nth s.adL (i : Int) else s.rbTo (s.rsTo i) (s.rsTo i).length := by
          rw [List.length_append, List.length_singleton, Shop.rbTo, nth_last, rbTo_app h1 _ (Nat.le_refl _)]
        rw [e, betM_cmp, h2]
        by_cases g : cmpL (priceG s (nth s.adL (i : Int))) (priceG s (s.rbTo (s.rsTo i) (s.rsTo i).length)) < 0
        · rw [if_pos (by simp [g]), if_pos (by simp [g])]
        · rw [if_neg (by simp only [Bool.or_eq_true, decide_eq_true_eq]; rintro (k | k); (simp [priceG] at k); exact g k), if_neg (by rw [decide_eq_true_eq]; exact g)]
theorem rmend {s : Shop} (hs : s.chk = true) : (s.rsL = [] ∧ s.mE (priceG s) = 3 ∧ s.mAdd (priceG s) = []) ∨ (0 < s.rsL.length ∧ s.mE (priceG s) = 0 ∧ s.mAdd (priceG s) = s.rbTo s.rsL s.rsL.length) := by
  have hE : s.mE (priceG s) = if ((s.mBest (priceG s)).2.length : Int) = 0 then 3 else 0 := by unfold Shop.mE; rw [hs]; rfl
  rcases rb_best (s := s) s.adL.length (Nat.le_refl _) with ⟨h1, h2⟩ | ⟨h1, h2⟩
  · left
    have e3 : s.mE (priceG s) = 3 := by rw [hE]; unfold Shop.mBest; rw [h2]; rfl
    exact ⟨h1, e3, by unfold Shop.mAdd; rw [if_neg (by omega)]⟩
  · right
    have e0 : s.mE (priceG s) = 0 := by rw [hE]; unfold Shop.mBest; rw [h2]; exact if_neg (by simp [priceG])
    exact ⟨h1, e0, by unfold Shop.mAdd; rw [if_pos e0]; unfold Shop.mBest; rw [h2]; rfl⟩
def Shop.rtTo (s : Shop) (l : List (List Int)) : Nat → Int
  | 0 => sumOf Pig.tin s.pigs (nth l 0)
  | i + 1 => min (Shop.rtTo s l i) (sumOf Pig.tin s.pigs (nth l (i : Int)))
theorem rtTo_spec {s : Shop} {l : List (List Int)} (h0 : 0 < l.length) : ∀ i : Nat, i ≤ l.length → (∃ x ∈ l, s.rtTo l i = sumOf Pig.tin s.pigs x) ∧ ∀ j : Nat, j < i → s.rtTo l i ≤ sumOf Pig.tin s.pigs (nth l (j : Int))
  | 0, _ => ⟨⟨_, nth_mem (i := 0) (by omega) (by omega), rfl⟩, fun j hj => absurd hj (by omega)⟩
  | i + 1, h => by
    obtain ⟨⟨x, hx, e⟩, h2⟩ := rtTo_spec (s := s) h0 i (by omega)
    simp only [Shop.rtTo]
    refine ⟨?_, fun j hj => ?_⟩
    · by_cases g : s.rtTo l i ≤ sumOf Pig.tin s.pigs (nth l (i : Int))
      · rw [Int.min_eq_left g]; exact ⟨x, hx, e⟩
      · rw [Int.min_eq_right (by omega)]; exact ⟨_, nth_mem (by omega) (by omega), rfl⟩
    · by_cases g : j = i
      · subst g; omega
      · have := h2 j (by omega); omega
theorem rtin {s : Shop} (hs : s.chk = true) : (s.rsL = [] ∧ s.mE (tinG s) = 3 ∧ s.mTin = 0) ∨ (0 < s.rsL.length ∧ s.mE (tinG s) = 0 ∧ s.mTin = s.rtTo s.rsL s.rsL.length) := by
  have hpg := Shop.pigsOK hs
  rcases tin_spec hs with ⟨h1, h2, h3⟩ | ⟨h1, h2, h3, h4⟩
  · left
    refine ⟨List.eq_nil_iff_forall_not_mem.2 fun l hl => ?_, h1, h2⟩
    rw [mem_rsL hpg, h3] at hl; cases hl
  · right
    have hm := (mem_rsL hpg).2 h2
    have h0 : 0 < s.rsL.length := List.length_pos_of_mem hm
    refine ⟨h0, h1, ?_⟩
    obtain ⟨⟨x, hx, e⟩, k⟩ := rtTo_spec (s := s) h0 s.rsL.length (Nat.le_refl _)
    have a1 := h4 x ((mem_rsL hpg).1 hx)
    obtain ⟨j, hj, ej⟩ := List.mem_iff_getElem.1 hm
    have a2 := k j hj
    rw [nthN hj, ej] at a2
    omega
theorem keep2 {s : Shop} {p : Po} {c : Int} (h1 : 1 ≤ c) (h4 : c ≤ 4) (ht : p.tl ≤ p.th) (ha : p.al ≤ p.ah) : (keeps1 s c p.pounds p.tl p.al && keeps1 s c p.pounds p.th p.ah) = !s.failsP p c := by
  have : c = 1 ∨ c = 2 ∨ c = 3 ∨ c = 4 := by omega
  rw [Bool.eq_iff_iff]
  rcases this with rfl | rfl | rfl | rfl <;> simp [Shop.failsP, keeps1] <;> omega
def Shop.notKept (s : Shop) (c : Int) (i : Nat) : Bool := allI (fun j => s.failsP (s.aft (nth s.adL (j : Int))) c) i
theorem kept_zero {s : Shop} {c : Int} (h1 : 1 ≤ c) (h4 : c ≤ 4) : s.keptAt c = 0 ↔ s.notKept c s.adL.length = true := by
  unfold Shop.keptAt
  rw [keptTo_get s h1 h4]
  unfold Shop.notKept
  rw [allI_iff]
  constructor
  · intro h j hj
    cases e : s.failsP (s.aft (nth s.adL (j : Int))) c with
    | true => rfl
    | false => have := keptC_pos s c hj e; omega
  · intro h
    have : ∀ i : Nat, i ≤ s.adL.length → s.keptC c i = 0 := fun i => by
      induction i with
      | zero => intro _; rfl
      | succ i ih => intro hi; simp only [Shop.keptC]; rw [ih (by omega), h i (by omega)]; simp
    exact this _ (Nat.le_refl _)
def keepRow (s : Shop) (c pd t al : Int) (n : Nat) : Bool := allI (fun j => keeps1 s c pd t (al + (j : Int))) n
def keepAll (s : Shop) (c pd tl al : Int) (na n : Nat) : Bool := allI (fun i => keepRow s c pd (tl + (i : Int)) al na) n
def Po.nT (p : Po) : Nat := (p.th - p.tl + 1).toNat
def Po.nA (p : Po) : Nat := (p.ah - p.al + 1).toNat
theorem orn (x y k : Bool) : (!(x && y) || !k) = !(x && (y && k)) := by cases x <;> cases y <;> cases k <;> rfl
theorem orn2 (x f : Bool) : (!x || !f) = !(x && f) := by cases x <;> cases f <;> rfl
theorem keepAll_iff {s : Shop} {p : Po} {c : Int} (h1 : 1 ≤ c) (h4 : c ≤ 4) (ht : p.tl ≤ p.th) (ha : p.al ≤ p.ah) : (!keepAll s c p.pounds p.tl p.al p.nA p.nT) = s.failsP p c := by
  have hc : c = 1 ∨ c = 2 ∨ c = 3 ∨ c = 4 := by omega
  cases hK : keepAll s c p.pounds p.tl p.al p.nA p.nT with
  | true =>
    have hk : ∀ i j : Nat, i < p.nT → j < p.nA → keeps1 s c p.pounds (p.tl + i) (p.al + j) = true := fun i j hi hj => allI_iff.1 (show keepRow s c p.pounds (p.tl + i) p.al p.nA = true from allI_iff.1 hK i hi) j hj
    have hnT : 0 < p.nT := by unfold Po.nT; omega
    have hnA : 0 < p.nA := by unfold Po.nA; omega
    have k0 := hk 0 0 hnT hnA
    have k1 := hk (p.nT - 1) (p.nA - 1) (by omega) (by omega)
    have e1 : p.tl + ((p.nT - 1 : Nat) : Int) = p.th := by unfold Po.nT; omega
    have e2 : p.al + ((p.nA - 1 : Nat) : Int) = p.ah := by unfold Po.nA; omega
    rw [e1, e2] at k1
    have := keep2 (s := s) h1 h4 ht ha
    rw [k1, show keeps1 s c p.pounds p.tl p.al = true by simpa using k0] at this
    cases e : s.failsP p c with
    | false => rfl
    | true => rw [e] at this; cases this
  | false =>
    symm
    obtain ⟨i, hi, g1⟩ := not_allI_iff.1 (show (!allI _ _) = true by rw [show allI (fun i => keepRow s c p.pounds (p.tl + (i : Int)) p.al p.nA) p.nT = false from hK]; rfl)
    obtain ⟨j, hj, g2⟩ := not_allI_iff.1 (show (!allI _ _) = true by rw [show allI (fun j => keeps1 s c p.pounds (p.tl + (i : Int)) (p.al + (j : Int))) p.nA = false from g1]; rfl)
    unfold Po.nT at hi
    unfold Po.nA at hj
    rcases hc with rfl | rfl | rfl | rfl <;> simp [Shop.failsP, keeps1] at g2 ⊢ <;> omega
theorem mFails_up {s : Shop} {add : List Int} (h : opE s (isAdd s add) = 0) : s.mFails add = upN (s.failsP (s.aft add)) 4 := by
  unfold Shop.mFails; rw [if_pos h, failsTo_up]
theorem upN_len (p : Int → Bool) : ∀ n, (upN p n).length ≤ n
  | 0 => by simp [upN]
  | n + 1 => by
    have := upN_len p n
    simp only [upN]; split
    · simp; omega
    · omega
def soRow (s : Shop) (pd t al : Int) : Nat → Int
  | 0 => 0
  | j + 1 => soRow s pd t al j + if s.keepsTo pd t (al + (j : Int)) 4 then 1 else 0
def soAll (s : Shop) (pd tl al : Int) (na : Nat) : Nat → Int
  | 0 => 0
  | i + 1 => soAll s pd tl al na i + soRow s pd (tl + (i : Int)) al na
def allN (na : Nat) : Nat → Int
  | 0 => 0
  | i + 1 => allN na i + na
theorem soRow_bnd (s : Shop) (pd t al : Int) : ∀ j : Nat, 0 ≤ soRow s pd t al j ∧ soRow s pd t al j ≤ j
  | 0 => by simp [soRow]
  | j + 1 => by have := soRow_bnd s pd t al j; simp only [soRow]; split <;> omega
theorem soAll_bnd (s : Shop) (pd tl al : Int) (na : Nat) : ∀ i : Nat, 0 ≤ soAll s pd tl al na i ∧ soAll s pd tl al na i ≤ allN na i
  | 0 => by simp [soAll, allN]
  | i + 1 => by have := soAll_bnd s pd tl al na i; have := soRow_bnd s pd (tl + (i : Int)) al na; simp only [soAll, allN]; omega
theorem allN_bnd {na : Nat} (h : na ≤ 401) : ∀ i : Nat, 0 ≤ allN na i ∧ allN na i ≤ 401 * i
  | 0 => by simp [allN]
  | i + 1 => by have := allN_bnd h i; simp only [allN]; omega
theorem allN_pos {na : Nat} (h : 0 < na) : ∀ {i : Nat}, 0 < i → 0 < allN na i
  | 0, h => absurd h (by omega)
  | i + 1, _ => by
    simp only [allN]
    by_cases e : i = 0
    · subst e; simp only [allN]; omega
    · have := allN_pos h (show 0 < i by omega); omega
theorem soRow_zero {s : Shop} {pd t al : Int} : ∀ {j : Nat}, soRow s pd t al j = 0 ↔ ∀ k : Nat, k < j → s.keepsTo pd t (al + (k : Int)) 4 = false
  | 0 => by simp [soRow]
  | j + 1 => by
    have ih := soRow_zero (s := s) (pd := pd) (t := t) (al := al) (j := j)
    have hb := soRow_bnd s pd t al j
    simp only [soRow]
    constructor
    · intro h k hk
      cases e : s.keepsTo pd t (al + (j : Int)) 4 with
      | true => rw [e] at h; simp at h; omega
      | false =>
        rw [e] at h; simp at h
        by_cases g : k = j
        · subst g; exact e
        · exact ih.1 h k (by omega)
    · intro h
      rw [h j (by omega), ih.2 fun k hk => h k (by omega)]; simp
theorem soRow_full {s : Shop} {pd t al : Int} : ∀ {j : Nat}, soRow s pd t al j = j ↔ ∀ k : Nat, k < j → s.keepsTo pd t (al + (k : Int)) 4 = true
  | 0 => by simp [soRow]
  | j + 1 => by
    have ih := soRow_full (s := s) (pd := pd) (t := t) (al := al) (j := j)
    have hb := soRow_bnd s pd t al j
    simp only [soRow]
    constructor
    · intro h k hk
      cases e : s.keepsTo pd t (al + (j : Int)) 4 with
      | false => rw [e] at h; simp at h; omega
      | true =>
        rw [e] at h; simp at h
        by_cases g : k = j
        · subst g; exact e
        · exact ih.1 h k (by omega)
    · intro h
      rw [h j (by omega), ih.2 fun k hk => h k (by omega)]; simp
theorem soAll_zero {s : Shop} {pd tl al : Int} {na : Nat} : ∀ {i : Nat}, soAll s pd tl al na i = 0 ↔ ∀ k : Nat, k < i → ∀ j : Nat, j < na → s.keepsTo pd (tl + (k : Int)) (al + (j : Int)) 4 = false
  | 0 => by simp [soAll]
  | i + 1 => by
    have ih := soAll_zero (s := s) (pd := pd) (tl := tl) (al := al) (na := na) (i := i)
    have hb := soAll_bnd s pd tl al na i
    have hr := soRow_bnd s pd (tl + (i : Int)) al na
    simp only [soAll]
    constructor
    · intro h k hk
      by_cases g : k = i
      · subst g; exact soRow_zero.1 (by omega)
      · exact ih.1 (by omega) k (by omega)
    · intro h
      rw [ih.2 fun k hk => h k (by omega), soRow_zero.2 (h i (by omega))]; rfl
theorem soAll_full {s : Shop} {pd tl al : Int} {na : Nat} : ∀ {i : Nat}, soAll s pd tl al na i = allN na i ↔ ∀ k : Nat, k < i → ∀ j : Nat, j < na → s.keepsTo pd (tl + (k : Int)) (al + (j : Int)) 4 = true
  | 0 => by simp [soAll, allN]
  | i + 1 => by
    have ih := soAll_full (s := s) (pd := pd) (tl := tl) (al := al) (na := na) (i := i)
    have hb := soAll_bnd s pd tl al na i
    have hr := soRow_bnd s pd (tl + (i : Int)) al na
    simp only [soAll, allN]
    constructor
    · intro h k hk
      by_cases g : k = i
      · subst g; exact soRow_full.1 (by omega)
      · exact ih.1 (by omega) k (by omega)
    · intro h
      rw [ih.2 fun k hk => h k (by omega), soRow_full.2 (h i (by omega))]
theorem keepsTo4 {s : Shop} {pd t a : Int} : s.keepsTo pd t a 4 = true ↔ pd * s.tpl ≤ 1000 * t ∧ 1000 * t ≤ pd * s.tph ∧ pd * s.apl ≤ 1000 * a ∧ 1000 * a ≤ pd * s.aph := by
  simp [Shop.keepsTo, allI, keeps1]
  omega
theorem knOf_safe {s : Shop} {add : List Int} (hs : s.chk = true) (hv : isAdd s add = true) : knOf (soAll s (s.aft add).pounds (s.aft add).tl (s.aft add).al s.nA s.nT) (allN s.nA s.nT) = s.mSafe add := by
  have hT := InT_ex hs
  have htb := tl_bnd hs
  have hx := isAddB (Shop.pigsOK hs) hv
  have hb := aft_bnd hs (l := add) (by omega) hx.2.2
  unfold PoB at hb
  unfold Shop.InT at hT
  have hnT : 0 < s.nT := by unfold Shop.nT; omega
  have hnA : 0 < s.nA := by unfold Shop.nA; omega
  have hpos := allN_pos hnA hnT
  have e1 : (s.aft add).th = (s.aft add).tl + ((s.nT - 1 : Nat) : Int) := by simp only [Shop.aft, Shop.nT]; omega
  have e2 : (s.aft add).ah = (s.aft add).al + ((s.nA - 1 : Nat) : Int) := by simp only [Shop.aft, Shop.nA]; omega
  have b1 : ∀ i : Nat, i < s.nT → (s.aft add).tl + (i : Int) ≤ (s.aft add).th := fun i hi => by omega
  have b2 : ∀ i : Nat, i < s.nA → (s.aft add).al + (i : Int) ≤ (s.aft add).ah := fun i hi => by omega
  rw [mSafe_eq hs hv]
  unfold knOf
  cases hS : s.safeP (s.aft add) with
  | true =>
    have hS2 := safeP_iff.1 hS
    have hf : soAll s (s.aft add).pounds (s.aft add).tl (s.aft add).al s.nA s.nT = allN s.nA s.nT := soAll_full.2 fun i hi j hj => by
      have := b1 i hi
      have := b2 j hj
      rw [keepsTo4]; omega
    rw [hf, if_neg (by omega), if_pos rfl, if_pos rfl]
  | false =>
    have hnf : soAll s (s.aft add).pounds (s.aft add).tl (s.aft add).al s.nA s.nT ≠ allN s.nA s.nT := fun g => by
      have g2 := soAll_full.1 g
      have k1 := keepsTo4.1 (g2 0 hnT 0 hnA)
      have k2 := keepsTo4.1 (g2 (s.nT - 1) (by omega) (s.nA - 1) (by omega))
      have : s.safeP (s.aft add) = true := safeP_iff.2 (by omega)
      rw [hS] at this; cases this
    simp only [Bool.false_eq_true, if_false]
    rw [if_neg hnf]
    have c1 := fun T => justL_iff (part := s.tpl) (all := (s.aft add).pounds) (T := T) (by omega) (by omega)
    have c2 := fun T => justH_iff (part := s.tph) (all := (s.aft add).pounds) (T := T) (by omega) (by omega)
    have c3 := fun T => justL_iff (part := s.apl) (all := (s.aft add).pounds) (T := T) (by omega) (by omega)
    have c4 := fun T => justH_iff (part := s.aph) (all := (s.aft add).pounds) (T := T) (by omega) (by omega)
    cases hC : s.canM (s.aft add) with
    | true =>
      simp only [Shop.canM, Bool.and_eq_true, decide_eq_true_eq] at hC
      have hz : soAll s (s.aft add).pounds (s.aft add).tl (s.aft add).al s.nA s.nT ≠ 0 := fun g => by
        have g2 := soAll_zero.1 g
        have d1 := (c1 (max (s.aft add).tl (justL s.tpl (s.aft add).pounds))).1 (by omega)
        have d2 := (c2 (max (s.aft add).tl (justL s.tpl (s.aft add).pounds))).1 (by omega)
        have d3 := (c3 (max (s.aft add).al (justL s.apl (s.aft add).pounds))).1 (by omega)
        have d4 := (c4 (max (s.aft add).al (justL s.apl (s.aft add).pounds))).1 (by omega)
        have g3 := g2 (max (s.aft add).tl (justL s.tpl (s.aft add).pounds) - (s.aft add).tl).toNat (by omega) (max (s.aft add).al (justL s.apl (s.aft add).pounds) - (s.aft add).al).toNat (by omega)
        rw [show (s.aft add).tl + (((max (s.aft add).tl (justL s.tpl (s.aft add).pounds) - (s.aft add).tl).toNat : Nat) : Int) = max (s.aft add).tl (justL s.tpl (s.aft add).pounds) by omega, show (s.aft add).al + (((max (s.aft add).al (justL s.apl (s.aft add).pounds) - (s.aft add).al).toNat : Nat) : Int) = max (s.aft add).al (justL s.apl (s.aft add).pounds) by omega] at g3
        have g4 := keepsTo4.2 ⟨d1, d2, d3, d4⟩
        rw [g3] at g4; cases g4
      rw [if_neg hz, if_pos rfl]
    | false =>
      have hz : soAll s (s.aft add).pounds (s.aft add).tl (s.aft add).al s.nA s.nT = 0 := soAll_zero.2 fun i hi j hj => by
        cases e : s.keepsTo (s.aft add).pounds ((s.aft add).tl + (i : Int)) ((s.aft add).al + (j : Int)) 4 with
        | false => rfl
        | true =>
          exfalso
          have k := keepsTo4.1 e
          have := b1 i hi
          have := b2 j hj
          have d1 := (c1 _).2 k.1
          have d2 := (c2 _).2 k.2.1
          have d3 := (c3 _).2 k.2.2.1
          have d4 := (c4 _).2 k.2.2.2
          simp only [Shop.canM, Bool.and_eq_false_iff, decide_eq_false_iff_not] at hC
          omega
      rw [if_pos hz]; simp
def Shop.rkAt (s : Shop) (i j : Nat) : Int × Int := if i = 0 ∧ j = 0 then (0, 0) else s.knIn i (s.knOut i) j
theorem rk_step {s : Shop} (hs : s.chk = true) {i j : Nat} (hi : allI s.knRow i = true) (hj : allI (s.hitAt i) j = true) (hn : 0 < s.nA) (hh : s.hitAt i j = true) :
    (i = 0 ∧ j = 0 → s.rkAt i (j + 1) = (min (s.penAt i j) (s.penAt i j), max (s.penAt i j) (s.penAt i j))) ∧ (¬ (i = 0 ∧ j = 0) → s.rkAt i (j + 1) = (min (s.rkAt i j).1 (s.penAt i j), max (s.rkAt i j).2 (s.penAt i j))) := by
  constructor
  · rintro ⟨rfl, rfl⟩
    unfold Shop.rkAt
    rw [if_neg (by omega)]
    simp [Shop.knIn, Shop.knOut, stepK]
  · intro h
    unfold Shop.rkAt
    rw [if_neg (by omega), if_neg h]
    have h1 := knIn_in hs (knOut_in hs hi) hj
    have h2 : 0 ≤ (s.knIn i (s.knOut i) j).1 := by
      rcases h1 with ⟨g, _⟩ | ⟨g, _⟩
      · exfalso
        by_cases e : i = 0
        · exact g (s.penAt i 0) (.inr ⟨0, by omega, rfl⟩)
        · exact g (s.penAt 0 0) (.inl ⟨0, by omega, 0, hn, rfl⟩)
      · exact g
    simp only [Shop.knIn, stepK]
    rw [if_neg (by omega)]
theorem rk_row {s : Shop} {i : Nat} (hn : 0 < s.nA) : s.rkAt (i + 1) 0 = s.rkAt i s.nA := by
  unfold Shop.rkAt
  rw [if_neg (by omega), if_neg (by omega)]
  rfl
end Go.Flong
namespace Go.Flong
open Go Go.Eng Go.Proofs
theorem e92 : Enters' Try.prog 92 := Try.call92
theorem e91 : Enters' Try.prog 91 := Try.call91
theorem R101 : RowT Try.prog 101 29 1 24 [.slice none 0 0] := ⟨Try.underlying101, ⟨Try.t29, _, by kernel_rfl, rfl, rfl, rfl, rfl⟩, rfl, by decide⟩
theorem e96 : Enters' Try.prog 96 := Try.call96
theorem L101 : IsSl Try.prog 101 29 1 := ⟨Try.underlying101, Try.sizeOf29⟩
theorem e99 : Enters' Try.prog 99 := Try.call99
theorem e65 : Enters' Try.prog 65 := Try.call65
theorem e61 : Enters' Try.prog 61 := Try.call61
theorem e34 : Enters' Try.prog 34 := Try.call34
theorem e59 : Enters' Try.prog 59 := Try.call59
theorem e51 : Enters' Try.prog 51 := Try.call51
theorem w54 {s : Shop} {p : Po} : ∀ x ∈ ([.e (.g [ai (s.pounds), ai (s.tl), ai (s.th), ai (s.al), ai (s.ah), ai (s.room), ai (s.tpl), ai (s.tph), ai (s.apl), ai (s.aph), .q 0]), .e (.g [ai (p.pounds), ai (p.tl), ai (p.th), ai (p.al), ai (p.ah)])] : List SV), x.res (keys (α := Pred) [(0, PL EPig (s.pigs))]) := by simp [SV.res, El.res, At.res, keys]
theorem r54 {s : Shop} {p : Po} : SV.res (keys (α := Pred) []) (.t [.g [ai ((s.mMix p).pounds), ai ((s.mMix p).tl), ai ((s.mMix p).th), ai ((s.mMix p).al), ai ((s.mMix p).ah)], .a (ai (opE s (isMix s p)))]) := by simp [SV.res, El.res, At.res, keys]
set_option maxHeartbeats 4000000 in
theorem c54 (s : Shop) (p : Po)  : Sig Try.prog 54 [.e (.g [ai (s.pounds), ai (s.tl), ai (s.th), ai (s.al), ai (s.ah), ai (s.room), ai (s.tpl), ai (s.tph), ai (s.apl), ai (s.aph), .q 0]), .e (.g [ai (p.pounds), ai (p.tl), ai (p.th), ai (p.al), ai (p.ah)])] [(0, PL EPig (s.pigs))] (.t [.g [ai ((s.mMix p).pounds), ai ((s.mMix p).tl), ai ((s.mMix p).th), ai ((s.mMix p).al), ai ((s.mMix p).ah)], .a (ai (opE s (isMix s p)))]) [] := by
  refine Sig.intro Try.func54 rfl 1 [(0, .e (.g [ai (s.pounds), ai (s.tl), ai (s.th), ai (s.al), ai (s.ah), ai (s.room), ai (s.tpl), ai (s.tph), ai (s.apl), ai (s.aph), .q 0])), (1, .e (.g [ai (p.pounds), ai (p.tl), ai (p.th), ai (p.al), ai (p.ah)]))] rfl w54 rfl rfl fun I w => ?_
  refine WP.seq ?_
  refine WP.region ?_
  refine WPl.l 1 2 rfl rfl rfl (o_boxg rfl) ?_
  refine WPl.l 2 3 rfl rfl rfl (o_boxg rfl) ?_
  refine WPl.l 3 4 rfl rfl rfl (o_alloc Z25) ?_
  refine WPl.v rfl (o_assign rfl) ?_
  refine WPl.nil ?_
  refine EX.then ?_
  refine WP.seq ?_
  refine WP.seq ?_
  refine WP.region ?_
  refine WPl.v rfl (o_ldpa G28 rfl rfl rfl) ?_
  refine WPl.cs 4 rfl rfl rfl rfl (o_sig 4 (ren [(0, 0)]) (c39 s) e39 rfl rfl rfl w39 ⟨(lx rfl), trivial⟩ r39) ?_
  refine WPl.v rfl (o_assign rfl) ?_
  refine WPl.nil ?_
  refine EX.then ?_
  refine WP.seq ?_
  refine WP.region ?_
  refine WPl.v rfl (o_move rfl) ?_
  refine WPl.v rfl (o_neq rfl rfl) ?_
  refine WPl.nil ?_
  refine EX.then ?_
  refine WP.cond rfl (fun hc1 => ?_) (fun hc1 => ?_)
  · try simp only [decide_eq_true_eq, decide_eq_false_iff_not, Bool.and_eq_true, Bool.or_eq_true, Bool.and_eq_false_iff, Bool.or_eq_false_iff, Bool.not_eq_true', Bool.not_eq_false', ne_eq, Decidable.not_not] at hc1
    refine WP.seq ?_
    refine WP.region ?_
    refine WPl.v rfl (o_build B25 rfl trivial rfl rfl) ?_
    refine WPl.v rfl (o_move rfl) ?_
    refine WPl.s1 (o_stag G25 rfl rfl rfl ⟨rfl, rfl, rfl, rfl, rfl, trivial⟩ rfl rfl) ?_
    refine WPl.v rfl (o_assign rfl) ?_
    refine WPl.nil ?_
    refine EX.then ?_
    refine WP.ret ?_
    refine EX.ret_then ?_
    have hE : opE s (isMix s p) = errM s.chk := ask0 (by simpa using hc1)
    rw [hE, show s.mMix p = po0 from if_neg (by rw [hE]; simpa using hc1)]
    exact EX.fin id (.inl rfl) rfl (.cellg G25 rfl rfl rfl (.tmp rfl .nil)) rfl (by simp [SV.res, El.res, At.res, keys]) trivial (by simp) (by simp)
  · try simp only [decide_eq_true_eq, decide_eq_false_iff_not, Bool.and_eq_true, Bool.or_eq_true, Bool.and_eq_false_iff, Bool.or_eq_false_iff, Bool.not_eq_true', Bool.not_eq_false', ne_eq, Decidable.not_not] at hc1
    have hs : s.chk = true := errM_eq.1 (by simpa using hc1)
    have htb := tl_bnd hs
    refine WP.skip ?_
    refine EX.then ?_
    refine WP.seq ?_
    refine WP.seq ?_
    refine WP.region ?_
    refine WPl.v rfl (o_ldpa G25 rfl rfl rfl) ?_
    refine WPl.cs 4 rfl rfl rfl rfl (o_sig 4 id (c55 p.pounds p.tl p.th p.al p.ah) e55 rfl rfl rfl w55 trivial r55) ?_
    refine WPl.v rfl (o_not rfl) ?_
    refine WPl.v rfl (o_move rfl) ?_
    refine WPl.bit 4 5 (!(!(isPot p.pounds p.tl p.th p.al p.ah))) rfl rfl ?_
    refine WPl.gv 4 rfl rfl (.plain rfl (by simp) rfl) (fun hb => o_fldp F28_0 rfl) ?_
    refine WPl.gv 4 rfl rfl (.plain rfl (by simp) rfl) (fun hb => o_fldp F25_0 rfl) ?_
    refine WPl.gv 4 rfl rfl (.plain rfl (by simp) rfl) (fun hb => o_ldp S3 rfl rfl rfl) ?_
    refine WPl.gv 4 rfl rfl (.plain rfl (by simp) rfl) (fun hb => o_fldp F25_0 rfl) ?_
    refine WPl.gv 4 rfl rfl (.plain rfl (by simp) rfl) (fun hb => o_ldp S3 rfl rfl rfl) ?_
    refine WPl.gv 4 rfl rfl (.plain rfl (by simp) rfl) (fun hb => o_add rfl rfl (by have := potB (by simpa using hb); omega) (by have := potB (by simpa using hb); omega)) ?_
    refine WPl.gv 4 rfl rfl (.plain rfl (by simp) rfl) (fun hb => o_fldp F28_1 rfl) ?_
    refine WPl.gv 4 rfl rfl (.plain rfl (by simp) rfl) (fun hb => o_ldp S3 rfl rfl rfl) ?_
    refine WPl.gv 4 rfl rfl (.plain rfl (by simp) rfl) (fun hb => o_gtr rfl rfl) ?_
    refine WPl.v rfl (o_or rfl rfl rfl (by first | (simp; done) | simp_all)) ?_
    refine WPl.nil ?_
    refine EX.then ?_
    refine WP.cond rfl (fun hc2 => ?_) (fun hc2 => ?_)
    · try simp only [decide_eq_true_eq, decide_eq_false_iff_not, Bool.and_eq_true, Bool.or_eq_true, Bool.and_eq_false_iff, Bool.or_eq_false_iff, Bool.not_eq_true', Bool.not_eq_false', ne_eq, Decidable.not_not] at hc2
      have hm0 : isMix s p = false := by
        unfold isMix
        rcases hc2 with h | h
        · rw [h]; rfl
        · rw [decide_eq_false (by omega), Bool.and_false]
      refine WP.seq ?_
      refine WP.region ?_
      refine WPl.v rfl (o_build B25 rfl trivial rfl rfl) ?_
      refine WPl.s1 (o_stag G25 rfl rfl rfl ⟨rfl, rfl, rfl, rfl, rfl, trivial⟩ rfl rfl) ?_
      refine WPl.v rfl (o_assign rfl) ?_
      refine WPl.nil ?_
      refine EX.then ?_
      refine WP.ret ?_
      refine EX.ret_then ?_
      have hE : opE s (isMix s p) = 1 := by rw [opE_t hs, hm0]; rfl
      rw [hE, show s.mMix p = po0 from if_neg (by rw [hE]; decide)]
      exact EX.fin id (.inl rfl) rfl (.cellg G25 rfl rfl rfl (.tmp rfl .nil)) rfl (by simp [SV.res, El.res, At.res, keys]) trivial (by simp) (by simp)
    · try simp only [decide_eq_true_eq, decide_eq_false_iff_not, Bool.and_eq_true, Bool.or_eq_true, Bool.and_eq_false_iff, Bool.or_eq_false_iff, Bool.not_eq_true', Bool.not_eq_false', ne_eq, Decidable.not_not] at hc2
      have hm : isMix s p = true := by unfold isMix; rw [Bool.and_eq_true, decide_eq_true_eq]; exact ⟨hc2.1, by omega⟩
      have hmb := isMixB hm
      refine WP.skip ?_
      refine EX.then ?_
      refine WP.seq ?_
      refine WP.region ?_
      refine WPl.v rfl (o_fldp F28_0 rfl) ?_
      refine WPl.v rfl (o_fldp F25_0 rfl) ?_
      refine WPl.v rfl (o_ldp S3 rfl rfl rfl) ?_
      refine WPl.v rfl (o_fldp F25_0 rfl) ?_
      refine WPl.v rfl (o_ldp S3 rfl rfl rfl) ?_
      refine WPl.v rfl (o_add rfl rfl (by first | omega | (simp; omega)) (by first | omega | (simp; omega))) ?_
      refine WPl.v rfl (o_fldp F28_0 rfl) ?_
      refine WPl.v rfl (o_fldp F25_1 rfl) ?_
      refine WPl.v rfl (o_fldp F23_0 rfl) ?_
      refine WPl.v rfl (o_ldp S3 rfl rfl rfl) ?_
      refine WPl.v rfl (o_fldp F25_1 rfl) ?_
      refine WPl.v rfl (o_fldp F23_0 rfl) ?_
      refine WPl.v rfl (o_ldp S3 rfl rfl rfl) ?_
      refine WPl.v rfl (o_add rfl rfl (by first | omega | (simp; omega)) (by first | omega | (simp; omega))) ?_
      refine WPl.v rfl (o_fldp F28_0 rfl) ?_
      refine WPl.v rfl (o_fldp F25_1 rfl) ?_
      refine WPl.v rfl (o_fldp F23_1 rfl) ?_
      refine WPl.v rfl (o_ldp S3 rfl rfl rfl) ?_
      refine WPl.v rfl (o_fldp F25_1 rfl) ?_
      refine WPl.v rfl (o_fldp F23_1 rfl) ?_
      refine WPl.v rfl (o_ldp S3 rfl rfl rfl) ?_
      refine WPl.v rfl (o_add rfl rfl (by first | omega | (simp; omega)) (by first | omega | (simp; omega))) ?_
      refine WPl.v rfl (o_build B23 rfl ⟨rfl, rfl, trivial⟩ rfl rfl) ?_
      refine WPl.v rfl (o_fldp F28_0 rfl) ?_
      refine WPl.v rfl (o_fldp F25_2 rfl) ?_
      refine WPl.v rfl (o_fldp F23_0 rfl) ?_
      refine WPl.v rfl (o_ldp S3 rfl rfl rfl) ?_
      refine WPl.v rfl (o_fldp F25_2 rfl) ?_
      refine WPl.v rfl (o_fldp F23_0 rfl) ?_
      refine WPl.v rfl (o_ldp S3 rfl rfl rfl) ?_
      refine WPl.v rfl (o_add rfl rfl (by first | omega | (simp; omega)) (by first | omega | (simp; omega))) ?_
      refine WPl.v rfl (o_fldp F28_0 rfl) ?_
      refine WPl.v rfl (o_fldp F25_2 rfl) ?_
      refine WPl.v rfl (o_fldp F23_1 rfl) ?_
      refine WPl.v rfl (o_ldp S3 rfl rfl rfl) ?_
      refine WPl.v rfl (o_fldp F25_2 rfl) ?_
      refine WPl.v rfl (o_fldp F23_1 rfl) ?_
      refine WPl.v rfl (o_ldp S3 rfl rfl rfl) ?_
      refine WPl.v rfl (o_add rfl rfl (by first | omega | (simp; omega)) (by first | omega | (simp; omega))) ?_
      refine WPl.v rfl (o_build B23 rfl ⟨rfl, rfl, trivial⟩ rfl rfl) ?_
      refine WPl.v rfl (o_build B25 rfl ⟨rfl, trivial⟩ rfl rfl) ?_
      refine WPl.s1 (o_stag G25 rfl rfl rfl ⟨rfl, rfl, rfl, rfl, rfl, trivial⟩ rfl rfl) ?_
      refine WPl.v rfl (o_assign rfl) ?_
      refine WPl.nil ?_
      refine EX.then ?_
      refine WP.ret ?_
      have hE : opE s (isMix s p) = 0 := by rw [opE_t hs, hm]; rfl
      rw [hE, show s.mMix p = s.mixP p from if_pos hE]
      exact EX.fin id (.inl rfl) rfl (.cellg G25 rfl rfl rfl (.tmp rfl .nil)) rfl (by simp [SV.res, El.res, At.res, keys]) trivial (by simp) (by simp)
theorem w92 {s : Shop} {p : Po} : ∀ x ∈ ([.e (.g [ai (s.pounds), ai (s.tl), ai (s.th), ai (s.al), ai (s.ah), ai (s.room), ai (s.tpl), ai (s.tph), ai (s.apl), ai (s.aph), .q 0]), .e (.g [ai (p.pounds), ai (p.tl), ai (p.th), ai (p.al), ai (p.ah)])] : List SV), x.res (keys (α := Pred) [(0, PL EPig (s.pigs))]) := by simp [SV.res, El.res, At.res, keys]
theorem r92 {s : Shop} {p : Po} : SV.res (keys (α := Pred) [(0, PL EP.int (upN (s.failsP p) 4))]) (.e (.a (.q 0))) := by simp [SV.res, El.res, At.res, keys]
set_option maxHeartbeats 4000000 in
theorem c92 (s : Shop) (p : Po) (hs : s.chk = true) (hp : PoB p) (ht : p.tl ≤ p.th) (ha : p.al ≤ p.ah) : Sig Try.prog 92 [.e (.g [ai (s.pounds), ai (s.tl), ai (s.th), ai (s.al), ai (s.ah), ai (s.room), ai (s.tpl), ai (s.tph), ai (s.apl), ai (s.aph), .q 0]), .e (.g [ai (p.pounds), ai (p.tl), ai (p.th), ai (p.al), ai (p.ah)])] [(0, PL EPig (s.pigs))] (.e (.a (.q 0))) [(0, PL EP.int (upN (s.failsP p) 4))] := by
  have hpb := hp
  unfold PoB at hpb
  have hnT : p.nT = (p.th - p.tl + 1).toNat := rfl
  have hnA : p.nA = (p.ah - p.al + 1).toNat := rfl
  refine Sig.intro Try.func92 rfl 1 [(0, .e (.g [ai (s.pounds), ai (s.tl), ai (s.th), ai (s.al), ai (s.ah), ai (s.room), ai (s.tpl), ai (s.tph), ai (s.apl), ai (s.aph), .q 0])), (1, .e (.g [ai (p.pounds), ai (p.tl), ai (p.th), ai (p.al), ai (p.ah)]))] rfl w92 rfl rfl fun I w => ?_
  refine WP.seq ?_
  refine WP.region ?_
  refine WPl.l 1 2 rfl rfl rfl (o_boxg rfl) ?_
  refine WPl.l 2 3 rfl rfl rfl (o_boxg rfl) ?_
  refine WPl.v rfl (o_assign rfl) ?_
  refine WPl.nil ?_
  refine EX.then ?_
  refine WP.seq ?_
  refine WP.region ?_
  refine WPl.v rfl (o_assign rfl) ?_
  refine WPl.imp (Imp.namo EP.int 3 4 3 rfl rfl) ?_
  refine WPl.imp (Imp.swF 5 3 rfl (lx rfl)) ?_
  refine WPl.nil ?_
  refine EX.then ?_
  refine WP.seq ?_
  refine WP.seq ?_
  refine WP.region ?_
  refine WPl.v rfl (o_assign rfl) ?_
  refine WPl.nil ?_
  refine EX.then ?_
  refine WP.block ?_
  refine WP.loop (Gh := Nat) (fun n => ⟨4, [(2, .e (.a (.p 1 (0)))), (3, .e (.a (.p 2 (0)))), (4, .e (.a (.v (.slice none 0 0)))), (5, .e (.a (.q 3))), (6, .i (((n : Int) + 1)))], [(0, PL EPig (s.pigs))], [(1, .blk [ai (s.pounds), ai (s.tl), ai (s.th), ai (s.al), ai (s.ah), ai (s.room), ai (s.tpl), ai (s.tph), ai (s.apl), ai (s.aph), .q 0] 28), (2, .blk [ai (p.pounds), ai (p.tl), ai (p.th), ai (p.al), ai (p.ah)] 25), (3, .own 3 EP.int.size (upN (s.failsP p) n).length (RP EP.int (upN (s.failsP p) n)))], [], []⟩) (fun n => n ≤ 4) (fun n => 4 - n) (0) id ?_ (LeR.of ⟨rfl, rfl, rfl, rfl, rfl, trivial⟩ ⟨(lx rfl), trivial⟩ ⟨rfl, rfl, rfl, trivial⟩ rfl rfl rfl rfl rfl) ?_
  · first | trivial | omega | (constructor <;> omega) | simp
  intro n hφ
  have hn : n ≤ 4 := hφ
  refine WP.seq ?_
  refine WP.seq ?_
  refine WP.region ?_
  refine WPl.v rfl (o_move rfl) ?_
  refine WPl.v rfl (o_leq rfl rfl) ?_
  refine WPl.nil ?_
  refine EX.then ?_
  refine WP.cond rfl (fun hc1 => ?_) (fun hc1 => ?_)
  · try simp only [decide_eq_true_eq, decide_eq_false_iff_not, Bool.and_eq_true, Bool.or_eq_true, Bool.and_eq_false_iff, Bool.or_eq_false_iff, Bool.not_eq_true', Bool.not_eq_false', ne_eq, Decidable.not_not] at hc1
    refine WP.skip ?_
    refine EX.then ?_
    refine WP.seq ?_
    refine WP.block ?_
    refine WP.seq ?_
    refine WP.region ?_
    refine WPl.v rfl (o_assign rfl) ?_
    refine WPl.nil ?_
    refine EX.then ?_
    refine WP.seq ?_
    refine WP.seq ?_
    refine WP.region ?_
    refine WPl.v rfl (o_fldp F25_1 rfl) ?_
    refine WPl.v rfl (o_fldp F23_0 rfl) ?_
    refine WPl.v rfl (o_ldp S3 rfl rfl rfl) ?_
    refine WPl.v rfl (o_assign rfl) ?_
    refine WPl.nil ?_
    refine EX.then ?_
    refine WP.block ?_
    refine WP.loop (Gh := Nat) (fun i => ⟨4, [(2, .e (.a (.p 1 (0)))), (3, .e (.a (.p 2 (0)))), (4, .e (.a (.v (.slice none 0 0)))), (5, .e (.a (.q 3))), (6, .i (((n : Int) + 1))), (10, .i (((n : Int) + 1))), (11, .b (decide (((n : Int) + 1) ≤ 4))), (7, .b (!keepAll s ((n : Int) + 1) p.pounds p.tl p.al p.nA i)), (14, .e (.a (.p 2 (1)))), (15, .e (.a (.p 2 (1)))), (16, .i (p.tl)), (8, .i (p.tl + (i : Int)))], [(0, PL EPig (s.pigs))], [(1, .blk [ai (s.pounds), ai (s.tl), ai (s.th), ai (s.al), ai (s.ah), ai (s.room), ai (s.tpl), ai (s.tph), ai (s.apl), ai (s.aph), .q 0] 28), (2, .blk [ai (p.pounds), ai (p.tl), ai (p.th), ai (p.al), ai (p.ah)] 25), (3, .own 3 EP.int.size (upN (s.failsP p) n).length (RP EP.int (upN (s.failsP p) n)))], [], []⟩) (fun i => i ≤ p.nT) (fun i => p.nT - i) (0) id ?_ (LeR.of ⟨rfl, rfl, rfl, rfl, rfl, rfl, rfl, rfl, rfl, rfl, rfl, (congrArg (fun z => some (SV.i z)) (show (p.tl) = ((fun i => p.tl + (i : Int)) 0) from by simp)), trivial⟩ ⟨(lx rfl), trivial⟩ ⟨rfl, rfl, rfl, trivial⟩ rfl rfl rfl rfl rfl) ?_
    · first | trivial | omega | (constructor <;> omega) | simp
    intro i hφ
    have hi : i ≤ p.nT := hφ
    refine WP.seq ?_
    refine WP.seq ?_
    refine WP.region ?_
    refine WPl.v rfl (o_move rfl) ?_
    refine WPl.v rfl (o_fldp F25_1 rfl) ?_
    refine WPl.v rfl (o_fldp F23_1 rfl) ?_
    refine WPl.v rfl (o_ldp S3 rfl rfl rfl) ?_
    refine WPl.v rfl (o_leq rfl rfl) ?_
    refine WPl.nil ?_
    refine EX.then ?_
    refine WP.cond rfl (fun hc2 => ?_) (fun hc2 => ?_)
    · try simp only [decide_eq_true_eq, decide_eq_false_iff_not, Bool.and_eq_true, Bool.or_eq_true, Bool.and_eq_false_iff, Bool.or_eq_false_iff, Bool.not_eq_true', Bool.not_eq_false', ne_eq, Decidable.not_not] at hc2
      refine WP.skip ?_
      refine EX.then ?_
      refine WP.seq ?_
      refine WP.block ?_
      refine WP.seq ?_
      refine WP.region ?_
      refine WPl.v rfl (o_fldp F25_2 rfl) ?_
      refine WPl.v rfl (o_fldp F23_0 rfl) ?_
      refine WPl.v rfl (o_ldp S3 rfl rfl rfl) ?_
      refine WPl.v rfl (o_assign rfl) ?_
      refine WPl.nil ?_
      refine EX.then ?_
      refine WP.block ?_
      refine WP.loop (Gh := Nat) (fun j => ⟨4, [(2, .e (.a (.p 1 (0)))), (3, .e (.a (.p 2 (0)))), (4, .e (.a (.v (.slice none 0 0)))), (5, .e (.a (.q 3))), (6, .i (((n : Int) + 1))), (10, .i (((n : Int) + 1))), (11, .b (decide (((n : Int) + 1) ≤ 4))), (7, .b (!(keepAll s ((n : Int) + 1) p.pounds p.tl p.al p.nA i && keepRow s ((n : Int) + 1) p.pounds (p.tl + (i : Int)) p.al j))), (14, .e (.a (.p 2 (1)))), (15, .e (.a (.p 2 (1)))), (16, .i (p.tl)), (8, .i (p.tl + (i : Int))), (17, .i (p.tl + (i : Int))), (18, .e (.a (.p 2 (1)))), (19, .e (.a (.p 2 (2)))), (20, .i (p.th)), (21, .b (decide ((p.tl + (i : Int)) ≤ p.th))), (24, .e (.a (.p 2 (3)))), (25, .e (.a (.p 2 (3)))), (26, .i (p.al)), (9, .i (p.al + (j : Int)))], [(0, PL EPig (s.pigs))], [(1, .blk [ai (s.pounds), ai (s.tl), ai (s.th), ai (s.al), ai (s.ah), ai (s.room), ai (s.tpl), ai (s.tph), ai (s.apl), ai (s.aph), .q 0] 28), (2, .blk [ai (p.pounds), ai (p.tl), ai (p.th), ai (p.al), ai (p.ah)] 25), (3, .own 3 EP.int.size (upN (s.failsP p) n).length (RP EP.int (upN (s.failsP p) n)))], [], []⟩) (fun j => j ≤ p.nA) (fun j => p.nA - j) (0) id ?_ (LeR.of ⟨rfl, rfl, rfl, rfl, rfl, rfl, rfl, (congrArg (fun z => some (SV.b z)) (show (!keepAll s ((n : Int) + 1) p.pounds p.tl p.al p.nA i) = ((fun j => !(keepAll s ((n : Int) + 1) p.pounds p.tl p.al p.nA i && keepRow s ((n : Int) + 1) p.pounds (p.tl + (i : Int)) p.al j)) 0) from by simp [keepRow, allI])), rfl, rfl, rfl, rfl, rfl, rfl, rfl, rfl, rfl, rfl, rfl, rfl, (congrArg (fun z => some (SV.i z)) (show (p.al) = ((fun j => p.al + (j : Int)) 0) from by simp)), trivial⟩ ⟨(lx rfl), trivial⟩ ⟨rfl, rfl, rfl, trivial⟩ rfl rfl rfl rfl rfl) ?_
      · first | trivial | omega | (constructor <;> omega) | simp
      intro j hφ
      have hj : j ≤ p.nA := hφ
      refine WP.seq ?_
      refine WP.seq ?_
      refine WP.region ?_
      refine WPl.v rfl (o_move rfl) ?_
      refine WPl.v rfl (o_fldp F25_2 rfl) ?_
      refine WPl.v rfl (o_fldp F23_1 rfl) ?_
      refine WPl.v rfl (o_ldp S3 rfl rfl rfl) ?_
      refine WPl.v rfl (o_leq rfl rfl) ?_
      refine WPl.nil ?_
      refine EX.then ?_
      refine WP.cond rfl (fun hc3 => ?_) (fun hc3 => ?_)
      · try simp only [decide_eq_true_eq, decide_eq_false_iff_not, Bool.and_eq_true, Bool.or_eq_true, Bool.and_eq_false_iff, Bool.or_eq_false_iff, Bool.not_eq_true', Bool.not_eq_false', ne_eq, Decidable.not_not] at hc3
        refine WP.skip ?_
        refine EX.then ?_
        refine WP.seq ?_
        refine WP.block ?_
        refine WP.region ?_
        refine WPl.v rfl (o_move rfl) ?_
        refine WPl.v rfl (o_move rfl) ?_
        refine WPl.bit 4 5 (!(!(keepAll s ((n : Int) + 1) p.pounds p.tl p.al p.nA i && keepRow s ((n : Int) + 1) p.pounds (p.tl + (i : Int)) p.al j))) rfl rfl ?_
        refine WPl.gv 4 rfl rfl (.plain rfl (by simp) rfl) (fun hb => o_ldpa G28 rfl rfl rfl) ?_
        refine WPl.gv 4 rfl rfl (.plain rfl (by simp) rfl) (fun hb => o_move rfl) ?_
        refine WPl.gv 4 rfl rfl (.plain rfl (by simp) rfl) (fun hb => o_fldp F25_0 rfl) ?_
        refine WPl.gv 4 rfl rfl (.plain rfl (by simp) rfl) (fun hb => o_ldp S3 rfl rfl rfl) ?_
        refine WPl.gv 4 rfl rfl (.plain rfl (by simp) rfl) (fun hb => o_move rfl) ?_
        refine WPl.gv 4 rfl rfl (.plain rfl (by simp) rfl) (fun hb => o_move rfl) ?_
        refine WPl.gc0 4 rfl rfl (.plain rfl (by simp) rfl) (fun hb => o_sig 5 (ren [(0, 0)]) (c50 s ((n : Int) + 1) p.pounds (p.tl + (i : Int)) (p.al + (j : Int)) hs (by omega) (by omega) (by omega)) e50 rfl rfl rfl w50 ⟨(lx rfl), trivial⟩ r50) ?_
        refine WPl.gv 4 rfl rfl (.plain rfl (by simp) rfl) (fun hb => o_not rfl) ?_
        refine WPl.v rfl (o_or rfl rfl rfl (by first | (simp; done) | simp_all)) ?_
        refine WPl.v rfl (o_assign rfl) ?_
        refine WPl.nil ?_
        refine EX.blk ?_
        refine EX.then ?_
        refine WP.region ?_
        refine WPl.v rfl (o_move rfl) ?_
        refine WPl.v rfl (o_add rfl rfl (by first | omega | (simp; omega)) (by first | omega | (simp; omega))) ?_
        refine WPl.v rfl (o_assign rfl) ?_
        refine WPl.nil ?_
        refine EX.again (j + 1) id (by first | omega | (constructor <;> omega)) (by omega) (LeR.of ⟨rfl, rfl, rfl, rfl, rfl, rfl, rfl, (congrArg (fun z => some (SV.b z)) (show ((!(keepAll s ((n : Int) + 1) p.pounds p.tl p.al p.nA i && keepRow s ((n : Int) + 1) p.pounds (p.tl + (i : Int)) p.al j)) || (!(keeps1 s ((n : Int) + 1) p.pounds (p.tl + (i : Int)) (p.al + (j : Int))))) = ((fun j => !(keepAll s ((n : Int) + 1) p.pounds p.tl p.al p.nA i && keepRow s ((n : Int) + 1) p.pounds (p.tl + (i : Int)) p.al j)) (j + 1)) from orn _ _ _)), rfl, rfl, rfl, rfl, rfl, rfl, rfl, rfl, rfl, rfl, rfl, rfl, (congrArg (fun z => some (SV.i z)) (show ((p.al + (j : Int)) + 1) = ((fun j => p.al + (j : Int)) (j + 1)) from by show p.al + (j : Int) + 1 = p.al + ((j + 1 : Nat) : Int); omega)), trivial⟩ ⟨(lx rfl), trivial⟩ ⟨rfl, rfl, rfl, trivial⟩ rfl rfl rfl rfl rfl)
      · try simp only [decide_eq_true_eq, decide_eq_false_iff_not, Bool.and_eq_true, Bool.or_eq_true, Bool.and_eq_false_iff, Bool.or_eq_false_iff, Bool.not_eq_true', Bool.not_eq_false', ne_eq, Decidable.not_not] at hc3
        refine WP.exit ?_
        refine EX.exit_then ?_
        refine EX.exit_then ?_
        refine EX.exit_blk ?_
        refine EX.blk ?_
        refine EX.then ?_
        refine WP.region ?_
        refine WPl.v rfl (o_move rfl) ?_
        refine WPl.v rfl (o_add rfl rfl (by first | omega | (simp; omega)) (by first | omega | (simp; omega))) ?_
        refine WPl.v rfl (o_assign rfl) ?_
        refine WPl.nil ?_
        refine EX.again (i + 1) id (by first | omega | (constructor <;> omega)) (by omega) (LeR.of ⟨rfl, rfl, rfl, rfl, rfl, rfl, rfl, (congrArg (fun z => some (SV.b z)) (show (!(keepAll s ((n : Int) + 1) p.pounds p.tl p.al p.nA i && keepRow s ((n : Int) + 1) p.pounds (p.tl + (i : Int)) p.al j)) = ((fun i => !keepAll s ((n : Int) + 1) p.pounds p.tl p.al p.nA i) (i + 1)) from by rw [show j = p.nA by omega]; rfl)), rfl, rfl, rfl, (congrArg (fun z => some (SV.i z)) (show ((p.tl + (i : Int)) + 1) = ((fun i => p.tl + (i : Int)) (i + 1)) from by show p.tl + (i : Int) + 1 = p.tl + ((i + 1 : Nat) : Int); omega)), trivial⟩ ⟨(lx rfl), trivial⟩ ⟨rfl, rfl, rfl, trivial⟩ rfl rfl rfl rfl rfl)
    · try simp only [decide_eq_true_eq, decide_eq_false_iff_not, Bool.and_eq_true, Bool.or_eq_true, Bool.and_eq_false_iff, Bool.or_eq_false_iff, Bool.not_eq_true', Bool.not_eq_false', ne_eq, Decidable.not_not] at hc2
      refine WP.exit ?_
      refine EX.exit_then ?_
      refine EX.exit_then ?_
      refine EX.exit_blk ?_
      refine EX.then ?_
      refine WP.seq ?_
      refine WP.region ?_
      refine WPl.v rfl (o_move rfl) ?_
      refine WPl.nil ?_
      refine EX.then ?_
      refine WP.cond rfl (fun hc4 => ?_) (fun hc4 => ?_)
      · try simp only [decide_eq_true_eq, decide_eq_false_iff_not, Bool.and_eq_true, Bool.or_eq_true, Bool.and_eq_false_iff, Bool.or_eq_false_iff, Bool.not_eq_true', Bool.not_eq_false', ne_eq, Decidable.not_not] at hc4
        have hie : i = p.nT := by omega
        have hfp : s.failsP p ((n : Int) + 1) = true := by rw [← keepAll_iff (by omega) (by omega) ht ha, ← hie, hc4]; rfl
        refine WP.region ?_
        refine WPl.v rfl (o_move rfl) ?_
        refine WPl.v rfl (o_move rfl) ?_
        refine WPl.l 4 5 rfl rfl rfl (o_bsl (E := EP.int) (l := [((n : Int) + 1)]) R29 rfl rfl (.cons (rfl) rfl (eok_int) (.nil)) rfl rfl) ?_
        refine WPl.u1 (k := 5) (m := 6) rfl rfl rfl (o_appo R29 EP.int_one rfl rfl rfl rfl (by have := upN_len (s.failsP p) n; first | omega | (simp; omega)) (by have := upN_len (s.failsP p) n; first | omega | (simp; omega))) ?_
        refine WPl.v rfl (o_assign rfl) ?_
        refine WPl.nil ?_
        refine EX.blk ?_
        refine EX.then ?_
        refine WP.region ?_
        refine WPl.v rfl (o_move rfl) ?_
        refine WPl.v rfl (o_add rfl rfl (by first | omega | (simp; omega)) (by first | omega | (simp; omega))) ?_
        refine WPl.v rfl (o_assign rfl) ?_
        refine WPl.nil ?_
        refine EX.again (n + 1) (ren [(3, 5)]) (by first | omega | (constructor <;> omega)) (by omega) (LeR.of ⟨rfl, rfl, rfl, rfl, (congrArg (fun z => some (SV.i z)) (show (((n : Int) + 1) + 1) = ((fun n => ((n : Int) + 1)) (n + 1)) from by show (n : Int) + 1 + 1 = ((n + 1 : Nat) : Int) + 1; omega)), trivial⟩ ⟨(lx rfl), trivial⟩ ⟨rfl, rfl, (congrArg (fun z => some (Ent.own 3 EP.int.size (List.length z) (RP EP.int z))) (show ((upN (s.failsP p) n) ++ [((n : Int) + 1)]) = ((fun n => upN (s.failsP p) n) (n + 1)) from by dsimp only; simp only [upN]; rw [if_pos hfp])), trivial⟩ rfl rfl rfl rfl rfl)
      · try simp only [decide_eq_true_eq, decide_eq_false_iff_not, Bool.and_eq_true, Bool.or_eq_true, Bool.and_eq_false_iff, Bool.or_eq_false_iff, Bool.not_eq_true', Bool.not_eq_false', ne_eq, Decidable.not_not] at hc4
        have hie : i = p.nT := by omega
        have hfp : s.failsP p ((n : Int) + 1) = false := by rw [← keepAll_iff (by omega) (by omega) ht ha, ← hie, hc4]; rfl
        refine WP.skip ?_
        refine EX.blk ?_
        refine EX.then ?_
        refine WP.region ?_
        refine WPl.v rfl (o_move rfl) ?_
        refine WPl.v rfl (o_add rfl rfl (by first | omega | (simp; omega)) (by first | omega | (simp; omega))) ?_
        refine WPl.v rfl (o_assign rfl) ?_
        refine WPl.nil ?_
        refine EX.again (n + 1) id (by first | omega | (constructor <;> omega)) (by omega) (LeR.of ⟨rfl, rfl, rfl, rfl, (congrArg (fun z => some (SV.i z)) (show (((n : Int) + 1) + 1) = ((fun n => ((n : Int) + 1)) (n + 1)) from by show (n : Int) + 1 + 1 = ((n + 1 : Nat) : Int) + 1; omega)), trivial⟩ ⟨(lx rfl), trivial⟩ ⟨rfl, rfl, (congrArg (fun z => some (Ent.own 3 EP.int.size (List.length z) (RP EP.int z))) (show (upN (s.failsP p) n) = ((fun n => upN (s.failsP p) n) (n + 1)) from by dsimp only; simp only [upN]; rw [if_neg (by rw [hfp]; simp)])), trivial⟩ rfl rfl rfl rfl rfl)
  · try simp only [decide_eq_true_eq, decide_eq_false_iff_not, Bool.and_eq_true, Bool.or_eq_true, Bool.and_eq_false_iff, Bool.or_eq_false_iff, Bool.not_eq_true', Bool.not_eq_false', ne_eq, Decidable.not_not] at hc1
    refine WP.exit ?_
    refine EX.exit_then ?_
    refine EX.exit_then ?_
    refine EX.exit_blk ?_
    refine EX.then ?_
    refine WP.seq ?_
    refine WP.region ?_
    refine WPl.v rfl (o_move rfl) ?_
    refine WPl.v rfl (o_assign rfl) ?_
    refine WPl.nil ?_
    refine EX.then ?_
    refine WP.ret ?_
    refine EX.imp (Imp.frz (E := EP.int) (l := upN (s.failsP p) n) 3 rfl rfl) ?_
    have hn4 : n = 4 := by omega
    subst hn4
    exact EX.fin (ren [(0, 3)]) (.inl rfl) rfl (.tmp rfl .nil) rfl (by simp [SV.res, El.res, At.res, keys]) ⟨(lx rfl), trivial⟩ (by simp) (by simp)
theorem w42 {s : Shop} {add : List Int} : ∀ x ∈ ([.e (.g [ai (s.pounds), ai (s.tl), ai (s.th), ai (s.al), ai (s.ah), ai (s.room), ai (s.tpl), ai (s.tph), ai (s.apl), ai (s.aph), .q 0]), .e (.a (.q 1))] : List SV), x.res (keys (α := Pred) [(0, PL EPig (s.pigs)), (1, PL EP.int (add))]) := by simp [SV.res, El.res, At.res, keys]
theorem r42 {s : Shop} {add : List Int} : SV.res (keys (α := Pred) [(0, PL EP.int (s.mFails add))]) (.t [.a (.q 0), .a (ai (opE s (isAdd s add)))]) := by simp [SV.res, El.res, At.res, keys]
set_option maxHeartbeats 4000000 in
theorem c42 (s : Shop) (add : List Int)  : Sig Try.prog 42 [.e (.g [ai (s.pounds), ai (s.tl), ai (s.th), ai (s.al), ai (s.ah), ai (s.room), ai (s.tpl), ai (s.tph), ai (s.apl), ai (s.aph), .q 0]), .e (.a (.q 1))] [(0, PL EPig (s.pigs)), (1, PL EP.int (add))] (.t [.a (.q 0), .a (ai (opE s (isAdd s add)))]) [(0, PL EP.int (s.mFails add))] := by
  refine Sig.intro Try.func42 rfl 2 [(0, .e (.g [ai (s.pounds), ai (s.tl), ai (s.th), ai (s.al), ai (s.ah), ai (s.room), ai (s.tpl), ai (s.tph), ai (s.apl), ai (s.aph), .q 0])), (1, .e (.a (.q 1)))] rfl w42 rfl rfl fun I w => ?_
  refine WP.seq ?_
  refine WP.region ?_
  refine WPl.l 2 3 rfl rfl rfl (o_boxg rfl) ?_
  refine WPl.v rfl (o_assign rfl) ?_
  refine WPl.v rfl (o_assign rfl) ?_
  refine WPl.nil ?_
  refine EX.then ?_
  refine WP.seq ?_
  refine WP.seq ?_
  refine WP.region ?_
  refine WPl.v rfl (o_ldpa G28 rfl rfl rfl) ?_
  refine WPl.v rfl (o_move rfl) ?_
  refine WPl.cs 3 rfl rfl rfl rfl (o_sig 3 (ren [(0, 0), (1, 1)]) (c83 s add) e83 rfl rfl rfl w83 ⟨(lx rfl), (lx rfl), trivial⟩ r83) ?_
  refine WPl.v rfl (o_assign rfl) ?_
  refine WPl.nil ?_
  refine EX.then ?_
  refine WP.seq ?_
  refine WP.region ?_
  refine WPl.v rfl (o_move rfl) ?_
  refine WPl.v rfl (o_neq rfl rfl) ?_
  refine WPl.nil ?_
  refine EX.then ?_
  refine WP.cond rfl (fun hc1 => ?_) (fun hc1 => ?_)
  · try simp only [decide_eq_true_eq, decide_eq_false_iff_not, Bool.and_eq_true, Bool.or_eq_true, Bool.and_eq_false_iff, Bool.or_eq_false_iff, Bool.not_eq_true', Bool.not_eq_false', ne_eq, Decidable.not_not] at hc1
    refine WP.seq ?_
    refine WP.region ?_
    refine WPl.v rfl (o_move rfl) ?_
    refine WPl.v rfl (o_assign rfl) ?_
    refine WPl.v rfl (o_assign rfl) ?_
    refine WPl.nil ?_
    refine EX.then ?_
    refine WP.ret ?_
    refine EX.ret_then ?_
    refine EX.imp (Imp.nam 3 4 (.slice none 0 0) (R := PN EP.int) pn_ok rfl rfl) ?_
    refine EX.imp (Imp.swF 4 3 rfl (lxr rfl)) ?_
    rw [show s.mFails add = [] from if_neg (by simpa using hc1)]
    exact EX.fin (ren [(0, 3)]) (.inl rfl) rfl (.tmp rfl (.tmp rfl .nil)) rfl (by simp [SV.res, El.res, At.res, keys]) ⟨lxl rfl, trivial⟩ (by simp) (by simp)
  · try simp only [decide_eq_true_eq, decide_eq_false_iff_not, Bool.and_eq_true, Bool.or_eq_true, Bool.and_eq_false_iff, Bool.or_eq_false_iff, Bool.not_eq_true', Bool.not_eq_false', ne_eq, Decidable.not_not] at hc1
    have hE : opE s (isAdd s add) = 0 := by simpa using hc1
    obtain ⟨hf, hv⟩ := opE_z hE
    have hpg := Shop.pigsOK hf
    have had := isAddB hpg hv
    have hab := aft_bnd hf (by omega) had.2.2
    have hab2 := hab
    unfold PoB at hab2
    have htb := tl_bnd hf
    have htl : (s.aft add).tl ≤ (s.aft add).th := by simp only [Shop.aft]; omega
    have hal : (s.aft add).al ≤ (s.aft add).ah := by simp only [Shop.aft]; omega
    refine WP.skip ?_
    refine EX.then ?_
    refine WP.seq ?_
    refine WP.draw (nf := 4) [⟨[14, 15, 16], [], [], [], []⟩, ⟨[13, 15], [], [], [], []⟩, ⟨[13, 14], [], [], [], []⟩, ⟨[13], [], [], [], [1, 2]⟩, ⟨[], [], [3], [3], [0, 1, 2, 3]⟩, ⟨[], [], [], [], [0, 1, 2, 3, 4]⟩, ⟨[], [], [], [], [0, 1, 2, 3, 4, 5]⟩] (by kernel_rfl) (by kernel_rfl) ?_
    refine DRQ.v rfl rfl rfl (o_ldpa G28 rfl rfl rfl) ?_
    refine DRQ.v rfl rfl rfl (o_ldpa G28 rfl rfl rfl) ?_
    refine DRQ.v rfl rfl rfl (o_move rfl) ?_
    refine DRQ.cs rfl rfl rfl rfl (o_sig 3 (ren [(0, 0), (1, 1)]) (c28 s add hf (by omega) had.2.2) e28 rfl rfl rfl w28 ⟨(lx rfl), (lx rfl), trivial⟩ r28) ?_
    refine DRQ.cs rfl rfl rfl rfl (o_sig 3 (ren [(0, 0)]) (c92 s (s.aft add) hf hab htl hal) e92 rfl rfl rfl w92 ⟨(lx rfl), trivial⟩ r92) ?_
    refine DRQ.v rfl rfl rfl (o_assign rfl) ?_
    refine DRQ.v rfl rfl rfl (o_assign rfl) ?_
    refine DRQ.nil' ?_
    refine EX.then ?_
    refine WP.ret ?_
    rw [mFails_up hE, hE]
    exact EX.fin (ren [(0, 3)]) (.inl rfl) rfl (.tmp rfl (.tmp rfl .nil)) rfl (by simp [SV.res, El.res, At.res, keys]) ⟨(lx rfl), trivial⟩ (by simp) (by simp)
theorem w41 {s : Shop} {add : List Int} : ∀ x ∈ ([.e (.g [ai (s.pounds), ai (s.tl), ai (s.th), ai (s.al), ai (s.ah), ai (s.room), ai (s.tpl), ai (s.tph), ai (s.apl), ai (s.aph), .q 0]), .e (.a (.q 1))] : List SV), x.res (keys (α := Pred) [(0, PL EPig (s.pigs)), (1, PL EP.int (add))]) := by simp [SV.res, El.res, At.res, keys]
theorem r41 {s : Shop} {add : List Int} : SV.res (keys (α := Pred) []) (.t [.a (ai (s.mSafe add)), .a (ai (opE s (isAdd s add)))]) := by simp [SV.res, El.res, At.res, keys]
set_option maxHeartbeats 4000000 in
theorem c41 (s : Shop) (add : List Int)  : Sig Try.prog 41 [.e (.g [ai (s.pounds), ai (s.tl), ai (s.th), ai (s.al), ai (s.ah), ai (s.room), ai (s.tpl), ai (s.tph), ai (s.apl), ai (s.aph), .q 0]), .e (.a (.q 1))] [(0, PL EPig (s.pigs)), (1, PL EP.int (add))] (.t [.a (ai (s.mSafe add)), .a (ai (opE s (isAdd s add)))]) [] := by
  refine Sig.intro Try.func41 rfl 2 [(0, .e (.g [ai (s.pounds), ai (s.tl), ai (s.th), ai (s.al), ai (s.ah), ai (s.room), ai (s.tpl), ai (s.tph), ai (s.apl), ai (s.aph), .q 0])), (1, .e (.a (.q 1)))] rfl w41 rfl rfl fun I w => ?_
  refine WP.seq ?_
  refine WP.region ?_
  refine WPl.l 2 3 rfl rfl rfl (o_boxg rfl) ?_
  refine WPl.v rfl (o_assign rfl) ?_
  refine WPl.v rfl (o_assign rfl) ?_
  refine WPl.nil ?_
  refine EX.then ?_
  refine WP.seq ?_
  refine WP.seq ?_
  refine WP.region ?_
  refine WPl.v rfl (o_ldpa G28 rfl rfl rfl) ?_
  refine WPl.v rfl (o_move rfl) ?_
  refine WPl.cs 3 rfl rfl rfl rfl (o_sig 3 (ren [(0, 0), (1, 1)]) (c83 s add) e83 rfl rfl rfl w83 ⟨(lx rfl), (lx rfl), trivial⟩ r83) ?_
  refine WPl.v rfl (o_assign rfl) ?_
  refine WPl.nil ?_
  refine EX.then ?_
  refine WP.seq ?_
  refine WP.region ?_
  refine WPl.v rfl (o_move rfl) ?_
  refine WPl.v rfl (o_neq rfl rfl) ?_
  refine WPl.nil ?_
  refine EX.then ?_
  refine WP.cond rfl (fun hc1 => ?_) (fun hc1 => ?_)
  · try simp only [decide_eq_true_eq, decide_eq_false_iff_not, Bool.and_eq_true, Bool.or_eq_true, Bool.and_eq_false_iff, Bool.or_eq_false_iff, Bool.not_eq_true', Bool.not_eq_false', ne_eq, Decidable.not_not] at hc1
    refine WP.seq ?_
    refine WP.region ?_
    refine WPl.v rfl (o_move rfl) ?_
    refine WPl.v rfl (o_assign rfl) ?_
    refine WPl.v rfl (o_assign rfl) ?_
    refine WPl.nil ?_
    refine EX.then ?_
    refine WP.ret ?_
    refine EX.ret_then ?_
    rw [show s.mSafe add = 0 from if_neg (by simpa using hc1)]
    exact EX.fin id (.inl rfl) rfl (.tmp rfl (.tmp rfl .nil)) rfl (by simp [SV.res, El.res, At.res, keys]) trivial (by simp) (by simp)
  · try simp only [decide_eq_true_eq, decide_eq_false_iff_not, Bool.and_eq_true, Bool.or_eq_true, Bool.and_eq_false_iff, Bool.or_eq_false_iff, Bool.not_eq_true', Bool.not_eq_false', ne_eq, Decidable.not_not] at hc1
    have hE : opE s (isAdd s add) = 0 := by simpa using hc1
    obtain ⟨hf, hv⟩ := opE_z hE
    have hpg := Shop.pigsOK hf
    have had := isAddB hpg hv
    have hab := aft_bnd hf (by omega) had.2.2
    have hab2 := hab
    unfold PoB at hab2
    have htb := tl_bnd hf
    have htl : (s.aft add).tl ≤ (s.aft add).th := by simp only [Shop.aft]; omega
    have hal : (s.aft add).al ≤ (s.aft add).ah := by simp only [Shop.aft]; omega
    have hnT : s.nT = (s.th - s.tl + 1).toNat := rfl
    have hnA : s.nA = (s.ah - s.al + 1).toNat := rfl
    have hth : (s.aft add).th = (s.aft add).tl + (s.th - s.tl) := by simp only [Shop.aft]; omega
    have hah : (s.aft add).ah = (s.aft add).al + (s.ah - s.al) := by simp only [Shop.aft]; omega
    have hnA4 : s.nA ≤ 401 := by omega
    refine WP.skip ?_
    refine EX.then ?_
    refine WP.seq ?_
    refine WP.region ?_
    refine WPl.v rfl (o_ldpa G28 rfl rfl rfl) ?_
    refine WPl.v rfl (o_move rfl) ?_
    refine WPl.cs 3 rfl rfl rfl rfl (o_sig 3 (ren [(0, 0), (1, 1)]) (c28 s add hf (by omega) had.2.2) e28 rfl rfl rfl w28 ⟨(lx rfl), (lx rfl), trivial⟩ r28) ?_
    refine WPl.l 3 4 rfl rfl rfl (o_alloc Z25) ?_
    refine WPl.s1 (o_stag G25 rfl rfl rfl ⟨rfl, rfl, rfl, rfl, rfl, trivial⟩ rfl rfl) ?_
    refine WPl.nil ?_
    refine EX.then ?_
    refine WP.seq ?_
    refine WP.region ?_
    refine WPl.v rfl (o_assign rfl) ?_
    refine WPl.v rfl (o_assign rfl) ?_
    refine WPl.nil ?_
    refine EX.then ?_
    refine WP.seq ?_
    refine WP.seq ?_
    refine WP.region ?_
    refine WPl.v rfl (o_fldp F25_1 rfl) ?_
    refine WPl.v rfl (o_fldp F23_0 rfl) ?_
    refine WPl.v rfl (o_ldp S3 rfl rfl rfl) ?_
    refine WPl.v rfl (o_assign rfl) ?_
    refine WPl.nil ?_
    refine EX.then ?_
    refine WP.block ?_
    refine WP.loop (Gh := Nat) (fun i => ⟨4, [(2, .e (.a (.p 2 (0)))), (4, .i (0)), (5, .i (0)), (7, .e (.a (.p 3 (0)))), (8, .i (soAll s (s.aft add).pounds (s.aft add).tl (s.aft add).al s.nA i)), (9, .i (allN s.nA i)), (10, .i ((s.aft add).tl + (i : Int)))], [(0, PL EPig (s.pigs))], [(2, .blk [ai (s.pounds), ai (s.tl), ai (s.th), ai (s.al), ai (s.ah), ai (s.room), ai (s.tpl), ai (s.tph), ai (s.apl), ai (s.aph), .q 0] 28), (3, .blk [ai ((s.aft add).pounds), ai ((s.aft add).tl), ai ((s.aft add).th), ai ((s.aft add).al), ai ((s.aft add).ah)] 25)], [], []⟩) (fun i => i ≤ s.nT) (fun i => s.nT - i) (0) id ?_ (LeR.of ⟨rfl, rfl, rfl, rfl, rfl, rfl, (congrArg (fun z => some (SV.i z)) (show ((s.aft add).tl) = ((fun i => (s.aft add).tl + (i : Int)) 0) from by simp)), trivial⟩ ⟨(lx rfl), trivial⟩ ⟨rfl, rfl, trivial⟩ rfl rfl rfl rfl rfl) ?_
    · first | trivial | omega | (constructor <;> omega) | simp
    intro i hφ
    have hi : i ≤ s.nT := hφ
    have hsb := soAll_bnd s (s.aft add).pounds (s.aft add).tl (s.aft add).al s.nA i
    have hab3 := allN_bnd hnA4 i
    refine WP.seq ?_
    refine WP.seq ?_
    refine WP.region ?_
    refine WPl.v rfl (o_move rfl) ?_
    refine WPl.v rfl (o_fldp F25_1 rfl) ?_
    refine WPl.v rfl (o_fldp F23_1 rfl) ?_
    refine WPl.v rfl (o_ldp S3 rfl rfl rfl) ?_
    refine WPl.v rfl (o_leq rfl rfl) ?_
    refine WPl.nil ?_
    refine EX.then ?_
    refine WP.cond rfl (fun hc2 => ?_) (fun hc2 => ?_)
    · try simp only [decide_eq_true_eq, decide_eq_false_iff_not, Bool.and_eq_true, Bool.or_eq_true, Bool.and_eq_false_iff, Bool.or_eq_false_iff, Bool.not_eq_true', Bool.not_eq_false', ne_eq, Decidable.not_not] at hc2
      refine WP.skip ?_
      refine EX.then ?_
      refine WP.seq ?_
      refine WP.block ?_
      refine WP.seq ?_
      refine WP.region ?_
      refine WPl.v rfl (o_fldp F25_2 rfl) ?_
      refine WPl.v rfl (o_fldp F23_0 rfl) ?_
      refine WPl.v rfl (o_ldp S3 rfl rfl rfl) ?_
      refine WPl.v rfl (o_assign rfl) ?_
      refine WPl.nil ?_
      refine EX.then ?_
      refine WP.block ?_
      refine WP.loop (Gh := Nat) (fun j => ⟨4, [(2, .e (.a (.p 2 (0)))), (4, .i (0)), (5, .i (0)), (7, .e (.a (.p 3 (0)))), (8, .i (soAll s (s.aft add).pounds (s.aft add).tl (s.aft add).al s.nA i + soRow s (s.aft add).pounds ((s.aft add).tl + (i : Int)) (s.aft add).al j)), (9, .i (allN s.nA i + (j : Int))), (10, .i ((s.aft add).tl + (i : Int))), (26, .i ((s.aft add).tl + (i : Int))), (27, .e (.a (.p 3 (1)))), (28, .e (.a (.p 3 (2)))), (29, .i ((s.aft add).th)), (30, .b (decide (((s.aft add).tl + (i : Int)) ≤ ((s.aft add).th)))), (33, .e (.a (.p 3 (3)))), (34, .e (.a (.p 3 (3)))), (35, .i ((s.aft add).al)), (11, .i ((s.aft add).al + (j : Int)))], [(0, PL EPig (s.pigs))], [(2, .blk [ai (s.pounds), ai (s.tl), ai (s.th), ai (s.al), ai (s.ah), ai (s.room), ai (s.tpl), ai (s.tph), ai (s.apl), ai (s.aph), .q 0] 28), (3, .blk [ai ((s.aft add).pounds), ai ((s.aft add).tl), ai ((s.aft add).th), ai ((s.aft add).al), ai ((s.aft add).ah)] 25)], [], []⟩) (fun j => j ≤ s.nA) (fun j => s.nA - j) (0) id ?_ (LeR.of ⟨rfl, rfl, rfl, rfl, (congrArg (fun z => some (SV.i z)) (show (soAll s (s.aft add).pounds (s.aft add).tl (s.aft add).al s.nA i) = ((fun j => soAll s (s.aft add).pounds (s.aft add).tl (s.aft add).al s.nA i + soRow s (s.aft add).pounds ((s.aft add).tl + (i : Int)) (s.aft add).al j) 0) from by simp [soRow])), (congrArg (fun z => some (SV.i z)) (show (allN s.nA i) = ((fun j => allN s.nA i + (j : Int)) 0) from by simp)), rfl, rfl, rfl, rfl, rfl, rfl, rfl, rfl, rfl, (congrArg (fun z => some (SV.i z)) (show ((s.aft add).al) = ((fun j => (s.aft add).al + (j : Int)) 0) from by simp)), trivial⟩ ⟨(lx rfl), trivial⟩ ⟨rfl, rfl, trivial⟩ rfl rfl rfl rfl rfl) ?_
      · first | trivial | omega | (constructor <;> omega) | simp
      intro j hφ
      have hj : j ≤ s.nA := hφ
      have hrb := soRow_bnd s (s.aft add).pounds ((s.aft add).tl + (i : Int)) (s.aft add).al j
      refine WP.seq ?_
      refine WP.seq ?_
      refine WP.region ?_
      refine WPl.v rfl (o_move rfl) ?_
      refine WPl.v rfl (o_fldp F25_2 rfl) ?_
      refine WPl.v rfl (o_fldp F23_1 rfl) ?_
      refine WPl.v rfl (o_ldp S3 rfl rfl rfl) ?_
      refine WPl.v rfl (o_leq rfl rfl) ?_
      refine WPl.nil ?_
      refine EX.then ?_
      refine WP.cond rfl (fun hc3 => ?_) (fun hc3 => ?_)
      · try simp only [decide_eq_true_eq, decide_eq_false_iff_not, Bool.and_eq_true, Bool.or_eq_true, Bool.and_eq_false_iff, Bool.or_eq_false_iff, Bool.not_eq_true', Bool.not_eq_false', ne_eq, Decidable.not_not] at hc3
        refine WP.skip ?_
        refine EX.then ?_
        refine WP.seq ?_
        refine WP.block ?_
        refine WP.seq ?_
        refine WP.region ?_
        refine WPl.v rfl (o_move rfl) ?_
        refine WPl.v rfl (o_add rfl rfl (by first | omega | (simp; omega)) (by first | omega | (simp; omega))) ?_
        refine WPl.v rfl (o_assign rfl) ?_
        refine WPl.nil ?_
        refine EX.then ?_
        refine WP.seq ?_
        refine WP.region ?_
        refine WPl.v rfl (o_assign rfl) ?_
        refine WPl.nil ?_
        refine EX.then ?_
        refine WP.seq ?_
        refine WP.seq ?_
        refine WP.region ?_
        refine WPl.v rfl (o_assign rfl) ?_
        refine WPl.nil ?_
        refine EX.then ?_
        refine WP.block ?_
        refine WP.loop (Gh := Nat) (fun k => ⟨4, [(2, .e (.a (.p 2 (0)))), (4, .i (0)), (5, .i (0)), (7, .e (.a (.p 3 (0)))), (8, .i (soAll s (s.aft add).pounds (s.aft add).tl (s.aft add).al s.nA i + soRow s (s.aft add).pounds ((s.aft add).tl + (i : Int)) (s.aft add).al j)), (9, .i ((allN s.nA i + (j : Int)) + 1)), (10, .i ((s.aft add).tl + (i : Int))), (26, .i ((s.aft add).tl + (i : Int))), (27, .e (.a (.p 3 (1)))), (28, .e (.a (.p 3 (2)))), (29, .i ((s.aft add).th)), (30, .b (decide (((s.aft add).tl + (i : Int)) ≤ ((s.aft add).th)))), (33, .e (.a (.p 3 (3)))), (34, .e (.a (.p 3 (3)))), (35, .i ((s.aft add).al)), (11, .i ((s.aft add).al + (j : Int))), (36, .i ((s.aft add).al + (j : Int))), (37, .e (.a (.p 3 (3)))), (38, .e (.a (.p 3 (4)))), (39, .i ((s.aft add).ah)), (40, .b (decide (((s.aft add).al + (j : Int)) ≤ ((s.aft add).ah)))), (43, .i (allN s.nA i + (j : Int))), (44, .i ((allN s.nA i + (j : Int)) + 1)), (12, .b (s.keepsTo (s.aft add).pounds ((s.aft add).tl + (i : Int)) ((s.aft add).al + (j : Int)) k)), (13, .i ((k : Int) + 1))], [(0, PL EPig (s.pigs))], [(2, .blk [ai (s.pounds), ai (s.tl), ai (s.th), ai (s.al), ai (s.ah), ai (s.room), ai (s.tpl), ai (s.tph), ai (s.apl), ai (s.aph), .q 0] 28), (3, .blk [ai ((s.aft add).pounds), ai ((s.aft add).tl), ai ((s.aft add).th), ai ((s.aft add).al), ai ((s.aft add).ah)] 25)], [], []⟩) (fun k => k ≤ 4) (fun k => 4 - k) (0) id ?_ (LeR.of ⟨rfl, rfl, rfl, rfl, rfl, rfl, rfl, rfl, rfl, rfl, rfl, rfl, rfl, rfl, rfl, rfl, rfl, rfl, rfl, rfl, rfl, rfl, rfl, rfl, rfl, trivial⟩ ⟨(lx rfl), trivial⟩ ⟨rfl, rfl, trivial⟩ rfl rfl rfl rfl rfl) ?_
        · first | trivial | omega | (constructor <;> omega) | simp
        intro k hφ
        have hk : k ≤ 4 := hφ
        refine WP.seq ?_
        refine WP.seq ?_
        refine WP.region ?_
        refine WPl.v rfl (o_move rfl) ?_
        refine WPl.v rfl (o_leq rfl rfl) ?_
        refine WPl.nil ?_
        refine EX.then ?_
        refine WP.cond rfl (fun hc4 => ?_) (fun hc4 => ?_)
        · try simp only [decide_eq_true_eq, decide_eq_false_iff_not, Bool.and_eq_true, Bool.or_eq_true, Bool.and_eq_false_iff, Bool.or_eq_false_iff, Bool.not_eq_true', Bool.not_eq_false', ne_eq, Decidable.not_not] at hc4
          refine WP.skip ?_
          refine EX.then ?_
          refine WP.seq ?_
          refine WP.block ?_
          refine WP.region ?_
          refine WPl.v rfl (o_move rfl) ?_
          refine WPl.v rfl (o_move rfl) ?_
          refine WPl.bit 4 5 (s.keepsTo (s.aft add).pounds ((s.aft add).tl + (i : Int)) ((s.aft add).al + (j : Int)) k) rfl rfl ?_
          refine WPl.gv 4 rfl rfl (.plain rfl Iff.rfl rfl) (fun hb => o_ldpa G28 rfl rfl rfl) ?_
          refine WPl.gv 4 rfl rfl (.plain rfl Iff.rfl rfl) (fun hb => o_move rfl) ?_
          refine WPl.gv 4 rfl rfl (.plain rfl Iff.rfl rfl) (fun hb => o_fldp F25_0 rfl) ?_
          refine WPl.gv 4 rfl rfl (.plain rfl Iff.rfl rfl) (fun hb => o_ldp S3 rfl rfl rfl) ?_
          refine WPl.gv 4 rfl rfl (.plain rfl Iff.rfl rfl) (fun hb => o_move rfl) ?_
          refine WPl.gv 4 rfl rfl (.plain rfl Iff.rfl rfl) (fun hb => o_move rfl) ?_
          refine WPl.gc0 4 rfl rfl (.plain rfl Iff.rfl rfl) (fun hb => o_sig 5 (ren [(0, 0)]) (c50 s ((k : Int) + 1) ((s.aft add).pounds) ((s.aft add).tl + (i : Int)) ((s.aft add).al + (j : Int)) hf (by omega) (by omega) (by omega)) e50 rfl rfl rfl w50 ⟨(lx rfl), trivial⟩ r50) ?_
          refine WPl.v rfl (o_and rfl rfl rfl id) ?_
          refine WPl.v rfl (o_assign rfl) ?_
          refine WPl.nil ?_
          refine EX.blk ?_
          refine EX.then ?_
          refine WP.region ?_
          refine WPl.v rfl (o_move rfl) ?_
          refine WPl.v rfl (o_add rfl rfl (by first | omega | (simp; omega)) (by first | omega | (simp; omega))) ?_
          refine WPl.v rfl (o_assign rfl) ?_
          refine WPl.nil ?_
          refine EX.again (k + 1) id (by first | omega | (constructor <;> omega)) (by omega) (LeR.of ⟨rfl, rfl, rfl, rfl, rfl, rfl, rfl, rfl, rfl, rfl, rfl, rfl, rfl, rfl, rfl, rfl, rfl, rfl, rfl, rfl, rfl, rfl, rfl, rfl, (congrArg (fun z => some (SV.i z)) (show (((k : Int) + 1) + 1) = ((fun k => (k : Int) + 1) (k + 1)) from by show (k : Int) + 1 + 1 = ((k + 1 : Nat) : Int) + 1; omega)), trivial⟩ ⟨(lx rfl), trivial⟩ ⟨rfl, rfl, trivial⟩ rfl rfl rfl rfl rfl)
        · try simp only [decide_eq_true_eq, decide_eq_false_iff_not, Bool.and_eq_true, Bool.or_eq_true, Bool.and_eq_false_iff, Bool.or_eq_false_iff, Bool.not_eq_true', Bool.not_eq_false', ne_eq, Decidable.not_not] at hc4
          refine WP.exit ?_
          refine EX.exit_then ?_
          refine EX.exit_then ?_
          refine EX.exit_blk ?_
          refine EX.then ?_
          refine WP.seq ?_
          refine WP.region ?_
          refine WPl.v rfl (o_move rfl) ?_
          refine WPl.nil ?_
          refine EX.then ?_
          refine WP.cond rfl (fun hc5 => ?_) (fun hc5 => ?_)
          · try simp only [decide_eq_true_eq, decide_eq_false_iff_not, Bool.and_eq_true, Bool.or_eq_true, Bool.and_eq_false_iff, Bool.or_eq_false_iff, Bool.not_eq_true', Bool.not_eq_false', ne_eq, Decidable.not_not] at hc5
            refine WP.region ?_
            refine WPl.v rfl (o_move rfl) ?_
            refine WPl.v rfl (o_add rfl rfl (by first | omega | (simp; omega)) (by first | omega | (simp; omega))) ?_
            refine WPl.v rfl (o_assign rfl) ?_
            refine WPl.nil ?_
            refine EX.blk ?_
            refine EX.then ?_
            refine WP.region ?_
            refine WPl.v rfl (o_move rfl) ?_
            refine WPl.v rfl (o_add rfl rfl (by first | omega | (simp; omega)) (by first | omega | (simp; omega))) ?_
            refine WPl.v rfl (o_assign rfl) ?_
            refine WPl.nil ?_
            have hk4 : k = 4 := by omega
            refine EX.again (j + 1) id (by first | omega | (constructor <;> omega)) (by omega) (LeR.of ⟨rfl, rfl, rfl, rfl, (congrArg (fun z => some (SV.i z)) (show ((soAll s (s.aft add).pounds (s.aft add).tl (s.aft add).al s.nA i + soRow s (s.aft add).pounds ((s.aft add).tl + (i : Int)) (s.aft add).al j) + 1) = ((fun j => soAll s (s.aft add).pounds (s.aft add).tl (s.aft add).al s.nA i + soRow s (s.aft add).pounds ((s.aft add).tl + (i : Int)) (s.aft add).al j) (j + 1)) from by dsimp only; simp only [soRow]; rw [if_pos (by rw [← hk4]; exact hc5)]; omega)), (congrArg (fun z => some (SV.i z)) (show ((allN s.nA i + (j : Int)) + 1) = ((fun j => allN s.nA i + (j : Int)) (j + 1)) from by show allN s.nA i + (j : Int) + 1 = allN s.nA i + ((j + 1 : Nat) : Int); omega)), rfl, rfl, rfl, rfl, rfl, rfl, rfl, rfl, rfl, (congrArg (fun z => some (SV.i z)) (show (((s.aft add).al + (j : Int)) + 1) = ((fun j => (s.aft add).al + (j : Int)) (j + 1)) from by show (s.aft add).al + (j : Int) + 1 = (s.aft add).al + ((j + 1 : Nat) : Int); omega)), trivial⟩ ⟨(lx rfl), trivial⟩ ⟨rfl, rfl, trivial⟩ rfl rfl rfl rfl rfl)
          · try simp only [decide_eq_true_eq, decide_eq_false_iff_not, Bool.and_eq_true, Bool.or_eq_true, Bool.and_eq_false_iff, Bool.or_eq_false_iff, Bool.not_eq_true', Bool.not_eq_false', ne_eq, Decidable.not_not] at hc5
            refine WP.skip ?_
            refine EX.blk ?_
            refine EX.then ?_
            refine WP.region ?_
            refine WPl.v rfl (o_move rfl) ?_
            refine WPl.v rfl (o_add rfl rfl (by first | omega | (simp; omega)) (by first | omega | (simp; omega))) ?_
            refine WPl.v rfl (o_assign rfl) ?_
            refine WPl.nil ?_
            have hk4 : k = 4 := by omega
            refine EX.again (j + 1) id (by first | omega | (constructor <;> omega)) (by omega) (LeR.of ⟨rfl, rfl, rfl, rfl, (congrArg (fun z => some (SV.i z)) (show (soAll s (s.aft add).pounds (s.aft add).tl (s.aft add).al s.nA i + soRow s (s.aft add).pounds ((s.aft add).tl + (i : Int)) (s.aft add).al j) = ((fun j => soAll s (s.aft add).pounds (s.aft add).tl (s.aft add).al s.nA i + soRow s (s.aft add).pounds ((s.aft add).tl + (i : Int)) (s.aft add).al j) (j + 1)) from by dsimp only; simp only [soRow]; rw [if_neg (by rw [← hk4, hc5]; simp)]; omega)), (congrArg (fun z => some (SV.i z)) (show ((allN s.nA i + (j : Int)) + 1) = ((fun j => allN s.nA i + (j : Int)) (j + 1)) from by show allN s.nA i + (j : Int) + 1 = allN s.nA i + ((j + 1 : Nat) : Int); omega)), rfl, rfl, rfl, rfl, rfl, rfl, rfl, rfl, rfl, (congrArg (fun z => some (SV.i z)) (show (((s.aft add).al + (j : Int)) + 1) = ((fun j => (s.aft add).al + (j : Int)) (j + 1)) from by show (s.aft add).al + (j : Int) + 1 = (s.aft add).al + ((j + 1 : Nat) : Int); omega)), trivial⟩ ⟨(lx rfl), trivial⟩ ⟨rfl, rfl, trivial⟩ rfl rfl rfl rfl rfl)
      · try simp only [decide_eq_true_eq, decide_eq_false_iff_not, Bool.and_eq_true, Bool.or_eq_true, Bool.and_eq_false_iff, Bool.or_eq_false_iff, Bool.not_eq_true', Bool.not_eq_false', ne_eq, Decidable.not_not] at hc3
        refine WP.exit ?_
        refine EX.exit_then ?_
        refine EX.exit_then ?_
        refine EX.exit_blk ?_
        refine EX.blk ?_
        refine EX.then ?_
        refine WP.region ?_
        refine WPl.v rfl (o_move rfl) ?_
        refine WPl.v rfl (o_add rfl rfl (by first | omega | (simp; omega)) (by first | omega | (simp; omega))) ?_
        refine WPl.v rfl (o_assign rfl) ?_
        refine WPl.nil ?_
        have hje : j = s.nA := by omega
        refine EX.again (i + 1) id (by first | omega | (constructor <;> omega)) (by omega) (LeR.of ⟨rfl, rfl, rfl, rfl, (congrArg (fun z => some (SV.i z)) (show (soAll s (s.aft add).pounds (s.aft add).tl (s.aft add).al s.nA i + soRow s (s.aft add).pounds ((s.aft add).tl + (i : Int)) (s.aft add).al j) = ((fun i => soAll s (s.aft add).pounds (s.aft add).tl (s.aft add).al s.nA i) (i + 1)) from by rw [hje]; rfl)), (congrArg (fun z => some (SV.i z)) (show (allN s.nA i + (j : Int)) = ((fun i => allN s.nA i) (i + 1)) from by rw [hje]; rfl)), (congrArg (fun z => some (SV.i z)) (show (((s.aft add).tl + (i : Int)) + 1) = ((fun i => (s.aft add).tl + (i : Int)) (i + 1)) from by show (s.aft add).tl + (i : Int) + 1 = (s.aft add).tl + ((i + 1 : Nat) : Int); omega)), trivial⟩ ⟨(lx rfl), trivial⟩ ⟨rfl, rfl, trivial⟩ rfl rfl rfl rfl rfl)
    · try simp only [decide_eq_true_eq, decide_eq_false_iff_not, Bool.and_eq_true, Bool.or_eq_true, Bool.and_eq_false_iff, Bool.or_eq_false_iff, Bool.not_eq_true', Bool.not_eq_false', ne_eq, Decidable.not_not] at hc2
      have hie : i = s.nT := by omega
      refine WP.exit ?_
      refine EX.exit_then ?_
      refine EX.exit_then ?_
      refine EX.exit_blk ?_
      refine EX.then ?_
      refine WP.seq ?_
      refine WP.region ?_
      refine WPl.v rfl (o_move rfl) ?_
      refine WPl.v rfl (o_move rfl) ?_
      refine WPl.cs 4 rfl rfl rfl rfl (o_sig 4 id (c91 (soAll s (s.aft add).pounds (s.aft add).tl (s.aft add).al s.nA i) (allN s.nA i)) e91 rfl rfl rfl w91 trivial r91) ?_
      refine WPl.v rfl (o_assign rfl) ?_
      refine WPl.v rfl (o_assign rfl) ?_
      refine WPl.nil ?_
      refine EX.then ?_
      refine WP.ret ?_
      rw [hE, ← knOf_safe hf hv, ← hie]
      exact EX.fin id (.inl rfl) rfl (.tmp rfl (.tmp rfl .nil)) rfl (by simp [SV.res, El.res, At.res, keys]) trivial (by simp) (by simp)
theorem w96 {s : Shop} {first : List Int} : ∀ x ∈ ([.e (.g [ai (s.pounds), ai (s.tl), ai (s.th), ai (s.al), ai (s.ah), ai (s.room), ai (s.tpl), ai (s.tph), ai (s.apl), ai (s.aph), .q 0]), .e (.a (.q 1))] : List SV), x.res (keys (α := Pred) [(0, PL EPig (s.pigs)), (1, PL EP.int (first))]) := by simp [SV.res, El.res, At.res, keys]
theorem r96 {s : Shop} {first : List Int} {n : Nat} : SV.res (keys (α := Pred) [(0, PL (EP.sl EP.int) (s.addsR n first))]) (.e (.a (.q 0))) := by simp [SV.res, El.res, At.res, keys]
set_option maxHeartbeats 4000000 in
theorem c96 (s : Shop) (first : List Int) (n : Nat) (hs : s.chk = true) (hfl : first.length + n = s.pigs.length) (hfb : bnd first 5) : Sig Try.prog 96 [.e (.g [ai (s.pounds), ai (s.tl), ai (s.th), ai (s.al), ai (s.ah), ai (s.room), ai (s.tpl), ai (s.tph), ai (s.apl), ai (s.aph), .q 0]), .e (.a (.q 1))] [(0, PL EPig (s.pigs)), (1, PL EP.int (first))] (.e (.a (.q 0))) [(0, PL (EP.sl EP.int) (s.addsR n first))] := by
  have hpg := Shop.pigsOK hs
  have hp4 := hpg.2
  have htb := tl_bnd hs
  refine Sig.intro Try.func96 rfl 2 [(0, .e (.g [ai (s.pounds), ai (s.tl), ai (s.th), ai (s.al), ai (s.ah), ai (s.room), ai (s.tpl), ai (s.tph), ai (s.apl), ai (s.aph), .q 0])), (1, .e (.a (.q 1)))] rfl w96 rfl rfl fun I w => ?_
  refine WP.seq ?_
  refine WP.region ?_
  refine WPl.l 2 3 rfl rfl rfl (o_boxg rfl) ?_
  refine WPl.v rfl (o_assign rfl) ?_
  refine WPl.nil ?_
  refine EX.then ?_
  refine WP.seq ?_
  refine WP.seq ?_
  refine WP.region ?_
  refine WPl.v rfl (o_move rfl) ?_
  refine WPl.v rfl (o_lenq L29 rfl (lx rfl)) ?_
  refine WPl.v rfl (o_fldp F28_4 rfl) ?_
  refine WPl.v rfl (o_ldp S26 rfl rfl rfl) ?_
  refine WPl.v rfl (o_lenq L26 rfl (lx rfl)) ?_
  refine WPl.v rfl (o_eql rfl rfl) ?_
  refine WPl.nil ?_
  refine EX.then ?_
  refine WP.cond rfl (fun hc1 => ?_) (fun hc1 => ?_)
  · try simp only [decide_eq_true_eq, decide_eq_false_iff_not, Bool.and_eq_true, Bool.or_eq_true, Bool.and_eq_false_iff, Bool.or_eq_false_iff, Bool.not_eq_true', Bool.not_eq_false', ne_eq, Decidable.not_not] at hc1
    obtain rfl : n = 0 := by omega
    refine WP.seq ?_
    refine WP.seq ?_
    refine WP.region ?_
    refine WPl.v rfl (o_ldpa G28 rfl rfl rfl) ?_
    refine WPl.v rfl (o_move rfl) ?_
    refine WPl.cs 3 rfl rfl rfl rfl (o_sig 3 (ren [(0, 0), (1, 1)]) (c68 s first hpg (by omega)) e68 rfl rfl rfl w68 ⟨(lx rfl), (lx rfl), trivial⟩ r68) ?_
    refine WPl.nil ?_
    refine EX.then ?_
    refine WP.cond rfl (fun hc2 => ?_) (fun hc2 => ?_)
    · try simp only [decide_eq_true_eq, decide_eq_false_iff_not, Bool.and_eq_true, Bool.or_eq_true, Bool.and_eq_false_iff, Bool.or_eq_false_iff, Bool.not_eq_true', Bool.not_eq_false', ne_eq, Decidable.not_not] at hc2
      refine WP.seq ?_
      refine WP.region ?_
      refine WPl.v rfl (o_move rfl) ?_
      refine WPl.l 3 4 rfl rfl rfl (o_bsl (E := (EP.sl EP.int)) (l := [first]) R101 rfl rfl (.cons ((.inl ⟨_, (lx rfl), PL.one⟩)) rfl (eok_sl (lx rfl)) (.nil)) rfl rfl) ?_
      refine WPl.v rfl (o_assign rfl) ?_
      refine WPl.nil ?_
      refine EX.then ?_
      refine WP.ret ?_
      refine EX.ret_then ?_
      refine EX.ret_then ?_
      refine EX.imp (Imp.frz (E := (EP.sl EP.int)) (l := [first]) 3 rfl rfl) ?_
      rw [show s.addsR 0 first = [first] from sAdds_one hc2]
      exact EX.fin (ren [(0, 3)]) (.inl rfl) rfl (.tmp rfl .nil) rfl (by simp [SV.res, El.res, At.res, keys]) ⟨(lx rfl), trivial⟩ (by simp) (by simp)
    · try simp only [decide_eq_true_eq, decide_eq_false_iff_not, Bool.and_eq_true, Bool.or_eq_true, Bool.and_eq_false_iff, Bool.or_eq_false_iff, Bool.not_eq_true', Bool.not_eq_false', ne_eq, Decidable.not_not] at hc2
      refine WP.skip ?_
      refine EX.then ?_
      refine WP.seq ?_
      refine WP.region ?_
      refine WPl.v rfl (o_assign rfl) ?_
      refine WPl.nil ?_
      refine EX.then ?_
      refine WP.ret ?_
      refine EX.ret_then ?_
      refine EX.imp (Imp.nam 3 4 (.slice none 0 0) (R := PN (EP.sl EP.int)) pn_ok rfl rfl) ?_
      refine EX.imp (Imp.swF 4 3 rfl (lxr rfl)) ?_
      rw [show s.addsR 0 first = [] from sAdds_none (by simpa using hc2)]
      exact EX.fin (ren [(0, 3)]) (.inl rfl) rfl (.tmp rfl .nil) rfl (by simp [SV.res, El.res, At.res, keys]) ⟨lxl rfl, trivial⟩ (by simp) (by simp)
  · try simp only [decide_eq_true_eq, decide_eq_false_iff_not, Bool.and_eq_true, Bool.or_eq_true, Bool.and_eq_false_iff, Bool.or_eq_false_iff, Bool.not_eq_true', Bool.not_eq_false', ne_eq, Decidable.not_not] at hc1
    obtain ⟨m, rfl⟩ : ∃ m, n = m + 1 := ⟨n - 1, by omega⟩
    have hk1 := Pig.bnds (hpg.at (show first.length < s.pigs.length by omega))
    have hflat := fun j (hj : j ≤ 6) => sAddsR_flat hpg (m := m) (first := first) (by omega) (j := j) hj
    refine WP.skip ?_
    refine EX.then ?_
    refine WP.seq ?_
    refine WP.region ?_
    refine WPl.v rfl (o_assign rfl) ?_
    refine WPl.imp (Imp.namo (EP.sl EP.int) 3 4 29 rfl rfl) ?_
    refine WPl.imp (Imp.swF 5 3 rfl (lx rfl)) ?_
    refine WPl.nil ?_
    refine EX.then ?_
    refine WP.seq ?_
    refine WP.seq ?_
    refine WP.region ?_
    refine WPl.v rfl (o_assign rfl) ?_
    refine WPl.nil ?_
    refine EX.then ?_
    refine WP.block ?_
    refine WP.loop (Gh := Nat) (fun j => ⟨4, [(1, .e (.a (.q 1))), (2, .e (.a (.p 2 (0)))), (4, .e (.a (.v (.slice none 0 0)))), (5, .e (.a (.q 3))), (6, .i ((j : Int)))], [(0, PL EPig (s.pigs)), (1, PL EP.int (first))], [(2, .blk [ai (s.pounds), ai (s.tl), ai (s.th), ai (s.al), ai (s.ah), ai (s.room), ai (s.tpl), ai (s.tph), ai (s.apl), ai (s.aph), .q 0] 28), (3, .own 29 (EP.sl EP.int).size (flatTo (fun (z : Nat) => s.addsR m (first ++ [(z : Int)])) j).length (RP (EP.sl EP.int) (flatTo (fun (z : Nat) => s.addsR m (first ++ [(z : Int)])) j)))], [], []⟩) (fun j => j ≤ ((nth s.pigs first.length).many + 1).toNat) (fun j => ((nth s.pigs first.length).many + 1).toNat - j) (0) id ?_ (LeR.of ⟨rfl, rfl, rfl, rfl, rfl, trivial⟩ ⟨(lx rfl), (lx rfl), trivial⟩ ⟨rfl, rfl, trivial⟩ rfl rfl rfl rfl rfl) ?_
    · first | trivial | omega | (constructor <;> omega) | simp
    intro j hφ
    have hj : j ≤ ((nth s.pigs first.length).many + 1).toNat := hφ
    refine WP.seq ?_
    refine WP.seq ?_
    refine WP.region ?_
    refine WPl.v rfl (o_move rfl) ?_
    refine WPl.v rfl (o_fldp F28_4 rfl) ?_
    refine WPl.v rfl (o_ldp S26 rfl rfl rfl) ?_
    refine WPl.v rfl (o_move rfl) ?_
    refine WPl.v rfl (o_lenq L29 rfl (lx rfl)) ?_
    refine WPl.x 4 5 rfl rfl rfl (o_idx L26 rfl (lx rfl) rfl (by first | omega | (simp; omega)) (by first | omega | (simp; omega))) ?_
    refine WPl.v rfl (o_fldq F49_4 rfl (lx rfl)) ?_
    refine WPl.v rfl (o_lde S3 rfl (lx rfl) (strI rfl)) ?_
    refine WPl.v rfl (o_leq rfl rfl) ?_
    refine WPl.nil ?_
    refine EX.then ?_
    refine WP.cond rfl (fun hc3 => ?_) (fun hc3 => ?_)
    · try simp only [decide_eq_true_eq, decide_eq_false_iff_not, Bool.and_eq_true, Bool.or_eq_true, Bool.and_eq_false_iff, Bool.or_eq_false_iff, Bool.not_eq_true', Bool.not_eq_false', ne_eq, Decidable.not_not] at hc3
      refine WP.skip ?_
      refine EX.then ?_
      refine WP.seq ?_
      refine WP.block ?_
      refine WP.draw (nf := 11) [⟨[30, 31, 32, 33, 34, 35, 36, 37], [5, 6, 7, 8, 9], [], [], []⟩, ⟨[29, 31, 32, 33, 34, 35, 36], [5, 6, 7, 8], [], [], []⟩, ⟨[29, 30, 32, 34, 35], [7], [5], [5], []⟩, ⟨[29, 30, 31, 34, 35], [5, 7], [], [], []⟩, ⟨[29, 30, 34, 35], [7], [6], [6, 5], [2, 3]⟩, ⟨[29, 30, 31, 32, 33], [5, 6], [], [], []⟩, ⟨[29, 30, 31, 32, 33], [5, 6], [7], [7], [5]⟩, ⟨[29, 30], [], [8], [8, 6], [2, 3, 4, 5, 6]⟩, ⟨[29], [], [9], [9], [1, 2, 3, 4, 5, 6, 7]⟩, ⟨[], [], [10], [10, 3], [0, 1, 2, 3, 4, 5, 6, 7, 8]⟩, ⟨[], [], [], [], [0, 1, 2, 3, 4, 5, 6, 7, 8, 9]⟩] (by kernel_rfl) (by kernel_rfl) ?_
      refine DRQ.v rfl rfl rfl (o_move rfl) ?_
      refine DRQ.v rfl rfl rfl (o_ldpa G28 rfl rfl rfl) ?_
      refine DRQ.l 5 rfl rfl rfl rfl (o_bsl (E := EP.int) (l := []) R29 rfl rfl (.nil) rfl rfl) ?_
      refine DRQ.v rfl rfl rfl (o_move rfl) ?_
      refine DRQ.l2 6 5 rfl rfl rfl rfl (o_apps R29 EP.int_one rfl rfl rfl (lx rfl) (by first | omega | (simp; omega) | (simp at *; omega)) (by first | omega | (simp; omega) | (simp at *; omega))) ?_
      refine DRQ.v rfl rfl rfl (o_move rfl) ?_
      refine DRQ.l 7 rfl rfl rfl rfl (o_bsl (E := EP.int) (l := [(j : Int)]) R29 rfl rfl (.cons (rfl) rfl (eok_int) (.nil)) rfl rfl) ?_
      refine DRQ.u1 8 rfl rfl rfl (OpG.settle1 (.inl rfl) rfl (o_appo R29 EP.int_one rfl rfl rfl rfl (by first | omega | (simp; omega) | (simp at *; omega)) (by first | omega | (simp; omega) | (simp at *; omega)))) rfl ?_
      refine DRQ.cs rfl rfl rfl rfl (o_sig 9 (ren [(0, 0), (1, 8)]) (c96 s (([] ++ first) ++ [(j : Int)]) m hs (by simp; omega) (bnd_snoc hfb (by omega) (by omega))) e96 rfl rfl rfl w96 ⟨(lx rfl), (lx rfl), trivial⟩ r96) ?_
      refine DRQ.l2 10 3 rfl rfl rfl rfl (o_apps R101 EP.sl_one rfl rfl rfl (lx rfl) (by have h1 := hflat j (by omega); have h2 := h1.2 j; first | omega | (simp; omega)) (by have h1 := hflat j (by omega); have h2 := h1.2 j; first | omega | (simp; omega))) ?_
      refine DRQ.v rfl rfl rfl (o_assign rfl) ?_
      refine DRQ.nil' ?_
      refine EX.blk ?_
      refine EX.then ?_
      refine WP.region ?_
      refine WPl.v rfl (o_move rfl) ?_
      refine WPl.v rfl (o_add rfl rfl (by first | omega | (simp; omega)) (by first | omega | (simp; omega))) ?_
      refine WPl.v rfl (o_assign rfl) ?_
      refine WPl.nil ?_
      refine EX.again (j + 1) (ren [(3, 10)]) (by first | omega | (constructor <;> omega)) (by omega) (LeR.of ⟨rfl, rfl, rfl, rfl, rfl, trivial⟩ ⟨(lx rfl), (lx rfl), trivial⟩ ⟨rfl, rfl, trivial⟩ rfl rfl rfl rfl rfl)
    · try simp only [decide_eq_true_eq, decide_eq_false_iff_not, Bool.and_eq_true, Bool.or_eq_true, Bool.and_eq_false_iff, Bool.or_eq_false_iff, Bool.not_eq_true', Bool.not_eq_false', ne_eq, Decidable.not_not] at hc3
      refine WP.exit ?_
      refine EX.exit_then ?_
      refine EX.exit_then ?_
      refine EX.exit_blk ?_
      refine EX.then ?_
      refine WP.seq ?_
      refine WP.region ?_
      refine WPl.v rfl (o_move rfl) ?_
      refine WPl.v rfl (o_assign rfl) ?_
      refine WPl.nil ?_
      refine EX.then ?_
      refine WP.ret ?_
      refine EX.imp (Imp.frz (E := (EP.sl EP.int)) (l := flatTo (fun (z : Nat) => s.addsR m (first ++ [(z : Int)])) j) 3 rfl rfl) ?_
      have he : j = ((nth s.pigs first.length).many + 1).toNat := by omega
      subst he
      rw [show s.addsR (m + 1) first = flatTo (fun (z : Nat) => s.addsR m (first ++ [(z : Int)])) ((nth s.pigs first.length).many + 1).toNat from rfl]
      exact EX.fin (ren [(0, 3)]) (.inl rfl) rfl (.tmp rfl .nil) rfl (by simp [SV.res, El.res, At.res, keys]) ⟨(lx rfl), trivial⟩ (by simp) (by simp)
termination_by n
decreasing_by all_goals omega
theorem w96L {s : Shop} : ∀ x ∈ ([.e (.g [ai (s.pounds), ai (s.tl), ai (s.th), ai (s.al), ai (s.ah), ai (s.room), ai (s.tpl), ai (s.tph), ai (s.apl), ai (s.aph), .q 0]), .e (.a (.q 1))] : List SV), x.res (keys (α := Pred) [(0, PL EPig (s.pigs)), (1, PL EP.int ([]))]) := by simp [SV.res, El.res, At.res, keys]
theorem r96L {s : Shop} : SV.res (keys (α := Pred) [(0, PL (EP.sl EP.int) (s.adL))]) (.e (.a (.q 0))) := by simp [SV.res, El.res, At.res, keys]
set_option maxHeartbeats 4000000 in
theorem c96L (s : Shop) (hs : s.chk = true) : Sig Try.prog 96 [.e (.g [ai (s.pounds), ai (s.tl), ai (s.th), ai (s.al), ai (s.ah), ai (s.room), ai (s.tpl), ai (s.tph), ai (s.apl), ai (s.aph), .q 0]), .e (.a (.q 1))] [(0, PL EPig (s.pigs)), (1, PL EP.int ([]))] (.e (.a (.q 0))) [(0, PL (EP.sl EP.int) (s.adL))] := by
  rw [← sAddsR_all s]
  exact c96 s [] s.pigs.length hs (by simp) (fun j hj => absurd hj (by simp))
theorem w99 {s : Shop} : ∀ x ∈ ([.e (.g [ai (s.pounds), ai (s.tl), ai (s.th), ai (s.al), ai (s.ah), ai (s.room), ai (s.tpl), ai (s.tph), ai (s.apl), ai (s.aph), .q 0])] : List SV), x.res (keys (α := Pred) [(0, PL EPig (s.pigs))]) := by simp [SV.res, El.res, At.res, keys]
theorem r99 {s : Shop} : SV.res (keys (α := Pred) [(0, PL (EP.sl EP.int) (s.rsL))]) (.e (.a (.q 0))) := by simp [SV.res, El.res, At.res, keys]
set_option maxHeartbeats 4000000 in
theorem c99 (s : Shop) (hs : s.chk = true) : Sig Try.prog 99 [.e (.g [ai (s.pounds), ai (s.tl), ai (s.th), ai (s.al), ai (s.ah), ai (s.room), ai (s.tpl), ai (s.tph), ai (s.apl), ai (s.aph), .q 0])] [(0, PL EPig (s.pigs))] (.e (.a (.q 0))) [(0, PL (EP.sl EP.int) (s.rsL))] := by
  have hpg := Shop.pigsOK hs
  have hal := adL_len hpg
  refine Sig.intro Try.func99 rfl 1 [(0, .e (.g [ai (s.pounds), ai (s.tl), ai (s.th), ai (s.al), ai (s.ah), ai (s.room), ai (s.tpl), ai (s.tph), ai (s.apl), ai (s.aph), .q 0]))] rfl w99 rfl rfl fun I w => ?_
  refine WP.seq ?_
  refine WP.region ?_
  refine WPl.l 1 2 rfl rfl rfl (o_boxg rfl) ?_
  refine WPl.v rfl (o_assign rfl) ?_
  refine WPl.nil ?_
  refine EX.then ?_
  refine WP.seq ?_
  refine WP.region ?_
  refine WPl.v rfl (o_ldpa G28 rfl rfl rfl) ?_
  refine WPl.imp (Imp.nam 2 3 (.slice none 0 0) (R := PN EP.int) pn_ok rfl rfl) ?_
  refine WPl.cs 4 rfl rfl rfl rfl (o_sigc 3 (ren [(0, 0), (1, 2)]) (c96L s hs) e96 rfl rfl ⟨.inl rfl, .inr ⟨_, _, rfl, fun _ => rfl, (lxr rfl)⟩, trivial⟩ w96L ⟨(lx rfl), (lxl rfl), trivial⟩ r96L) ?_
  refine WPl.v rfl (o_assign rfl) ?_
  refine WPl.nil ?_
  refine EX.then ?_
  refine WP.seq ?_
  refine WP.region ?_
  refine WPl.v rfl (o_assign rfl) ?_
  refine WPl.imp (Imp.namo (EP.sl EP.int) 4 5 29 rfl rfl) ?_
  refine WPl.imp (Imp.swF 4 4 rfl (lx rfl)) ?_
  refine WPl.nil ?_
  refine EX.then ?_
  refine WP.seq ?_
  refine WP.seq ?_
  refine WP.region ?_
  refine WPl.v rfl (o_assign rfl) ?_
  refine WPl.nil ?_
  refine EX.then ?_
  refine WP.block ?_
  refine WP.loop (Gh := Nat) (fun i => ⟨5, [(1, .e (.a (.p 1 (0)))), (2, .e (.a (.v (.slice none 0 0)))), (3, .e (.a (.q 3))), (4, .e (.a (.q 4))), (5, .i ((i : Int)))], [(0, PL EPig (s.pigs)), (3, PL (EP.sl EP.int) (s.adL))], [(1, .blk [ai (s.pounds), ai (s.tl), ai (s.th), ai (s.al), ai (s.ah), ai (s.room), ai (s.tpl), ai (s.tph), ai (s.apl), ai (s.aph), .q 0] 28), (4, .own 29 (EP.sl EP.int).size (s.rsTo i).length (RP (EP.sl EP.int) (s.rsTo i)))], [], []⟩) (fun i => i ≤ s.adL.length) (fun i => s.adL.length - i) (0) id ?_ (LeR.of ⟨rfl, rfl, rfl, rfl, rfl, trivial⟩ ⟨(lx rfl), (lx rfl), trivial⟩ ⟨rfl, rfl, trivial⟩ rfl rfl rfl rfl rfl) ?_
  · first | trivial | omega | (constructor <;> omega) | simp
  intro i hφ
  have hi : i ≤ s.adL.length := hφ
  refine WP.seq ?_
  refine WP.seq ?_
  refine WP.region ?_
  refine WPl.v rfl (o_move rfl) ?_
  refine WPl.v rfl (o_move rfl) ?_
  refine WPl.v rfl (o_lenq L101 rfl (lx rfl)) ?_
  refine WPl.v rfl (o_lss rfl rfl) ?_
  refine WPl.nil ?_
  refine EX.then ?_
  refine WP.cond rfl (fun hc1 => ?_) (fun hc1 => ?_)
  · try simp only [decide_eq_true_eq, decide_eq_false_iff_not, Bool.and_eq_true, Bool.or_eq_true, Bool.and_eq_false_iff, Bool.or_eq_false_iff, Bool.not_eq_true', Bool.not_eq_false', ne_eq, Decidable.not_not] at hc1
    have hx := isAddB hpg (adL_at (show i < s.adL.length by omega))
    refine WP.skip ?_
    refine EX.then ?_
    refine WP.seq ?_
    refine WP.block ?_
    refine WP.seq ?_
    refine WP.draw (nf := 7) [⟨[15, 16, 17, 18, 19, 20], [5, 6], [], [], []⟩, ⟨[14, 16, 17, 18, 19], [5, 6], [], [], []⟩, ⟨[14, 15, 17], [], [], [], []⟩, ⟨[14, 15, 16], [], [], [], []⟩, ⟨[14, 15], [], [5], [5], [2, 3]⟩, ⟨[14, 15], [], [6], [6], [2, 3, 4]⟩, ⟨[14], [], [], [], [1, 2, 3, 4, 5]⟩, ⟨[], [], [], [], [0, 1, 2, 3, 4, 5, 6]⟩] (by kernel_rfl) (by kernel_rfl) ?_
    refine DRQ.v rfl rfl rfl (o_ldpa G28 rfl rfl rfl) ?_
    refine DRQ.v rfl rfl rfl (o_ldpa G28 rfl rfl rfl) ?_
    refine DRQ.v rfl rfl rfl (o_move rfl) ?_
    refine DRQ.v rfl rfl rfl (o_move rfl) ?_
    refine DRQ.x 5 rfl rfl rfl rfl (o_idx L101 rfl (lx rfl) rfl (by first | omega | (simp; omega)) (by first | omega | (simp; omega))) ?_
    refine DRQ.x 6 rfl rfl rfl rfl (o_ldqx S29 rfl (lx rfl) slx) ?_
    refine DRQ.cs rfl rfl rfl rfl (o_sig 7 (ren [(0, 0), (1, 6)]) (c28 s (nth s.adL (i : Int)) hs (by omega) hx.2.2) e28 rfl rfl rfl w28 ⟨(lx rfl), (lx rfl), trivial⟩ r28) ?_
    refine DRQ.cs rfl rfl rfl rfl (o_sig 7 (ren [(0, 0)]) (c29 s (s.aft (nth s.adL (i : Int))) hs (aft_bnd hs (by omega) hx.2.2)) e29 rfl rfl rfl w29 ⟨(lx rfl), trivial⟩ r29) ?_
    refine DRQ.nil' ?_
    refine EX.then ?_
    refine WP.cond rfl (fun hc2 => ?_) (fun hc2 => ?_)
    · try simp only [decide_eq_true_eq, decide_eq_false_iff_not, Bool.and_eq_true, Bool.or_eq_true, Bool.and_eq_false_iff, Bool.or_eq_false_iff, Bool.not_eq_true', Bool.not_eq_false', ne_eq, Decidable.not_not] at hc2
      refine WP.region ?_
      refine WPl.v rfl (o_move rfl) ?_
      refine WPl.v rfl (o_move rfl) ?_
      refine WPl.v rfl (o_move rfl) ?_
      refine WPl.x 7 8 rfl rfl rfl (o_idx L101 rfl (lx rfl) rfl (by first | omega | (simp; omega)) (by first | omega | (simp; omega))) ?_
      refine WPl.x 8 9 rfl rfl rfl (o_ldqx S29 rfl (lx rfl) slx) ?_
      refine WPl.l 9 10 rfl rfl rfl (o_bsl (E := (EP.sl EP.int)) (l := [nth s.adL (i : Int)]) R101 rfl rfl (.cons ((.inl ⟨_, (lx rfl), PL.one⟩)) rfl (eok_sl (lx rfl)) (.nil)) rfl rfl) ?_
      refine WPl.u1 (k := 10) (m := 11) rfl rfl rfl (o_appo R101 EP.sl_one rfl rfl rfl rfl (by have := rsTo_len s i; first | omega | (simp; omega)) (by have := rsTo_len s i; first | omega | (simp; omega))) ?_
      refine WPl.v rfl (o_assign rfl) ?_
      refine WPl.nil ?_
      refine EX.blk ?_
      refine EX.then ?_
      refine WP.region ?_
      refine WPl.v rfl (o_move rfl) ?_
      refine WPl.v rfl (o_add rfl rfl (by first | omega | (simp; omega)) (by first | omega | (simp; omega))) ?_
      refine WPl.v rfl (o_assign rfl) ?_
      refine WPl.nil ?_
      refine EX.again (i + 1) (ren [(4, 10)]) (by first | omega | (constructor <;> omega)) (by omega) (LeR.of ⟨rfl, rfl, rfl, rfl, rfl, trivial⟩ ⟨(lx rfl), (lx rfl), trivial⟩ ⟨rfl, (congrArg (fun z => some (Ent.own 29 (EP.sl EP.int).size (List.length z) (RP (EP.sl EP.int) z))) (show ((s.rsTo i) ++ [nth s.adL (i : Int)]) = ((fun i => s.rsTo i) (i + 1)) from by dsimp only; simp only [Shop.rsTo]; rw [if_pos hc2])), trivial⟩ rfl rfl rfl rfl rfl)
    · try simp only [decide_eq_true_eq, decide_eq_false_iff_not, Bool.and_eq_true, Bool.or_eq_true, Bool.and_eq_false_iff, Bool.or_eq_false_iff, Bool.not_eq_true', Bool.not_eq_false', ne_eq, Decidable.not_not] at hc2
      refine WP.skip ?_
      refine EX.blk ?_
      refine EX.then ?_
      refine WP.region ?_
      refine WPl.v rfl (o_move rfl) ?_
      refine WPl.v rfl (o_add rfl rfl (by first | omega | (simp; omega)) (by first | omega | (simp; omega))) ?_
      refine WPl.v rfl (o_assign rfl) ?_
      refine WPl.nil ?_
      refine EX.again (i + 1) id (by first | omega | (constructor <;> omega)) (by omega) (LeR.of ⟨rfl, rfl, rfl, rfl, rfl, trivial⟩ ⟨(lx rfl), (lx rfl), trivial⟩ ⟨rfl, (congrArg (fun z => some (Ent.own 29 (EP.sl EP.int).size (List.length z) (RP (EP.sl EP.int) z))) (show (s.rsTo i) = ((fun i => s.rsTo i) (i + 1)) from by dsimp only; simp only [Shop.rsTo]; rw [if_neg (by rw [hc2]; simp)])), trivial⟩ rfl rfl rfl rfl rfl)
  · try simp only [decide_eq_true_eq, decide_eq_false_iff_not, Bool.and_eq_true, Bool.or_eq_true, Bool.and_eq_false_iff, Bool.or_eq_false_iff, Bool.not_eq_true', Bool.not_eq_false', ne_eq, Decidable.not_not] at hc1
    refine WP.exit ?_
    refine EX.exit_then ?_
    refine EX.exit_then ?_
    refine EX.exit_blk ?_
    refine EX.then ?_
    refine WP.seq ?_
    refine WP.region ?_
    refine WPl.v rfl (o_move rfl) ?_
    refine WPl.v rfl (o_assign rfl) ?_
    refine WPl.nil ?_
    refine EX.then ?_
    refine WP.ret ?_
    refine EX.imp (Imp.frz (E := (EP.sl EP.int)) (l := s.rsTo i) 4 rfl rfl) ?_
    have hie : i = s.adL.length := by omega
    subst hie
    rw [show s.rsL = s.rsTo s.adL.length from rfl]
    exact EX.fin (ren [(0, 4)]) (.inl rfl) rfl (.tmp rfl .nil) rfl (by simp [SV.res, El.res, At.res, keys]) ⟨(lx rfl), trivial⟩ (by simp) (by simp)
theorem w57 {s : Shop} : ∀ x ∈ ([.e (.g [ai (s.pounds), ai (s.tl), ai (s.th), ai (s.al), ai (s.ah), ai (s.room), ai (s.tpl), ai (s.tph), ai (s.apl), ai (s.aph), .q 0])] : List SV), x.res (keys (α := Pred) [(0, PL EPig (s.pigs))]) := by simp [SV.res, El.res, At.res, keys]
theorem r57 {s : Shop} : SV.res (keys (α := Pred) [(0, PL EP.int (s.mShort))]) (.t [.a (.q 0), .a (ai (errM s.chk))]) := by simp [SV.res, El.res, At.res, keys]
set_option maxHeartbeats 4000000 in
theorem c57 (s : Shop)  : Sig Try.prog 57 [.e (.g [ai (s.pounds), ai (s.tl), ai (s.th), ai (s.al), ai (s.ah), ai (s.room), ai (s.tpl), ai (s.tph), ai (s.apl), ai (s.aph), .q 0])] [(0, PL EPig (s.pigs))] (.t [.a (.q 0), .a (ai (errM s.chk))]) [(0, PL EP.int (s.mShort))] := by
  refine Sig.intro Try.func57 rfl 1 [(0, .e (.g [ai (s.pounds), ai (s.tl), ai (s.th), ai (s.al), ai (s.ah), ai (s.room), ai (s.tpl), ai (s.tph), ai (s.apl), ai (s.aph), .q 0]))] rfl w57 rfl rfl fun I w => ?_
  refine WP.seq ?_
  refine WP.region ?_
  refine WPl.l 1 2 rfl rfl rfl (o_boxg rfl) ?_
  refine WPl.v rfl (o_assign rfl) ?_
  refine WPl.v rfl (o_assign rfl) ?_
  refine WPl.nil ?_
  refine EX.then ?_
  refine WP.seq ?_
  refine WP.seq ?_
  refine WP.region ?_
  refine WPl.v rfl (o_ldpa G28 rfl rfl rfl) ?_
  refine WPl.cs 2 rfl rfl rfl rfl (o_sig 2 (ren [(0, 0)]) (c39 s) e39 rfl rfl rfl w39 ⟨(lx rfl), trivial⟩ r39) ?_
  refine WPl.v rfl (o_assign rfl) ?_
  refine WPl.nil ?_
  refine EX.then ?_
  refine WP.seq ?_
  refine WP.region ?_
  refine WPl.v rfl (o_move rfl) ?_
  refine WPl.v rfl (o_neq rfl rfl) ?_
  refine WPl.nil ?_
  refine EX.then ?_
  refine WP.cond rfl (fun hc1 => ?_) (fun hc1 => ?_)
  · try simp only [decide_eq_true_eq, decide_eq_false_iff_not, Bool.and_eq_true, Bool.or_eq_true, Bool.and_eq_false_iff, Bool.or_eq_false_iff, Bool.not_eq_true', Bool.not_eq_false', ne_eq, Decidable.not_not] at hc1
    have hs : s.chk = false := errM_ne.1 (by simpa using hc1)
    refine WP.seq ?_
    refine WP.region ?_
    refine WPl.v rfl (o_move rfl) ?_
    refine WPl.v rfl (o_assign rfl) ?_
    refine WPl.v rfl (o_assign rfl) ?_
    refine WPl.nil ?_
    refine EX.then ?_
    refine WP.ret ?_
    refine EX.ret_then ?_
    refine EX.imp (Imp.nam 2 3 (.slice none 0 0) (R := PN EP.int) pn_ok rfl rfl) ?_
    refine EX.imp (Imp.swF 2 2 rfl (lxr rfl)) ?_
    rw [show s.mShort = [] from by unfold Shop.mShort; rw [hs]; rfl]
    exact EX.fin (ren [(0, 2)]) (.inl rfl) rfl (.tmp rfl (.tmp rfl .nil)) rfl (by simp [SV.res, El.res, At.res, keys]) ⟨lxl rfl, trivial⟩ (by simp) (by simp)
  · try simp only [decide_eq_true_eq, decide_eq_false_iff_not, Bool.and_eq_true, Bool.or_eq_true, Bool.and_eq_false_iff, Bool.or_eq_false_iff, Bool.not_eq_true', Bool.not_eq_false', ne_eq, Decidable.not_not] at hc1
    have hs : s.chk = true := errM_eq.1 (by simpa using hc1)
    have hpg := Shop.pigsOK hs
    have hl4 := hpg.2
    have hal := adL_len hpg
    have htb := tl_bnd hs
    refine WP.skip ?_
    refine EX.then ?_
    refine WP.seq ?_
    refine WP.region ?_
    refine WPl.v rfl (o_ldpa G28 rfl rfl rfl) ?_
    refine WPl.imp (Imp.nam 2 3 (.slice none 0 0) (R := PN EP.int) pn_ok rfl rfl) ?_
    refine WPl.cs 4 rfl rfl rfl rfl (o_sigc 3 (ren [(0, 0), (1, 2)]) (c96L s hs) e96 rfl rfl ⟨.inl rfl, .inr ⟨_, _, rfl, fun _ => rfl, (lxr rfl)⟩, trivial⟩ w96L ⟨(lx rfl), (lxl rfl), trivial⟩ r96L) ?_
    refine WPl.v rfl (o_assign rfl) ?_
    refine WPl.nil ?_
    refine EX.then ?_
    refine WP.seq ?_
    refine WP.region ?_
    refine WPl.v rfl (o_assign rfl) ?_
    refine WPl.imp (Imp.namo EP.int 4 5 3 rfl rfl) ?_
    refine WPl.imp (Imp.swF 6 4 rfl (lx rfl)) ?_
    refine WPl.nil ?_
    refine EX.then ?_
    refine WP.seq ?_
    refine WP.seq ?_
    refine WP.region ?_
    refine WPl.v rfl (o_assign rfl) ?_
    refine WPl.nil ?_
    refine EX.then ?_
    refine WP.block ?_
    refine WP.loop (Gh := Nat) (fun n => ⟨5, [(1, .e (.a (.p 1 (0)))), (2, .e (.a (.v (.slice none 0 0)))), (3, .i (0)), (5, .e (.a (.q 3))), (6, .e (.a (.q 4))), (7, .i (((n : Int) + 1)))], [(0, PL EPig (s.pigs)), (3, PL (EP.sl EP.int) (s.adL))], [(1, .blk [ai (s.pounds), ai (s.tl), ai (s.th), ai (s.al), ai (s.ah), ai (s.room), ai (s.tpl), ai (s.tph), ai (s.apl), ai (s.aph), .q 0] 28), (4, .own 3 EP.int.size (s.shortTo n).length (RP EP.int (s.shortTo n)))], [], []⟩) (fun n => n ≤ 4) (fun n => 4 - n) (0) id ?_ (LeR.of ⟨rfl, rfl, rfl, rfl, rfl, rfl, trivial⟩ ⟨(lx rfl), (lx rfl), trivial⟩ ⟨rfl, rfl, trivial⟩ rfl rfl rfl rfl rfl) ?_
    · first | trivial | omega | (constructor <;> omega) | simp
    intro n hφ
    have hn : n ≤ 4 := hφ
    refine WP.seq ?_
    refine WP.seq ?_
    refine WP.region ?_
    refine WPl.v rfl (o_move rfl) ?_
    refine WPl.v rfl (o_leq rfl rfl) ?_
    refine WPl.nil ?_
    refine EX.then ?_
    refine WP.cond rfl (fun hc2 => ?_) (fun hc2 => ?_)
    · try simp only [decide_eq_true_eq, decide_eq_false_iff_not, Bool.and_eq_true, Bool.or_eq_true, Bool.and_eq_false_iff, Bool.or_eq_false_iff, Bool.not_eq_true', Bool.not_eq_false', ne_eq, Decidable.not_not] at hc2
      refine WP.skip ?_
      refine EX.then ?_
      refine WP.seq ?_
      refine WP.block ?_
      refine WP.seq ?_
      refine WP.region ?_
      refine WPl.v rfl (o_assign rfl) ?_
      refine WPl.nil ?_
      refine EX.then ?_
      refine WP.seq ?_
      refine WP.seq ?_
      refine WP.region ?_
      refine WPl.v rfl (o_assign rfl) ?_
      refine WPl.nil ?_
      refine EX.then ?_
      refine WP.block ?_
      refine WP.loop (Gh := Nat) (fun i => ⟨5, [(1, .e (.a (.p 1 (0)))), (2, .e (.a (.v (.slice none 0 0)))), (3, .i (0)), (5, .e (.a (.q 3))), (6, .e (.a (.q 4))), (7, .i (((n : Int) + 1))), (18, .i (((n : Int) + 1))), (19, .b (decide (((n : Int) + 1) ≤ 4))), (8, .b (!s.notKept ((n : Int) + 1) i)), (9, .i ((i : Int)))], [(0, PL EPig (s.pigs)), (3, PL (EP.sl EP.int) (s.adL))], [(1, .blk [ai (s.pounds), ai (s.tl), ai (s.th), ai (s.al), ai (s.ah), ai (s.room), ai (s.tpl), ai (s.tph), ai (s.apl), ai (s.aph), .q 0] 28), (4, .own 3 EP.int.size (s.shortTo n).length (RP EP.int (s.shortTo n)))], [], []⟩) (fun i => i ≤ s.adL.length) (fun i => s.adL.length - i) (0) id ?_ (LeR.of ⟨rfl, rfl, rfl, rfl, rfl, rfl, rfl, rfl, rfl, rfl, trivial⟩ ⟨(lx rfl), (lx rfl), trivial⟩ ⟨rfl, rfl, trivial⟩ rfl rfl rfl rfl rfl) ?_
      · first | trivial | omega | (constructor <;> omega) | simp
      intro i hφ
      have hi : i ≤ s.adL.length := hφ
      refine WP.seq ?_
      refine WP.seq ?_
      refine WP.region ?_
      refine WPl.v rfl (o_move rfl) ?_
      refine WPl.v rfl (o_move rfl) ?_
      refine WPl.v rfl (o_lenq L101 rfl (lx rfl)) ?_
      refine WPl.v rfl (o_lss rfl rfl) ?_
      refine WPl.nil ?_
      refine EX.then ?_
      refine WP.cond rfl (fun hc3 => ?_) (fun hc3 => ?_)
      · try simp only [decide_eq_true_eq, decide_eq_false_iff_not, Bool.and_eq_true, Bool.or_eq_true, Bool.and_eq_false_iff, Bool.or_eq_false_iff, Bool.not_eq_true', Bool.not_eq_false', ne_eq, Decidable.not_not] at hc3
        have hx := isAddB hpg (adL_at (show i < s.adL.length by omega))
        have hab := aft_bnd hs (by omega) hx.2.2
        have hab2 := hab
        unfold PoB at hab2
        have htl : (s.aft (nth s.adL (i : Int))).tl ≤ (s.aft (nth s.adL (i : Int))).th := by simp only [Shop.aft]; omega
        have haa : (s.aft (nth s.adL (i : Int))).al ≤ (s.aft (nth s.adL (i : Int))).ah := by simp only [Shop.aft]; omega
        refine WP.skip ?_
        refine EX.then ?_
        refine WP.seq ?_
        refine WP.block ?_
        refine WP.seq ?_
        refine WP.draw (nf := 8) [⟨[29, 30, 31, 32, 10], [5, 6, 7], [], [], []⟩, ⟨[28, 30, 10], [7], [], [], []⟩, ⟨[28, 29, 10], [7], [], [], []⟩, ⟨[28, 10], [7], [5], [5], [1, 2]⟩, ⟨[28, 10], [7], [6], [6], [1, 2, 3]⟩, ⟨[10], [7], [], [], [0, 1, 2, 3, 4]⟩, ⟨[28, 29, 30, 31, 32, 33], [5, 6], [7], [7], []⟩, ⟨[], [], [], [7], [0, 1, 2, 3, 4, 5, 6]⟩] (by kernel_rfl) (by kernel_rfl) ?_
        refine DRQ.v rfl rfl rfl (o_ldpa G28 rfl rfl rfl) ?_
        refine DRQ.v rfl rfl rfl (o_move rfl) ?_
        refine DRQ.v rfl rfl rfl (o_move rfl) ?_
        refine DRQ.x 5 rfl rfl rfl rfl (o_idx L101 rfl (lx rfl) rfl (by first | omega | (simp; omega)) (by first | omega | (simp; omega))) ?_
        refine DRQ.x 6 rfl rfl rfl rfl (o_ldqx S29 rfl (lx rfl) slx) ?_
        refine DRQ.cs rfl rfl rfl rfl (o_sig 7 (ren [(0, 0), (1, 6)]) (c28 s (nth s.adL (i : Int)) hs (by omega) hx.2.2) e28 rfl rfl rfl w28 ⟨(lx rfl), (lx rfl), trivial⟩ r28) ?_
        refine DRQ.l 7 rfl rfl rfl rfl (o_alloc Z25) ?_
        refine DRQ.s 7 rfl rfl rfl (o_stag G25 rfl rfl rfl ⟨rfl, rfl, rfl, rfl, rfl, trivial⟩ rfl rfl) ?_
        refine DRQ.nil' ?_
        refine EX.then ?_
        refine WP.region ?_
        refine WPl.v rfl (o_move rfl) ?_
        refine WPl.v rfl (o_move rfl) ?_
        refine WPl.bit 8 9 (!(!s.notKept ((n : Int) + 1) i)) rfl rfl ?_
        refine WPl.gv 8 rfl rfl (.plain rfl (by first | (simp; done) | simp only [Bool.not_eq_true']) rfl) (fun hb => o_ldpa G28 rfl rfl rfl) ?_
        refine WPl.gv 8 rfl rfl (.plain rfl (by first | (simp; done) | simp only [Bool.not_eq_true']) rfl) (fun hb => o_move rfl) ?_
        refine WPl.gv 8 rfl rfl (.plain rfl (by first | (simp; done) | simp only [Bool.not_eq_true']) rfl) (fun hb => o_fldp F25_0 rfl) ?_
        refine WPl.gv 8 rfl rfl (.plain rfl (by first | (simp; done) | simp only [Bool.not_eq_true']) rfl) (fun hb => o_ldp S3 rfl rfl rfl) ?_
        refine WPl.gv 8 rfl rfl (.plain rfl (by first | (simp; done) | simp only [Bool.not_eq_true']) rfl) (fun hb => o_fldp F25_1 rfl) ?_
        refine WPl.gv 8 rfl rfl (.plain rfl (by first | (simp; done) | simp only [Bool.not_eq_true']) rfl) (fun hb => o_fldp F23_0 rfl) ?_
        refine WPl.gv 8 rfl rfl (.plain rfl (by first | (simp; done) | simp only [Bool.not_eq_true']) rfl) (fun hb => o_ldp S3 rfl rfl rfl) ?_
        refine WPl.gv 8 rfl rfl (.plain rfl (by first | (simp; done) | simp only [Bool.not_eq_true']) rfl) (fun hb => o_fldp F25_2 rfl) ?_
        refine WPl.gv 8 rfl rfl (.plain rfl (by first | (simp; done) | simp only [Bool.not_eq_true']) rfl) (fun hb => o_fldp F23_0 rfl) ?_
        refine WPl.gv 8 rfl rfl (.plain rfl (by first | (simp; done) | simp only [Bool.not_eq_true']) rfl) (fun hb => o_ldp S3 rfl rfl rfl) ?_
        refine WPl.gc0 8 rfl rfl (.plain rfl (by first | (simp; done) | simp only [Bool.not_eq_true']) rfl) (fun hb => o_sig 9 (ren [(0, 0)]) (c50 s ((n : Int) + 1) ((s.aft (nth s.adL (i : Int))).pounds) ((s.aft (nth s.adL (i : Int))).tl) ((s.aft (nth s.adL (i : Int))).al) hs (by omega) (by omega) (by omega)) e50 rfl rfl rfl w50 ⟨(lx rfl), trivial⟩ r50) ?_
        refine WPl.gv 8 rfl rfl (.plain rfl (by first | (simp; done) | simp only [Bool.not_eq_true']) rfl) (fun hb => o_move rfl) ?_
        refine WPl.bit 9 10 ((!(!s.notKept ((n : Int) + 1) i)) && (keeps1 s ((n : Int) + 1) ((s.aft (nth s.adL (i : Int))).pounds) ((s.aft (nth s.adL (i : Int))).tl) ((s.aft (nth s.adL (i : Int))).al))) rfl rfl ?_
        refine WPl.gv 9 rfl rfl (.nest rfl rfl (by first | (simp; done) | simp only [Bool.and_eq_true, Bool.not_eq_true']) rfl) (fun hb => o_ldpa G28 rfl rfl rfl) ?_
        refine WPl.gv 9 rfl rfl (.nest rfl rfl (by first | (simp; done) | simp only [Bool.and_eq_true, Bool.not_eq_true']) rfl) (fun hb => o_move rfl) ?_
        refine WPl.gv 9 rfl rfl (.nest rfl rfl (by first | (simp; done) | simp only [Bool.and_eq_true, Bool.not_eq_true']) rfl) (fun hb => o_fldp F25_0 rfl) ?_
        refine WPl.gv 9 rfl rfl (.nest rfl rfl (by first | (simp; done) | simp only [Bool.and_eq_true, Bool.not_eq_true']) rfl) (fun hb => o_ldp S3 rfl rfl rfl) ?_
        refine WPl.gv 9 rfl rfl (.nest rfl rfl (by first | (simp; done) | simp only [Bool.and_eq_true, Bool.not_eq_true']) rfl) (fun hb => o_fldp F25_1 rfl) ?_
        refine WPl.gv 9 rfl rfl (.nest rfl rfl (by first | (simp; done) | simp only [Bool.and_eq_true, Bool.not_eq_true']) rfl) (fun hb => o_fldp F23_1 rfl) ?_
        refine WPl.gv 9 rfl rfl (.nest rfl rfl (by first | (simp; done) | simp only [Bool.and_eq_true, Bool.not_eq_true']) rfl) (fun hb => o_ldp S3 rfl rfl rfl) ?_
        refine WPl.gv 9 rfl rfl (.nest rfl rfl (by first | (simp; done) | simp only [Bool.and_eq_true, Bool.not_eq_true']) rfl) (fun hb => o_fldp F25_2 rfl) ?_
        refine WPl.gv 9 rfl rfl (.nest rfl rfl (by first | (simp; done) | simp only [Bool.and_eq_true, Bool.not_eq_true']) rfl) (fun hb => o_fldp F23_1 rfl) ?_
        refine WPl.gv 9 rfl rfl (.nest rfl rfl (by first | (simp; done) | simp only [Bool.and_eq_true, Bool.not_eq_true']) rfl) (fun hb => o_ldp S3 rfl rfl rfl) ?_
        refine WPl.gc0 9 rfl rfl (.nest rfl rfl (by first | (simp; done) | simp only [Bool.and_eq_true, Bool.not_eq_true']) rfl) (fun hb => o_sig 10 (ren [(0, 0)]) (c50 s ((n : Int) + 1) ((s.aft (nth s.adL (i : Int))).pounds) ((s.aft (nth s.adL (i : Int))).th) ((s.aft (nth s.adL (i : Int))).ah) hs (by omega) (by omega) (by omega)) e50 rfl rfl rfl w50 ⟨(lx rfl), trivial⟩ r50) ?_
        refine WPl.gv 8 rfl rfl (.plain rfl (by first | (simp; done) | simp only [Bool.not_eq_true']) rfl) (fun hb => o_and rfl rfl rfl (by first | (simp; done) | exact fun h => Bool.and_eq_true_iff.2 ⟨hb, h⟩ | simp_all)) ?_
        refine WPl.v rfl (o_or rfl rfl rfl (by first | (simp; done) | exact fun h => by rw [h]; rfl | exact fun h => Bool.and_eq_true_iff.2 ⟨hb, by rw [h]; rfl⟩ | simp_all)) ?_
        refine WPl.v rfl (o_assign rfl) ?_
        refine WPl.nil ?_
        refine EX.blk ?_
        refine EX.then ?_
        refine WP.region ?_
        refine WPl.v rfl (o_move rfl) ?_
        refine WPl.v rfl (o_add rfl rfl (by first | omega | (simp; omega)) (by first | omega | (simp; omega))) ?_
        refine WPl.v rfl (o_assign rfl) ?_
        refine WPl.nil ?_
        refine EX.again (i + 1) id (by first | omega | (constructor <;> omega)) (by omega) (LeR.of ⟨rfl, rfl, rfl, rfl, rfl, rfl, rfl, rfl, (congrArg (fun z => some (SV.b z)) (show ((!s.notKept ((n : Int) + 1) i) || ((keeps1 s ((n : Int) + 1) ((s.aft (nth s.adL (i : Int))).pounds) ((s.aft (nth s.adL (i : Int))).tl) ((s.aft (nth s.adL (i : Int))).al)) && (keeps1 s ((n : Int) + 1) ((s.aft (nth s.adL (i : Int))).pounds) ((s.aft (nth s.adL (i : Int))).th) ((s.aft (nth s.adL (i : Int))).ah)))) = ((fun i => !s.notKept ((n : Int) + 1) i) (i + 1)) from by rw [keep2 (p := s.aft (nth s.adL (i : Int))) (by omega) (by omega) htl haa]; exact orn2 _ _)), rfl, trivial⟩ ⟨(lx rfl), (lx rfl), trivial⟩ ⟨rfl, rfl, trivial⟩ rfl rfl rfl rfl rfl)
      · try simp only [decide_eq_true_eq, decide_eq_false_iff_not, Bool.and_eq_true, Bool.or_eq_true, Bool.and_eq_false_iff, Bool.or_eq_false_iff, Bool.not_eq_true', Bool.not_eq_false', ne_eq, Decidable.not_not] at hc3
        refine WP.exit ?_
        refine EX.exit_then ?_
        refine EX.exit_then ?_
        refine EX.exit_blk ?_
        refine EX.then ?_
        refine WP.seq ?_
        refine WP.region ?_
        refine WPl.v rfl (o_move rfl) ?_
        refine WPl.v rfl (o_not rfl) ?_
        refine WPl.nil ?_
        refine EX.then ?_
        refine WP.cond rfl (fun hc4 => ?_) (fun hc4 => ?_)
        · try simp only [decide_eq_true_eq, decide_eq_false_iff_not, Bool.and_eq_true, Bool.or_eq_true, Bool.and_eq_false_iff, Bool.or_eq_false_iff, Bool.not_eq_true', Bool.not_eq_false', ne_eq, Decidable.not_not] at hc4
          have hie : i = s.adL.length := by omega
          have hz : s.keptAt ((n : Int) + 1) = 0 := (kept_zero (by omega) (by omega)).2 (by rw [← hie]; exact hc4)
          refine WP.region ?_
          refine WPl.v rfl (o_move rfl) ?_
          refine WPl.v rfl (o_move rfl) ?_
          refine WPl.l 5 6 rfl rfl rfl (o_bsl (E := EP.int) (l := [((n : Int) + 1)]) R29 rfl rfl (.cons (rfl) rfl (eok_int) (.nil)) rfl rfl) ?_
          refine WPl.u1 (k := 6) (m := 7) rfl rfl rfl (o_appo R29 EP.int_one rfl rfl rfl rfl (by have := shortTo_len s n; first | omega | (simp; omega)) (by have := shortTo_len s n; first | omega | (simp; omega))) ?_
          refine WPl.v rfl (o_assign rfl) ?_
          refine WPl.nil ?_
          refine EX.blk ?_
          refine EX.then ?_
          refine WP.region ?_
          refine WPl.v rfl (o_move rfl) ?_
          refine WPl.v rfl (o_add rfl rfl (by first | omega | (simp; omega)) (by first | omega | (simp; omega))) ?_
          refine WPl.v rfl (o_assign rfl) ?_
          refine WPl.nil ?_
          refine EX.again (n + 1) (ren [(4, 6)]) (by first | omega | (constructor <;> omega)) (by omega) (LeR.of ⟨rfl, rfl, rfl, rfl, rfl, (congrArg (fun z => some (SV.i z)) (show (((n : Int) + 1) + 1) = ((fun n => ((n : Int) + 1)) (n + 1)) from by show (n : Int) + 1 + 1 = ((n + 1 : Nat) : Int) + 1; omega)), trivial⟩ ⟨(lx rfl), (lx rfl), trivial⟩ ⟨rfl, (congrArg (fun z => some (Ent.own 3 EP.int.size (List.length z) (RP EP.int z))) (show ((s.shortTo n) ++ [((n : Int) + 1)]) = ((fun n => s.shortTo n) (n + 1)) from by dsimp only; simp only [Shop.shortTo]; rw [if_pos hz])), trivial⟩ rfl rfl rfl rfl rfl)
        · try simp only [decide_eq_true_eq, decide_eq_false_iff_not, Bool.and_eq_true, Bool.or_eq_true, Bool.and_eq_false_iff, Bool.or_eq_false_iff, Bool.not_eq_true', Bool.not_eq_false', ne_eq, Decidable.not_not] at hc4
          have hie : i = s.adL.length := by omega
          have hz : ¬ s.keptAt ((n : Int) + 1) = 0 := fun g => by
            have := (kept_zero (by omega) (by omega)).1 g
            rw [← hie, hc4] at this
            cases this
          refine WP.skip ?_
          refine EX.blk ?_
          refine EX.then ?_
          refine WP.region ?_
          refine WPl.v rfl (o_move rfl) ?_
          refine WPl.v rfl (o_add rfl rfl (by first | omega | (simp; omega)) (by first | omega | (simp; omega))) ?_
          refine WPl.v rfl (o_assign rfl) ?_
          refine WPl.nil ?_
          refine EX.again (n + 1) id (by first | omega | (constructor <;> omega)) (by omega) (LeR.of ⟨rfl, rfl, rfl, rfl, rfl, (congrArg (fun z => some (SV.i z)) (show (((n : Int) + 1) + 1) = ((fun n => ((n : Int) + 1)) (n + 1)) from by show (n : Int) + 1 + 1 = ((n + 1 : Nat) : Int) + 1; omega)), trivial⟩ ⟨(lx rfl), (lx rfl), trivial⟩ ⟨rfl, (congrArg (fun z => some (Ent.own 3 EP.int.size (List.length z) (RP EP.int z))) (show (s.shortTo n) = ((fun n => s.shortTo n) (n + 1)) from by dsimp only; simp only [Shop.shortTo]; rw [if_neg hz])), trivial⟩ rfl rfl rfl rfl rfl)
    · try simp only [decide_eq_true_eq, decide_eq_false_iff_not, Bool.and_eq_true, Bool.or_eq_true, Bool.and_eq_false_iff, Bool.or_eq_false_iff, Bool.not_eq_true', Bool.not_eq_false', ne_eq, Decidable.not_not] at hc2
      refine WP.exit ?_
      refine EX.exit_then ?_
      refine EX.exit_then ?_
      refine EX.exit_blk ?_
      refine EX.then ?_
      refine WP.seq ?_
      refine WP.region ?_
      refine WPl.v rfl (o_move rfl) ?_
      refine WPl.v rfl (o_assign rfl) ?_
      refine WPl.v rfl (o_assign rfl) ?_
      refine WPl.nil ?_
      refine EX.then ?_
      refine WP.ret ?_
      refine EX.imp (Imp.frz (E := EP.int) (l := s.shortTo n) 4 rfl rfl) ?_
      have hn4 : n = 4 := by omega
      subst hn4
      rw [show s.mShort = s.shortTo 4 from by unfold Shop.mShort; rw [hs]; rfl, show errM s.chk = 0 from by rw [hs]; rfl]
      exact EX.fin (ren [(0, 4)]) (.inl rfl) rfl (.tmp rfl (.tmp rfl .nil)) rfl (by simp [SV.res, El.res, At.res, keys]) ⟨(lx rfl), trivial⟩ (by simp) (by simp)
theorem w61 {s : Shop} : ∀ x ∈ ([.e (.g [ai (s.pounds), ai (s.tl), ai (s.th), ai (s.al), ai (s.ah), ai (s.room), ai (s.tpl), ai (s.tph), ai (s.apl), ai (s.aph), .q 0])] : List SV), x.res (keys (α := Pred) [(0, PL EPig (s.pigs))]) := by simp [SV.res, El.res, At.res, keys]
theorem r61 {s : Shop} : SV.res (keys (α := Pred) [(0, PL EP.int (s.mAdd (priceG s)))]) (.t [.a (.q 0), .a (ai (s.mE (priceG s)))]) := by simp [SV.res, El.res, At.res, keys]
set_option maxHeartbeats 4000000 in
theorem c61 (s : Shop)  : Sig Try.prog 61 [.e (.g [ai (s.pounds), ai (s.tl), ai (s.th), ai (s.al), ai (s.ah), ai (s.room), ai (s.tpl), ai (s.tph), ai (s.apl), ai (s.aph), .q 0])] [(0, PL EPig (s.pigs))] (.t [.a (.q 0), .a (ai (s.mE (priceG s)))]) [(0, PL EP.int (s.mAdd (priceG s)))] := by
  refine Sig.intro Try.func61 rfl 1 [(0, .e (.g [ai (s.pounds), ai (s.tl), ai (s.th), ai (s.al), ai (s.ah), ai (s.room), ai (s.tpl), ai (s.tph), ai (s.apl), ai (s.aph), .q 0]))] rfl w61 rfl rfl fun I w => ?_
  refine WP.seq ?_
  refine WP.region ?_
  refine WPl.l 1 2 rfl rfl rfl (o_boxg rfl) ?_
  refine WPl.v rfl (o_assign rfl) ?_
  refine WPl.v rfl (o_assign rfl) ?_
  refine WPl.nil ?_
  refine EX.then ?_
  refine WP.seq ?_
  refine WP.seq ?_
  refine WP.region ?_
  refine WPl.v rfl (o_ldpa G28 rfl rfl rfl) ?_
  refine WPl.cs 2 rfl rfl rfl rfl (o_sig 2 (ren [(0, 0)]) (c39 s) e39 rfl rfl rfl w39 ⟨(lx rfl), trivial⟩ r39) ?_
  refine WPl.v rfl (o_assign rfl) ?_
  refine WPl.nil ?_
  refine EX.then ?_
  refine WP.seq ?_
  refine WP.region ?_
  refine WPl.v rfl (o_move rfl) ?_
  refine WPl.v rfl (o_neq rfl rfl) ?_
  refine WPl.nil ?_
  refine EX.then ?_
  refine WP.cond rfl (fun hc1 => ?_) (fun hc1 => ?_)
  · try simp only [decide_eq_true_eq, decide_eq_false_iff_not, Bool.and_eq_true, Bool.or_eq_true, Bool.and_eq_false_iff, Bool.or_eq_false_iff, Bool.not_eq_true', Bool.not_eq_false', ne_eq, Decidable.not_not] at hc1
    have hs : s.chk = false := errM_ne.1 (by simpa using hc1)
    refine WP.seq ?_
    refine WP.region ?_
    refine WPl.v rfl (o_move rfl) ?_
    refine WPl.v rfl (o_assign rfl) ?_
    refine WPl.v rfl (o_assign rfl) ?_
    refine WPl.nil ?_
    refine EX.then ?_
    refine WP.ret ?_
    refine EX.ret_then ?_
    refine EX.imp (Imp.nam 2 3 (.slice none 0 0) (R := PN EP.int) pn_ok rfl rfl) ?_
    refine EX.imp (Imp.swF 2 2 rfl (lxr rfl)) ?_
    have hE : s.mE (priceG s) = errM s.chk := by unfold Shop.mE; rw [hs]; rfl
    rw [show s.mAdd (priceG s) = [] from by unfold Shop.mAdd; rw [hE, hs]; rfl, hE]
    exact EX.fin (ren [(0, 2)]) (.inl rfl) rfl (.tmp rfl (.tmp rfl .nil)) rfl (by simp [SV.res, El.res, At.res, keys]) ⟨lxl rfl, trivial⟩ (by simp) (by simp)
  · try simp only [decide_eq_true_eq, decide_eq_false_iff_not, Bool.and_eq_true, Bool.or_eq_true, Bool.and_eq_false_iff, Bool.or_eq_false_iff, Bool.not_eq_true', Bool.not_eq_false', ne_eq, Decidable.not_not] at hc1
    have hs : s.chk = true := errM_eq.1 (by simpa using hc1)
    have hpg := Shop.pigsOK hs
    have hl4 := hpg.2
    have hrl := rsL_len hpg
    refine WP.skip ?_
    refine EX.then ?_
    refine WP.seq ?_
    refine WP.region ?_
    refine WPl.v rfl (o_ldpa G28 rfl rfl rfl) ?_
    refine WPl.cs 3 rfl rfl rfl rfl (o_sig 2 (ren [(0, 0)]) (c99 s hs) e99 rfl rfl rfl w99 ⟨(lx rfl), trivial⟩ r99) ?_
    refine WPl.v rfl (o_assign rfl) ?_
    refine WPl.nil ?_
    refine EX.then ?_
    refine WP.seq ?_
    refine WP.seq ?_
    refine WP.region ?_
    refine WPl.v rfl (o_move rfl) ?_
    refine WPl.v rfl (o_lenq L101 rfl (lx rfl)) ?_
    refine WPl.v rfl (o_eql rfl rfl) ?_
    refine WPl.nil ?_
    refine EX.then ?_
    refine WP.cond rfl (fun hc2 => ?_) (fun hc2 => ?_)
    · try simp only [decide_eq_true_eq, decide_eq_false_iff_not, Bool.and_eq_true, Bool.or_eq_true, Bool.and_eq_false_iff, Bool.or_eq_false_iff, Bool.not_eq_true', Bool.not_eq_false', ne_eq, Decidable.not_not] at hc2
      obtain ⟨h1, h2⟩ : s.mE (priceG s) = 3 ∧ s.mAdd (priceG s) = [] := by
        rcases rmend hs with ⟨_, h⟩ | ⟨h, _⟩
        · exact h
        · omega
      refine WP.seq ?_
      refine WP.region ?_
      refine WPl.v rfl (o_assign rfl) ?_
      refine WPl.v rfl (o_assign rfl) ?_
      refine WPl.nil ?_
      refine EX.then ?_
      refine WP.ret ?_
      refine EX.ret_then ?_
      refine EX.imp (Imp.nam 3 4 (.slice none 0 0) (R := PN EP.int) pn_ok rfl rfl) ?_
      refine EX.imp (Imp.swF 2 3 rfl (lxr rfl)) ?_
      rw [h2, h1]
      exact EX.fin (ren [(0, 3)]) (.inl rfl) rfl (.tmp rfl (.tmp rfl .nil)) rfl (by simp [SV.res, El.res, At.res, keys]) ⟨lxl rfl, trivial⟩ (by simp) (by simp)
    · try simp only [decide_eq_true_eq, decide_eq_false_iff_not, Bool.and_eq_true, Bool.or_eq_true, Bool.and_eq_false_iff, Bool.or_eq_false_iff, Bool.not_eq_true', Bool.not_eq_false', ne_eq, Decidable.not_not] at hc2
      have hl0 : 0 < s.rsL.length := by omega
      obtain ⟨h1, h2⟩ : s.mE (priceG s) = 0 ∧ s.mAdd (priceG s) = s.rbTo s.rsL s.rsL.length := by
        rcases rmend hs with ⟨h, _⟩ | ⟨_, h⟩
        · rw [h] at hl0; simp at hl0
        · exact h
      refine WP.skip ?_
      refine EX.then ?_
      refine WP.seq ?_
      refine WP.region ?_
      refine WPl.v rfl (o_move rfl) ?_
      refine WPl.x 3 4 rfl rfl rfl (o_idx L101 rfl (lx rfl) rfl (by first | omega | (simp; omega)) (by first | omega | (simp; omega))) ?_
      refine WPl.x 4 5 rfl rfl rfl (o_ldqx S29 rfl (lx rfl) slx) ?_
      refine WPl.v rfl (o_assign rfl) ?_
      refine WPl.nil ?_
      refine EX.then ?_
      refine WP.seq ?_
      refine WP.seq ?_
      refine WP.region ?_
      refine WPl.v rfl (o_assign rfl) ?_
      refine WPl.nil ?_
      refine EX.then ?_
      refine WP.block ?_
      refine WP.loop (Gh := Nat) (fun i => ⟨5, [(1, .e (.a (.p 1 (0)))), (2, .e (.a (.v (.slice none 0 0)))), (3, .i (0)), (5, .e (.a (.q 2))), (6, .e (.a (.q 4))), (7, .i ((i : Int)))], [(0, PL EPig (s.pigs)), (2, PL (EP.sl EP.int) (s.rsL)), (4, PL EP.int (s.rbTo s.rsL i))], [(1, .blk [ai (s.pounds), ai (s.tl), ai (s.th), ai (s.al), ai (s.ah), ai (s.room), ai (s.tpl), ai (s.tph), ai (s.apl), ai (s.aph), .q 0] 28)], [], []⟩) (fun i => i ≤ s.rsL.length) (fun i => s.rsL.length - i) (0) id ?_ (LeR.of ⟨rfl, rfl, rfl, rfl, rfl, rfl, trivial⟩ ⟨(lx rfl), (lx rfl), (lx rfl), trivial⟩ ⟨rfl, trivial⟩ rfl rfl rfl rfl rfl) ?_
      · first | trivial | omega | (constructor <;> omega) | simp
      intro i hφ
      have hi : i ≤ s.rsL.length := hφ
      refine WP.seq ?_
      refine WP.seq ?_
      refine WP.region ?_
      refine WPl.v rfl (o_move rfl) ?_
      refine WPl.v rfl (o_move rfl) ?_
      refine WPl.v rfl (o_lenq L101 rfl (lx rfl)) ?_
      refine WPl.v rfl (o_lss rfl rfl) ?_
      refine WPl.nil ?_
      refine EX.then ?_
      refine WP.cond rfl (fun hc3 => ?_) (fun hc3 => ?_)
      · try simp only [decide_eq_true_eq, decide_eq_false_iff_not, Bool.and_eq_true, Bool.or_eq_true, Bool.and_eq_false_iff, Bool.or_eq_false_iff, Bool.not_eq_true', Bool.not_eq_false', ne_eq, Decidable.not_not] at hc3
        have hx := okM_bnd hpg (rsL_at hpg (show i < s.rsL.length by omega))
        have hy := okM_bnd hpg ((mem_rsL hpg).1 (rbTo_mem (s := s) hl0 i (by omega)))
        refine WP.skip ?_
        refine EX.then ?_
        refine WP.seq ?_
        refine WP.block ?_
        refine WP.seq ?_
        refine WP.draw (nf := 7) [⟨[30, 31, 32, 33, 35, 36], [5, 6], [], [], []⟩, ⟨[29, 31, 35, 36], [], [], [], []⟩, ⟨[29, 30, 35, 36], [], [], [], []⟩, ⟨[29, 35, 36], [], [5], [5], [1, 2]⟩, ⟨[29, 35, 36], [], [6], [6], [1, 2, 3]⟩, ⟨[35, 36], [], [], [], [0, 1, 2, 3, 4]⟩, ⟨[29, 30, 31, 32, 33, 34, 36], [5, 6], [], [], []⟩, ⟨[29, 30, 31, 32, 33, 34, 35], [5, 6], [], [], []⟩, ⟨[], [], [], [], [0, 1, 2, 3, 4, 5, 6, 7]⟩, ⟨[], [], [], [], [0, 1, 2, 3, 4, 5, 6, 7, 8]⟩, ⟨[], [], [], [], [0, 1, 2, 3, 4, 5, 6, 7, 8, 9]⟩] (by kernel_rfl) (by kernel_rfl) ?_
        refine DRQ.v rfl rfl rfl (o_ldpa G28 rfl rfl rfl) ?_
        refine DRQ.v rfl rfl rfl (o_move rfl) ?_
        refine DRQ.v rfl rfl rfl (o_move rfl) ?_
        refine DRQ.x 5 rfl rfl rfl rfl (o_idx L101 rfl (lx rfl) rfl (by first | omega | (simp; omega)) (by first | omega | (simp; omega))) ?_
        refine DRQ.x 6 rfl rfl rfl rfl (o_ldqx S29 rfl (lx rfl) slx) ?_
        refine DRQ.cs rfl rfl rfl rfl (o_sig 7 (ren [(0, 0), (1, 6)]) (c65 s (nth s.rsL (i : Int)) hpg hx.2.2 (by omega)) e65 rfl rfl rfl w65 ⟨(lx rfl), (lx rfl), trivial⟩ r65) ?_
        refine DRQ.v rfl rfl rfl (o_ldpa G28 rfl rfl rfl) ?_
        refine DRQ.v rfl rfl rfl (o_move rfl) ?_
        refine DRQ.cs rfl rfl rfl rfl (o_sig 7 (ren [(0, 0), (1, 4)]) (c65 s (s.rbTo s.rsL i) hpg hy.2.2 (by omega)) e65 rfl rfl rfl w65 ⟨(lx rfl), (lx rfl), trivial⟩ r65) ?_
        refine DRQ.v rfl rfl rfl (o_assign rfl) ?_
        refine DRQ.v rfl rfl rfl (o_assign rfl) ?_
        refine DRQ.nil' ?_
        refine EX.then ?_
        refine WP.seq ?_
        refine WP.imp (Imp.bit 7 8 (!(decide ((sumOf Pig.pence s.pigs (nth s.rsL (i : Int))) < (sumOf Pig.pence s.pigs (s.rbTo s.rsL i))))) rfl rfl) ?_
        refine WP.imp (Imp.bit 8 9 ((!(decide ((sumOf Pig.pence s.pigs (nth s.rsL (i : Int))) < (sumOf Pig.pence s.pigs (s.rbTo s.rsL i))))) && (decide ((sumOf Pig.pence s.pigs (nth s.rsL (i : Int))) = (sumOf Pig.pence s.pigs (s.rbTo s.rsL i))))) rfl rfl) ?_
        refine WP.draw (nf := 11) [⟨[39], [], [], [], []⟩, ⟨[38], [], [], [], []⟩, ⟨[], [], [], [], [0, 1]⟩, ⟨[], [], [], [], [0, 1, 2]⟩, ⟨[43], [], [], [], [0, 1, 2, 3]⟩, ⟨[42], [], [], [], [0, 1, 2, 3]⟩, ⟨[], [], [], [], [0, 1, 2, 3, 4, 5]⟩, ⟨[], [], [], [], [0, 1, 2, 3, 4, 5, 6]⟩, ⟨[47, 48, 49, 50, 52, 53], [9, 10], [], [], [0, 1, 2, 3, 4, 5, 6, 7]⟩, ⟨[46, 48, 52, 53], [], [], [], [0, 1, 2, 3, 4, 5, 6, 7]⟩, ⟨[46, 47, 52, 53], [], [], [], [0, 1, 2, 3, 4, 5, 6, 7]⟩, ⟨[46, 52, 53], [], [9], [9], [0, 1, 2, 3, 4, 5, 6, 7, 9, 10]⟩, ⟨[46, 52, 53], [], [10], [10], [0, 1, 2, 3, 4, 5, 6, 7, 9, 10, 11]⟩, ⟨[52, 53], [], [], [], [0, 1, 2, 3, 4, 5, 6, 7, 8, 9, 10, 11, 12]⟩, ⟨[46, 47, 48, 49, 50, 51, 53], [9, 10], [], [], [0, 1, 2, 3, 4, 5, 6, 7]⟩, ⟨[46, 47, 48, 49, 50, 51, 52], [9, 10], [], [], [0, 1, 2, 3, 4, 5, 6, 7]⟩, ⟨[], [], [], [], [0, 1, 2, 3, 4, 5, 6, 7, 8, 9, 10, 11, 12, 13, 14, 15]⟩, ⟨[], [], [], [], [0, 1, 2, 3, 4, 5, 6, 7, 8, 9, 10, 11, 12, 13, 14, 15, 16]⟩, ⟨[], [], [], [], [0, 1, 2, 3, 4, 5, 6, 7, 8, 9, 10, 11, 12, 13, 14, 15, 16, 17]⟩, ⟨[], [], [], [], [0, 1, 2, 3, 4, 5, 6, 7, 8, 9, 10, 11, 12, 13, 14, 15, 16, 17, 18]⟩] (by kernel_rfl) (by kernel_rfl) ?_
        refine DRQ.v rfl rfl rfl (o_move rfl) ?_
        refine DRQ.v rfl rfl rfl (o_move rfl) ?_
        refine DRQ.v rfl rfl rfl (o_lss rfl rfl) ?_
        refine DRQ.v rfl rfl rfl (o_move rfl) ?_
        refine DRQ.gv 7 rfl rfl (.plain rfl (by first | (simp; done) | simp only [Bool.not_eq_true']) rfl) rfl (fun hb => o_move rfl) ?_
        refine DRQ.gv 7 rfl rfl (.plain rfl (by first | (simp; done) | simp only [Bool.not_eq_true']) rfl) rfl (fun hb => o_move rfl) ?_
        refine DRQ.gv 7 rfl rfl (.plain rfl (by first | (simp; done) | simp only [Bool.not_eq_true']) rfl) rfl (fun hb => o_eql rfl rfl) ?_
        refine DRQ.gv 7 rfl rfl (.plain rfl (by first | (simp; done) | simp only [Bool.not_eq_true']) rfl) rfl (fun hb => o_move rfl) ?_
        refine DRQ.gv 8 rfl rfl (.nest rfl rfl (by first | (simp; done) | simp only [Bool.and_eq_true, Bool.not_eq_true']) rfl) rfl (fun hb => o_ldpa G28 rfl rfl rfl) ?_
        refine DRQ.gv 8 rfl rfl (.nest rfl rfl (by first | (simp; done) | simp only [Bool.and_eq_true, Bool.not_eq_true']) rfl) rfl (fun hb => o_move rfl) ?_
        refine DRQ.gv 8 rfl rfl (.nest rfl rfl (by first | (simp; done) | simp only [Bool.and_eq_true, Bool.not_eq_true']) rfl) rfl (fun hb => o_move rfl) ?_
        refine DRQ.gx 8 9 rfl rfl (.nest rfl rfl (by first | (simp; done) | simp only [Bool.and_eq_true, Bool.not_eq_true']) rfl) rfl rfl (fun hb => o_idx L101 rfl (lx rfl) rfl (by first | omega | (simp; omega)) (by first | omega | (simp; omega))) ?_
        refine DRQ.gx 8 10 rfl rfl (.nest rfl rfl (by first | (simp; done) | simp only [Bool.and_eq_true, Bool.not_eq_true']) rfl) rfl rfl (fun hb => o_ldqx S29 rfl (lxi hb rfl) slx) ?_
        refine DRQ.gv 8 rfl rfl (.nest rfl rfl (by first | (simp; done) | simp only [Bool.and_eq_true, Bool.not_eq_true']) rfl) rfl (fun hb => o_sig 11 (ren [(0, 0), (1, 10)]) (c47 s (nth s.rsL (i : Int)) hpg hx.2.2 (by omega)) e47 rfl rfl rfl w47 ⟨(lx rfl), (lxi hb rfl), trivial⟩ r47) ?_
        refine DRQ.gv 8 rfl rfl (.nest rfl rfl (by first | (simp; done) | simp only [Bool.and_eq_true, Bool.not_eq_true']) rfl) rfl (fun hb => o_ldpa G28 rfl rfl rfl) ?_
        refine DRQ.gv 8 rfl rfl (.nest rfl rfl (by first | (simp; done) | simp only [Bool.and_eq_true, Bool.not_eq_true']) rfl) rfl (fun hb => o_move rfl) ?_
        refine DRQ.gv 8 rfl rfl (.nest rfl rfl (by first | (simp; done) | simp only [Bool.and_eq_true, Bool.not_eq_true']) rfl) rfl (fun hb => o_sig 11 (ren [(0, 0), (1, 4)]) (c47 s (s.rbTo s.rsL i) hpg hy.2.2 (by omega)) e47 rfl rfl rfl w47 ⟨(lx rfl), (lx rfl), trivial⟩ r47) ?_
        refine DRQ.gv 8 rfl rfl (.nest rfl rfl (by first | (simp; done) | simp only [Bool.and_eq_true, Bool.not_eq_true']) rfl) rfl (fun hb => o_lss rfl rfl) ?_
        refine DRQ.gv 7 rfl rfl (.plain rfl (by first | (simp; done) | simp only [Bool.not_eq_true']) rfl) rfl (fun hb => o_and rfl rfl rfl (by first | (simp; done) | exact fun h => Bool.and_eq_true_iff.2 ⟨hb, h⟩ | simp_all)) ?_
        refine DRQ.v rfl rfl rfl (o_or rfl rfl rfl (by first | (simp; done) | exact fun h => by rw [h]; rfl | exact fun h => Bool.and_eq_true_iff.2 ⟨hb, by rw [h]; rfl⟩ | simp_all)) ?_
        refine DRQ.nil' ?_
        refine EX.then ?_
        refine WP.cond rfl (fun hc4 => ?_) (fun hc4 => ?_)
        · try simp only [decide_eq_true_eq, decide_eq_false_iff_not, Bool.and_eq_true, Bool.or_eq_true, Bool.and_eq_false_iff, Bool.or_eq_false_iff, Bool.not_eq_true', Bool.not_eq_false', ne_eq, Decidable.not_not] at hc4
          refine WP.region ?_
          refine WPl.v rfl (o_move rfl) ?_
          refine WPl.v rfl (o_move rfl) ?_
          refine WPl.x 11 12 rfl rfl rfl (o_idx L101 rfl (lx rfl) rfl (by first | omega | (simp; omega)) (by first | omega | (simp; omega))) ?_
          refine WPl.x 12 13 rfl rfl rfl (o_ldqx S29 rfl (lx rfl) slx) ?_
          refine WPl.v rfl (o_assign rfl) ?_
          refine WPl.nil ?_
          refine EX.blk ?_
          refine EX.then ?_
          refine WP.region ?_
          refine WPl.v rfl (o_move rfl) ?_
          refine WPl.v rfl (o_add rfl rfl (by first | omega | (simp; omega)) (by first | omega | (simp; omega))) ?_
          refine WPl.v rfl (o_assign rfl) ?_
          refine WPl.nil ?_
          refine EX.again (i + 1) (ren [(4, 12)]) (by first | omega | (constructor <;> omega)) (by omega) (LeR.of ⟨rfl, rfl, rfl, rfl, rfl, rfl, trivial⟩ ⟨(lx rfl), (lx rfl), (has_eq (F := fun z => PL EP.int z) (show (nth s.rsL (i : Int)) = ((fun i => s.rbTo s.rsL i) (i + 1)) from by dsimp only; simp only [Shop.rbTo]; rw [if_pos (by simp only [Shop.betM, Bool.or_eq_true, Bool.and_eq_true, decide_eq_true_eq]; omega)]) (lx rfl)), trivial⟩ ⟨rfl, trivial⟩ rfl rfl rfl rfl rfl)
        · try simp only [decide_eq_true_eq, decide_eq_false_iff_not, Bool.and_eq_true, Bool.or_eq_true, Bool.and_eq_false_iff, Bool.or_eq_false_iff, Bool.not_eq_true', Bool.not_eq_false', ne_eq, Decidable.not_not] at hc4
          refine WP.skip ?_
          refine EX.blk ?_
          refine EX.then ?_
          refine WP.region ?_
          refine WPl.v rfl (o_move rfl) ?_
          refine WPl.v rfl (o_add rfl rfl (by first | omega | (simp; omega)) (by first | omega | (simp; omega))) ?_
          refine WPl.v rfl (o_assign rfl) ?_
          refine WPl.nil ?_
          refine EX.again (i + 1) id (by first | omega | (constructor <;> omega)) (by omega) (LeR.of ⟨rfl, rfl, rfl, rfl, rfl, rfl, trivial⟩ ⟨(lx rfl), (lx rfl), (has_eq (F := fun z => PL EP.int z) (show (s.rbTo s.rsL i) = ((fun i => s.rbTo s.rsL i) (i + 1)) from by dsimp only; simp only [Shop.rbTo]; rw [if_neg (by simp only [Shop.betM, Bool.or_eq_true, Bool.and_eq_true, decide_eq_true_eq]; omega)]) (lx rfl)), trivial⟩ ⟨rfl, trivial⟩ rfl rfl rfl rfl rfl)
      · try simp only [decide_eq_true_eq, decide_eq_false_iff_not, Bool.and_eq_true, Bool.or_eq_true, Bool.and_eq_false_iff, Bool.or_eq_false_iff, Bool.not_eq_true', Bool.not_eq_false', ne_eq, Decidable.not_not] at hc3
        refine WP.exit ?_
        refine EX.exit_then ?_
        refine EX.exit_then ?_
        refine EX.exit_blk ?_
        refine EX.then ?_
        refine WP.seq ?_
        refine WP.region ?_
        refine WPl.v rfl (o_move rfl) ?_
        refine WPl.v rfl (o_assign rfl) ?_
        refine WPl.v rfl (o_assign rfl) ?_
        refine WPl.nil ?_
        refine EX.then ?_
        refine WP.ret ?_
        have hie : i = s.rsL.length := by omega
        subst hie
        rw [h2, h1]
        exact EX.fin (ren [(0, 4)]) (.inl rfl) rfl (.tmp rfl (.tmp rfl .nil)) rfl (by simp [SV.res, El.res, At.res, keys]) ⟨(lx rfl), trivial⟩ (by simp) (by simp)
theorem w59 {s : Shop} : ∀ x ∈ ([.e (.g [ai (s.pounds), ai (s.tl), ai (s.th), ai (s.al), ai (s.ah), ai (s.room), ai (s.tpl), ai (s.tph), ai (s.apl), ai (s.aph), .q 0])] : List SV), x.res (keys (α := Pred) [(0, PL EPig (s.pigs))]) := by simp [SV.res, El.res, At.res, keys]
theorem r59 {s : Shop} : SV.res (keys (α := Pred) []) (.t [.a (ai (s.mCheap)), .a (ai (s.mE (priceG s)))]) := by simp [SV.res, El.res, At.res, keys]
set_option maxHeartbeats 4000000 in
theorem c59 (s : Shop)  : Sig Try.prog 59 [.e (.g [ai (s.pounds), ai (s.tl), ai (s.th), ai (s.al), ai (s.ah), ai (s.room), ai (s.tpl), ai (s.tph), ai (s.apl), ai (s.aph), .q 0])] [(0, PL EPig (s.pigs))] (.t [.a (ai (s.mCheap)), .a (ai (s.mE (priceG s)))]) [] := by
  refine Sig.intro Try.func59 rfl 1 [(0, .e (.g [ai (s.pounds), ai (s.tl), ai (s.th), ai (s.al), ai (s.ah), ai (s.room), ai (s.tpl), ai (s.tph), ai (s.apl), ai (s.aph), .q 0]))] rfl w59 rfl rfl fun I w => ?_
  refine WP.seq ?_
  refine WP.region ?_
  refine WPl.l 1 2 rfl rfl rfl (o_boxg rfl) ?_
  refine WPl.v rfl (o_assign rfl) ?_
  refine WPl.v rfl (o_assign rfl) ?_
  refine WPl.nil ?_
  refine EX.then ?_
  refine WP.seq ?_
  refine WP.region ?_
  refine WPl.v rfl (o_ldpa G28 rfl rfl rfl) ?_
  refine WPl.cs 3 rfl rfl rfl rfl (o_sig 2 (ren [(0, 0)]) (c61 s) e61 rfl rfl rfl w61 ⟨(lx rfl), trivial⟩ r61) ?_
  refine WPl.v rfl (o_move rfl) ?_
  refine WPl.v rfl (o_extract rfl rfl) ?_
  refine WPl.v rfl (o_extract rfl rfl) ?_
  refine WPl.v rfl (o_assign rfl) ?_
  refine WPl.v rfl (o_assign rfl) ?_
  refine WPl.nil ?_
  refine EX.then ?_
  refine WP.seq ?_
  refine WP.seq ?_
  refine WP.region ?_
  refine WPl.v rfl (o_move rfl) ?_
  refine WPl.v rfl (o_neq rfl rfl) ?_
  refine WPl.nil ?_
  refine EX.then ?_
  refine WP.cond rfl (fun hc1 => ?_) (fun hc1 => ?_)
  · try simp only [decide_eq_true_eq, decide_eq_false_iff_not, Bool.and_eq_true, Bool.or_eq_true, Bool.and_eq_false_iff, Bool.or_eq_false_iff, Bool.not_eq_true', Bool.not_eq_false', ne_eq, Decidable.not_not] at hc1
    refine WP.seq ?_
    refine WP.region ?_
    refine WPl.v rfl (o_move rfl) ?_
    refine WPl.v rfl (o_assign rfl) ?_
    refine WPl.v rfl (o_assign rfl) ?_
    refine WPl.nil ?_
    refine EX.then ?_
    refine WP.ret ?_
    refine EX.ret_then ?_
    rw [show s.mCheap = 0 from if_neg (by simpa using hc1)]
    exact EX.fin id (.inl rfl) rfl (.tmp rfl (.tmp rfl .nil)) rfl (by simp [SV.res, El.res, At.res, keys]) trivial (by simp) (by simp)
  · try simp only [decide_eq_true_eq, decide_eq_false_iff_not, Bool.and_eq_true, Bool.or_eq_true, Bool.and_eq_false_iff, Bool.or_eq_false_iff, Bool.not_eq_true', Bool.not_eq_false', ne_eq, Decidable.not_not] at hc1
    have h0 : s.mE (priceG s) = 0 := by simpa using hc1
    have hs := (mE_eq h0).1
    have hpg := Shop.pigsOK hs
    obtain ⟨hok, hcv⟩ : s.okM (s.mAdd (priceG s)) = true ∧ s.mCheap = sumOf Pig.pence s.pigs (s.mAdd (priceG s)) := by
      rcases cheap_spec hs with ⟨h, _⟩ | ⟨_, h2, h3, _⟩
      · omega
      · exact ⟨h2, h3⟩
    have hx := okM_bnd hpg hok
    refine WP.skip ?_
    refine EX.then ?_
    refine WP.seq ?_
    refine WP.region ?_
    refine WPl.v rfl (o_ldpa G28 rfl rfl rfl) ?_
    refine WPl.v rfl (o_move rfl) ?_
    refine WPl.cs 3 rfl rfl rfl rfl (o_sig 3 (ren [(0, 0), (1, 2)]) (c65 s (s.mAdd (priceG s)) hpg hx.2.2 (by omega)) e65 rfl rfl rfl w65 ⟨(lx rfl), (lx rfl), trivial⟩ r65) ?_
    refine WPl.v rfl (o_assign rfl) ?_
    refine WPl.v rfl (o_assign rfl) ?_
    refine WPl.nil ?_
    refine EX.then ?_
    refine WP.ret ?_
    rw [hcv, h0]
    exact EX.fin id (.inl rfl) rfl (.tmp rfl (.tmp rfl .nil)) rfl (by simp [SV.res, El.res, At.res, keys]) trivial (by simp) (by simp)
theorem w63 {s : Shop} : ∀ x ∈ ([.e (.g [ai (s.pounds), ai (s.tl), ai (s.th), ai (s.al), ai (s.ah), ai (s.room), ai (s.tpl), ai (s.tph), ai (s.apl), ai (s.aph), .q 0])] : List SV), x.res (keys (α := Pred) [(0, PL EPig (s.pigs))]) := by simp [SV.res, El.res, At.res, keys]
theorem r63 {s : Shop} : SV.res (keys (α := Pred) []) (.t [.a (ai (s.mTin)), .a (ai (s.mE (tinG s)))]) := by simp [SV.res, El.res, At.res, keys]
set_option maxHeartbeats 4000000 in
theorem c63 (s : Shop)  : Sig Try.prog 63 [.e (.g [ai (s.pounds), ai (s.tl), ai (s.th), ai (s.al), ai (s.ah), ai (s.room), ai (s.tpl), ai (s.tph), ai (s.apl), ai (s.aph), .q 0])] [(0, PL EPig (s.pigs))] (.t [.a (ai (s.mTin)), .a (ai (s.mE (tinG s)))]) [] := by
  refine Sig.intro Try.func63 rfl 1 [(0, .e (.g [ai (s.pounds), ai (s.tl), ai (s.th), ai (s.al), ai (s.ah), ai (s.room), ai (s.tpl), ai (s.tph), ai (s.apl), ai (s.aph), .q 0]))] rfl w63 rfl rfl fun I w => ?_
  refine WP.seq ?_
  refine WP.region ?_
  refine WPl.l 1 2 rfl rfl rfl (o_boxg rfl) ?_
  refine WPl.v rfl (o_assign rfl) ?_
  refine WPl.v rfl (o_assign rfl) ?_
  refine WPl.nil ?_
  refine EX.then ?_
  refine WP.seq ?_
  refine WP.seq ?_
  refine WP.region ?_
  refine WPl.v rfl (o_ldpa G28 rfl rfl rfl) ?_
  refine WPl.cs 2 rfl rfl rfl rfl (o_sig 2 (ren [(0, 0)]) (c39 s) e39 rfl rfl rfl w39 ⟨(lx rfl), trivial⟩ r39) ?_
  refine WPl.v rfl (o_assign rfl) ?_
  refine WPl.nil ?_
  refine EX.then ?_
  refine WP.seq ?_
  refine WP.region ?_
  refine WPl.v rfl (o_move rfl) ?_
  refine WPl.v rfl (o_neq rfl rfl) ?_
  refine WPl.nil ?_
  refine EX.then ?_
  refine WP.cond rfl (fun hc1 => ?_) (fun hc1 => ?_)
  · try simp only [decide_eq_true_eq, decide_eq_false_iff_not, Bool.and_eq_true, Bool.or_eq_true, Bool.and_eq_false_iff, Bool.or_eq_false_iff, Bool.not_eq_true', Bool.not_eq_false', ne_eq, Decidable.not_not] at hc1
    have hs : s.chk = false := errM_ne.1 (by simpa using hc1)
    refine WP.seq ?_
    refine WP.region ?_
    refine WPl.v rfl (o_move rfl) ?_
    refine WPl.v rfl (o_assign rfl) ?_
    refine WPl.v rfl (o_assign rfl) ?_
    refine WPl.nil ?_
    refine EX.then ?_
    refine WP.ret ?_
    refine EX.ret_then ?_
    have hE : s.mE (tinG s) = errM s.chk := by unfold Shop.mE; rw [hs]; rfl
    rw [show s.mTin = 0 from by unfold Shop.mTin; rw [hE, hs]; rfl, hE]
    exact EX.fin id (.inl rfl) rfl (.tmp rfl (.tmp rfl .nil)) rfl (by simp [SV.res, El.res, At.res, keys]) trivial (by simp) (by simp)
  · try simp only [decide_eq_true_eq, decide_eq_false_iff_not, Bool.and_eq_true, Bool.or_eq_true, Bool.and_eq_false_iff, Bool.or_eq_false_iff, Bool.not_eq_true', Bool.not_eq_false', ne_eq, Decidable.not_not] at hc1
    have hs : s.chk = true := errM_eq.1 (by simpa using hc1)
    have hpg := Shop.pigsOK hs
    have hl4 := hpg.2
    have hrl := rsL_len hpg
    refine WP.skip ?_
    refine EX.then ?_
    refine WP.seq ?_
    refine WP.region ?_
    refine WPl.v rfl (o_ldpa G28 rfl rfl rfl) ?_
    refine WPl.cs 3 rfl rfl rfl rfl (o_sig 2 (ren [(0, 0)]) (c99 s hs) e99 rfl rfl rfl w99 ⟨(lx rfl), trivial⟩ r99) ?_
    refine WPl.v rfl (o_assign rfl) ?_
    refine WPl.nil ?_
    refine EX.then ?_
    refine WP.seq ?_
    refine WP.seq ?_
    refine WP.region ?_
    refine WPl.v rfl (o_move rfl) ?_
    refine WPl.v rfl (o_lenq L101 rfl (lx rfl)) ?_
    refine WPl.v rfl (o_eql rfl rfl) ?_
    refine WPl.nil ?_
    refine EX.then ?_
    refine WP.cond rfl (fun hc2 => ?_) (fun hc2 => ?_)
    · try simp only [decide_eq_true_eq, decide_eq_false_iff_not, Bool.and_eq_true, Bool.or_eq_true, Bool.and_eq_false_iff, Bool.or_eq_false_iff, Bool.not_eq_true', Bool.not_eq_false', ne_eq, Decidable.not_not] at hc2
      obtain ⟨h1, h2⟩ : s.mE (tinG s) = 3 ∧ s.mTin = 0 := by
        rcases rtin hs with ⟨_, h⟩ | ⟨h, _⟩
        · exact h
        · omega
      refine WP.seq ?_
      refine WP.region ?_
      refine WPl.v rfl (o_assign rfl) ?_
      refine WPl.v rfl (o_assign rfl) ?_
      refine WPl.nil ?_
      refine EX.then ?_
      refine WP.ret ?_
      refine EX.ret_then ?_
      rw [h2, h1]
      exact EX.fin id (.inl rfl) rfl (.tmp rfl (.tmp rfl .nil)) rfl (by simp [SV.res, El.res, At.res, keys]) trivial (by simp) (by simp)
    · try simp only [decide_eq_true_eq, decide_eq_false_iff_not, Bool.and_eq_true, Bool.or_eq_true, Bool.and_eq_false_iff, Bool.or_eq_false_iff, Bool.not_eq_true', Bool.not_eq_false', ne_eq, Decidable.not_not] at hc2
      have hl0 : 0 < s.rsL.length := by omega
      obtain ⟨h1, h2⟩ : s.mE (tinG s) = 0 ∧ s.mTin = s.rtTo s.rsL s.rsL.length := by
        rcases rtin hs with ⟨h, _⟩ | ⟨_, h⟩
        · rw [h] at hl0; simp at hl0
        · exact h
      have hz := okM_bnd hpg (rsL_at hpg hl0)
      refine WP.skip ?_
      refine EX.then ?_
      refine WP.seq ?_
      refine WP.draw (nf := 5) [⟨[19, 20, 21], [3, 4], [], [], []⟩, ⟨[18], [], [], [], []⟩, ⟨[18], [], [3], [3], [1]⟩, ⟨[18], [], [4], [4], [1, 2]⟩, ⟨[], [], [], [], [0, 1, 2, 3]⟩, ⟨[], [], [], [], [0, 1, 2, 3, 4]⟩] (by kernel_rfl) (by kernel_rfl) ?_
      refine DRQ.v rfl rfl rfl (o_ldpa G28 rfl rfl rfl) ?_
      refine DRQ.v rfl rfl rfl (o_move rfl) ?_
      refine DRQ.x 3 rfl rfl rfl rfl (o_idx L101 rfl (lx rfl) rfl (by first | omega | (simp; omega)) (by first | omega | (simp; omega))) ?_
      refine DRQ.x 4 rfl rfl rfl rfl (o_ldqx S29 rfl (lx rfl) slx) ?_
      refine DRQ.cs rfl rfl rfl rfl (o_sig 5 (ren [(0, 0), (1, 4)]) (c48 s (nth s.rsL 0) hpg (by exact hz.2.2) (by have := hz.1; exact Nat.le_of_eq this)) e48 rfl rfl rfl w48 ⟨(lx rfl), (lx rfl), trivial⟩ r48) ?_
      refine DRQ.v rfl rfl rfl (o_assign rfl) ?_
      refine DRQ.nil' ?_
      refine EX.then ?_
      refine WP.seq ?_
      refine WP.seq ?_
      refine WP.region ?_
      refine WPl.v rfl (o_assign rfl) ?_
      refine WPl.nil ?_
      refine EX.then ?_
      refine WP.block ?_
      refine WP.loop (Gh := Nat) (fun i => ⟨5, [(1, .e (.a (.p 1 (0)))), (2, .i (0)), (3, .i (0)), (5, .e (.a (.q 2))), (6, .i (s.rtTo s.rsL i)), (7, .i ((i : Int)))], [(0, PL EPig (s.pigs)), (2, PL (EP.sl EP.int) (s.rsL))], [(1, .blk [ai (s.pounds), ai (s.tl), ai (s.th), ai (s.al), ai (s.ah), ai (s.room), ai (s.tpl), ai (s.tph), ai (s.apl), ai (s.aph), .q 0] 28)], [], []⟩) (fun i => i ≤ s.rsL.length) (fun i => s.rsL.length - i) (0) id ?_ (LeR.of ⟨rfl, rfl, rfl, rfl, rfl, rfl, trivial⟩ ⟨(lx rfl), (lx rfl), trivial⟩ ⟨rfl, trivial⟩ rfl rfl rfl rfl rfl) ?_
      · first | trivial | omega | (constructor <;> omega) | simp
      intro i hφ
      have hi : i ≤ s.rsL.length := hφ
      refine WP.seq ?_
      refine WP.seq ?_
      refine WP.region ?_
      refine WPl.v rfl (o_move rfl) ?_
      refine WPl.v rfl (o_move rfl) ?_
      refine WPl.v rfl (o_lenq L101 rfl (lx rfl)) ?_
      refine WPl.v rfl (o_lss rfl rfl) ?_
      refine WPl.nil ?_
      refine EX.then ?_
      refine WP.cond rfl (fun hc3 => ?_) (fun hc3 => ?_)
      · try simp only [decide_eq_true_eq, decide_eq_false_iff_not, Bool.and_eq_true, Bool.or_eq_true, Bool.and_eq_false_iff, Bool.or_eq_false_iff, Bool.not_eq_true', Bool.not_eq_false', ne_eq, Decidable.not_not] at hc3
        have hx := okM_bnd hpg (rsL_at hpg (show i < s.rsL.length by omega))
        refine WP.skip ?_
        refine EX.then ?_
        refine WP.seq ?_
        refine WP.block ?_
        refine WP.draw (nf := 7) [⟨[30, 31, 32, 33, 34, 35], [5, 6], [], [], []⟩, ⟨[29, 31, 32, 33, 34], [5, 6], [], [], []⟩, ⟨[29, 30, 32], [], [], [], []⟩, ⟨[29, 30, 31], [], [], [], []⟩, ⟨[29, 30], [], [5], [5], [2, 3]⟩, ⟨[29, 30], [], [6], [6], [2, 3, 4]⟩, ⟨[29], [], [], [], [1, 2, 3, 4, 5]⟩, ⟨[], [], [], [], [0, 1, 2, 3, 4, 5, 6]⟩, ⟨[], [], [], [], [0, 1, 2, 3, 4, 5, 6, 7]⟩] (by kernel_rfl) (by kernel_rfl) ?_
        refine DRQ.v rfl rfl rfl (o_move rfl) ?_
        refine DRQ.v rfl rfl rfl (o_ldpa G28 rfl rfl rfl) ?_
        refine DRQ.v rfl rfl rfl (o_move rfl) ?_
        refine DRQ.v rfl rfl rfl (o_move rfl) ?_
        refine DRQ.x 5 rfl rfl rfl rfl (o_idx L101 rfl (lx rfl) rfl (by first | omega | (simp; omega)) (by first | omega | (simp; omega))) ?_
        refine DRQ.x 6 rfl rfl rfl rfl (o_ldqx S29 rfl (lx rfl) slx) ?_
        refine DRQ.cs rfl rfl rfl rfl (o_sig 7 (ren [(0, 0), (1, 6)]) (c48 s (nth s.rsL (i : Int)) hpg hx.2.2 (by omega)) e48 rfl rfl rfl w48 ⟨(lx rfl), (lx rfl), trivial⟩ r48) ?_
        refine DRQ.v rfl rfl rfl (o_min rfl rfl) ?_
        refine DRQ.v rfl rfl rfl (o_assign rfl) ?_
        refine DRQ.nil' ?_
        refine EX.blk ?_
        refine EX.then ?_
        refine WP.region ?_
        refine WPl.v rfl (o_move rfl) ?_
        refine WPl.v rfl (o_add rfl rfl (by first | omega | (simp; omega)) (by first | omega | (simp; omega))) ?_
        refine WPl.v rfl (o_assign rfl) ?_
        refine WPl.nil ?_
        refine EX.again (i + 1) id (by first | omega | (constructor <;> omega)) (by omega) (LeR.of ⟨rfl, rfl, rfl, rfl, rfl, rfl, trivial⟩ ⟨(lx rfl), (lx rfl), trivial⟩ ⟨rfl, trivial⟩ rfl rfl rfl rfl rfl)
      · try simp only [decide_eq_true_eq, decide_eq_false_iff_not, Bool.and_eq_true, Bool.or_eq_true, Bool.and_eq_false_iff, Bool.or_eq_false_iff, Bool.not_eq_true', Bool.not_eq_false', ne_eq, Decidable.not_not] at hc3
        refine WP.exit ?_
        refine EX.exit_then ?_
        refine EX.exit_then ?_
        refine EX.exit_blk ?_
        refine EX.then ?_
        refine WP.seq ?_
        refine WP.region ?_
        refine WPl.v rfl (o_move rfl) ?_
        refine WPl.v rfl (o_assign rfl) ?_
        refine WPl.v rfl (o_assign rfl) ?_
        refine WPl.nil ?_
        refine EX.then ?_
        refine WP.ret ?_
        have hie : i = s.rsL.length := by omega
        subst hie
        rw [h2, h1]
        exact EX.fin id (.inl rfl) rfl (.tmp rfl (.tmp rfl .nil)) rfl (by simp [SV.res, El.res, At.res, keys]) trivial (by simp) (by simp)
theorem w51 {s : Shop} : ∀ x ∈ ([.e (.g [ai (s.pounds), ai (s.tl), ai (s.th), ai (s.al), ai (s.ah), ai (s.room), ai (s.tpl), ai (s.tph), ai (s.apl), ai (s.aph), .q 0])] : List SV), x.res (keys (α := Pred) [(0, PL EPig (s.pigs))]) := by simp [SV.res, El.res, At.res, keys]
theorem r51 {s : Shop} : SV.res (keys (α := Pred) []) (.t [.g [ai (s.mKnown.1), ai (s.mKnown.2)], .a (ai (s.kE))]) := by simp [SV.res, El.res, At.res, keys]
set_option maxHeartbeats 4000000 in
theorem c51 (s : Shop)  : Sig Try.prog 51 [.e (.g [ai (s.pounds), ai (s.tl), ai (s.th), ai (s.al), ai (s.ah), ai (s.room), ai (s.tpl), ai (s.tph), ai (s.apl), ai (s.aph), .q 0])] [(0, PL EPig (s.pigs))] (.t [.g [ai (s.mKnown.1), ai (s.mKnown.2)], .a (ai (s.kE))]) [] := by
  refine Sig.intro Try.func51 rfl 1 [(0, .e (.g [ai (s.pounds), ai (s.tl), ai (s.th), ai (s.al), ai (s.ah), ai (s.room), ai (s.tpl), ai (s.tph), ai (s.apl), ai (s.aph), .q 0]))] rfl w51 rfl rfl fun I w => ?_
  refine WP.seq ?_
  refine WP.region ?_
  refine WPl.l 1 2 rfl rfl rfl (o_boxg rfl) ?_
  refine WPl.l 2 3 rfl rfl rfl (o_alloc Z23) ?_
  refine WPl.v rfl (o_assign rfl) ?_
  refine WPl.nil ?_
  refine EX.then ?_
  refine WP.seq ?_
  refine WP.seq ?_
  refine WP.region ?_
  refine WPl.v rfl (o_ldpa G28 rfl rfl rfl) ?_
  refine WPl.cs 3 rfl rfl rfl rfl (o_sig 3 (ren [(0, 0)]) (c39 s) e39 rfl rfl rfl w39 ⟨(lx rfl), trivial⟩ r39) ?_
  refine WPl.v rfl (o_assign rfl) ?_
  refine WPl.nil ?_
  refine EX.then ?_
  refine WP.seq ?_
  refine WP.region ?_
  refine WPl.v rfl (o_move rfl) ?_
  refine WPl.v rfl (o_neq rfl rfl) ?_
  refine WPl.nil ?_
  refine EX.then ?_
  refine WP.cond rfl (fun hc1 => ?_) (fun hc1 => ?_)
  · try simp only [decide_eq_true_eq, decide_eq_false_iff_not, Bool.and_eq_true, Bool.or_eq_true, Bool.and_eq_false_iff, Bool.or_eq_false_iff, Bool.not_eq_true', Bool.not_eq_false', ne_eq, Decidable.not_not] at hc1
    have hs : s.chk = false := errM_ne.1 (by simpa using hc1)
    refine WP.seq ?_
    refine WP.region ?_
    refine WPl.v rfl (o_build B23 rfl trivial rfl rfl) ?_
    refine WPl.v rfl (o_move rfl) ?_
    refine WPl.s1 (o_stag G23 rfl rfl rfl ⟨rfl, rfl, trivial⟩ rfl rfl) ?_
    refine WPl.v rfl (o_assign rfl) ?_
    refine WPl.nil ?_
    refine EX.then ?_
    refine WP.ret ?_
    refine EX.ret_then ?_
    have hE : s.kE = errM s.chk := by unfold Shop.kE; rw [hs]; rfl
    rw [hE, show s.mKnown = (0, 0) from by unfold Shop.mKnown; rw [hE, hs]; rfl]
    exact EX.fin id (.inl rfl) rfl (.cellg G23 rfl rfl rfl (.tmp rfl .nil)) rfl (by simp [SV.res, El.res, At.res, keys]) trivial (by simp) (by simp)
  · try simp only [decide_eq_true_eq, decide_eq_false_iff_not, Bool.and_eq_true, Bool.or_eq_true, Bool.and_eq_false_iff, Bool.or_eq_false_iff, Bool.not_eq_true', Bool.not_eq_false', ne_eq, Decidable.not_not] at hc1
    have hs : s.chk = true := errM_eq.1 (by simpa using hc1)
    have hpg := Shop.pigsOK hs
    have hl4 := hpg.2
    have htb := tl_bnd hs
    have hnT : s.nT = (s.th - s.tl + 1).toNat := rfl
    have hnA : s.nA = (s.ah - s.al + 1).toNat := rfl
    have hn0 : 0 < s.nA := by omega
    refine WP.skip ?_
    refine EX.then ?_
    refine WP.seq ?_
    refine WP.region ?_
    refine WPl.l 3 4 rfl rfl rfl (o_alloc Z23) ?_
    refine WPl.nil ?_
    refine EX.then ?_
    refine WP.seq ?_
    refine WP.region ?_
    refine WPl.v rfl (o_assign rfl) ?_
    refine WPl.nil ?_
    refine EX.then ?_
    refine WP.seq ?_
    refine WP.seq ?_
    refine WP.region ?_
    refine WPl.v rfl (o_fldp F28_0 rfl) ?_
    refine WPl.v rfl (o_fldp F25_1 rfl) ?_
    refine WPl.v rfl (o_fldp F23_0 rfl) ?_
    refine WPl.v rfl (o_ldp S3 rfl rfl rfl) ?_
    refine WPl.v rfl (o_assign rfl) ?_
    refine WPl.nil ?_
    refine EX.then ?_
    refine WP.block ?_
    refine WP.loop (Gh := Nat) (fun i => ⟨4, [(1, .e (.a (.p 1 (0)))), (2, .e (.a (.p 2 (0)))), (3, .i (0)), (5, .e (.a (.p 3 (0)))), (6, .b (decide ((i : Int) = 0))), (7, .i (s.tl + (i : Int)))], [(0, PL EPig (s.pigs))], [(1, .blk [ai (s.pounds), ai (s.tl), ai (s.th), ai (s.al), ai (s.ah), ai (s.room), ai (s.tpl), ai (s.tph), ai (s.apl), ai (s.aph), .q 0] 28), (2, .blk [ai (0), ai (0)] 23), (3, .blk [ai ((s.rkAt i 0).1), ai ((s.rkAt i 0).2)] 23)], [], []⟩) (fun i => i ≤ s.nT ∧ allI s.knRow i = true) (fun i => s.nT - i) (0) id ?_ (LeR.of ⟨rfl, rfl, rfl, rfl, (congrArg (fun z => some (SV.b z)) (show (true) = ((fun i => decide ((i : Int) = 0)) 0) from by simp)), (congrArg (fun z => some (SV.i z)) (show (s.tl) = ((fun i => s.tl + (i : Int)) 0) from by simp)), trivial⟩ ⟨(lx rfl), trivial⟩ ⟨rfl, rfl, (congrArg (fun z => some (Ent.blk z 23)) (List.cons_eq_cons.2 ⟨(congrArg (fun z => ai z) (show (0) = ((fun i => (s.rkAt i 0).1) 0) from by simp [Shop.rkAt])), (List.cons_eq_cons.2 ⟨(congrArg (fun z => ai z) (show (0) = ((fun i => (s.rkAt i 0).2) 0) from by simp [Shop.rkAt])), (Eq.refl [])⟩)⟩)), trivial⟩ rfl rfl rfl rfl rfl) ?_
    · exact ⟨Nat.zero_le _, rfl⟩
    intro i hφ
    obtain ⟨hiN, hall⟩ : i ≤ s.nT ∧ allI s.knRow i = true := hφ
    refine WP.seq ?_
    refine WP.seq ?_
    refine WP.region ?_
    refine WPl.v rfl (o_move rfl) ?_
    refine WPl.v rfl (o_fldp F28_0 rfl) ?_
    refine WPl.v rfl (o_fldp F25_1 rfl) ?_
    refine WPl.v rfl (o_fldp F23_1 rfl) ?_
    refine WPl.v rfl (o_ldp S3 rfl rfl rfl) ?_
    refine WPl.v rfl (o_leq rfl rfl) ?_
    refine WPl.nil ?_
    refine EX.then ?_
    refine WP.cond rfl (fun hc2 => ?_) (fun hc2 => ?_)
    · try simp only [decide_eq_true_eq, decide_eq_false_iff_not, Bool.and_eq_true, Bool.or_eq_true, Bool.and_eq_false_iff, Bool.or_eq_false_iff, Bool.not_eq_true', Bool.not_eq_false', ne_eq, Decidable.not_not] at hc2
      refine WP.skip ?_
      refine EX.then ?_
      refine WP.seq ?_
      refine WP.block ?_
      refine WP.seq ?_
      refine WP.region ?_
      refine WPl.v rfl (o_fldp F28_0 rfl) ?_
      refine WPl.v rfl (o_fldp F25_2 rfl) ?_
      refine WPl.v rfl (o_fldp F23_0 rfl) ?_
      refine WPl.v rfl (o_ldp S3 rfl rfl rfl) ?_
      refine WPl.v rfl (o_assign rfl) ?_
      refine WPl.nil ?_
      refine EX.then ?_
      refine WP.block ?_
      refine WP.loop (Gh := Nat) (fun j => ⟨4, [(1, .e (.a (.p 1 (0)))), (2, .e (.a (.p 2 (0)))), (3, .i (0)), (5, .e (.a (.p 3 (0)))), (6, .b (decide ((i : Int) = 0) && decide ((j : Int) = 0))), (7, .i (s.tl + (i : Int))), (21, .i (s.tl + (i : Int))), (22, .e (.a (.p 1 (0)))), (23, .e (.a (.p 1 (1)))), (24, .e (.a (.p 1 (2)))), (25, .i (s.th)), (26, .b (decide ((s.tl + (i : Int)) ≤ s.th))), (29, .e (.a (.p 1 (0)))), (30, .e (.a (.p 1 (3)))), (31, .e (.a (.p 1 (3)))), (32, .i (s.al)), (8, .i (s.al + (j : Int)))], [(0, PL EPig (s.pigs))], [(1, .blk [ai (s.pounds), ai (s.tl), ai (s.th), ai (s.al), ai (s.ah), ai (s.room), ai (s.tpl), ai (s.tph), ai (s.apl), ai (s.aph), .q 0] 28), (2, .blk [ai (0), ai (0)] 23), (3, .blk [ai ((s.rkAt i j).1), ai ((s.rkAt i j).2)] 23)], [], []⟩) (fun j => j ≤ s.nA ∧ allI (s.hitAt i) j = true) (fun j => s.nA - j) (0) id ?_ (LeR.of ⟨rfl, rfl, rfl, rfl, (congrArg (fun z => some (SV.b z)) (show (decide ((i : Int) = 0)) = ((fun j => decide ((i : Int) = 0) && decide ((j : Int) = 0)) 0) from by simp)), rfl, rfl, rfl, rfl, rfl, rfl, rfl, rfl, rfl, rfl, rfl, (congrArg (fun z => some (SV.i z)) (show (s.al) = ((fun j => s.al + (j : Int)) 0) from by simp)), trivial⟩ ⟨(lx rfl), trivial⟩ ⟨rfl, rfl, rfl, trivial⟩ rfl rfl rfl rfl rfl) ?_
      · exact ⟨Nat.zero_le _, rfl⟩
      intro j hφ
      obtain ⟨hjN, hrow⟩ : j ≤ s.nA ∧ allI (s.hitAt i) j = true := hφ
      refine WP.seq ?_
      refine WP.seq ?_
      refine WP.region ?_
      refine WPl.v rfl (o_move rfl) ?_
      refine WPl.v rfl (o_fldp F28_0 rfl) ?_
      refine WPl.v rfl (o_fldp F25_2 rfl) ?_
      refine WPl.v rfl (o_fldp F23_1 rfl) ?_
      refine WPl.v rfl (o_ldp S3 rfl rfl rfl) ?_
      refine WPl.v rfl (o_leq rfl rfl) ?_
      refine WPl.nil ?_
      refine EX.then ?_
      refine WP.cond rfl (fun hc3 => ?_) (fun hc3 => ?_)
      · try simp only [decide_eq_true_eq, decide_eq_false_iff_not, Bool.and_eq_true, Bool.or_eq_true, Bool.and_eq_false_iff, Bool.or_eq_false_iff, Bool.not_eq_true', Bool.not_eq_false', ne_eq, Decidable.not_not] at hc3
        have hT : s.InT (s.tl + (i : Int)) (s.al + (j : Int)) := InT_of (by omega) (by omega)
        have hps := pen_spec hs hT
        refine WP.skip ?_
        refine EX.then ?_
        refine WP.seq ?_
        refine WP.block ?_
        refine WP.seq ?_
        refine WP.region ?_
        refine WPl.v rfl (o_ldpa G28 rfl rfl rfl) ?_
        refine WPl.v rfl (o_move rfl) ?_
        refine WPl.v rfl (o_move rfl) ?_
        refine WPl.cs 5 rfl rfl rfl rfl (o_sig 4 (ren [(0, 0)]) (c34 s (s.tl + (i : Int)) (s.al + (j : Int)) (by omega)) e34 rfl rfl rfl w34 ⟨(lx rfl), trivial⟩ r34) ?_
        refine WPl.cs 5 rfl rfl rfl rfl (o_sig 5 (ren [(0, 4)]) (c59 (s.inTr (s.tl + (i : Int)) (s.al + (j : Int)))) e59 rfl rfl rfl w59 ⟨(lx rfl), trivial⟩ r59) ?_
        refine WPl.v rfl (o_move rfl) ?_
        refine WPl.v rfl (o_extract rfl rfl) ?_
        refine WPl.v rfl (o_extract rfl rfl) ?_
        refine WPl.v rfl (o_assign rfl) ?_
        refine WPl.v rfl (o_assign rfl) ?_
        refine WPl.nil ?_
        refine EX.then ?_
        refine WP.seq ?_
        refine WP.seq ?_
        refine WP.region ?_
        refine WPl.v rfl (o_move rfl) ?_
        refine WPl.v rfl (o_neq rfl rfl) ?_
        refine WPl.nil ?_
        refine EX.then ?_
        refine WP.cond rfl (fun hc4 => ?_) (fun hc4 => ?_)
        · try simp only [decide_eq_true_eq, decide_eq_false_iff_not, Bool.and_eq_true, Bool.or_eq_true, Bool.and_eq_false_iff, Bool.or_eq_false_iff, Bool.not_eq_true', Bool.not_eq_false', ne_eq, Decidable.not_not] at hc4
          have h3 : (s.inTr (s.tl + (i : Int)) (s.al + (j : Int))).mE (priceG (s.inTr (s.tl + (i : Int)) (s.al + (j : Int)))) = 3 ∧ s.hitAt i j = false := by
            rcases hps with ⟨h, g⟩ | ⟨_, h, _⟩
            · exact ⟨g, h⟩
            · exact absurd h (by simpa using hc4)
          refine WP.seq ?_
          refine WP.region ?_
          refine WPl.v rfl (o_build B23 rfl trivial rfl rfl) ?_
          refine WPl.v rfl (o_move rfl) ?_
          refine WPl.s1 (o_stag G23 rfl rfl rfl ⟨rfl, rfl, trivial⟩ rfl rfl) ?_
          refine WPl.v rfl (o_assign rfl) ?_
          refine WPl.nil ?_
          refine EX.then ?_
          refine WP.ret ?_
          refine EX.ret_then ?_
          refine EX.ret_blk ?_
          refine EX.ret_then ?_
          refine EX.ret_then ?_
          refine EX.ret_blk ?_
          refine EX.ret_blk ?_
          refine EX.ret_then ?_
          refine EX.ret_then ?_
          refine EX.ret_blk ?_
          refine EX.ret_then ?_
          have hno : allI s.knRow s.nT = false := not_allI (show i < s.nT by omega) (not_allI (show j < s.nA by omega) h3.2)
          have hE : s.kE = 3 := by unfold Shop.kE; rw [hs, if_pos rfl]; exact if_neg (by rw [hno]; simp)
          rw [hE, show s.mKnown = (0, 0) from by unfold Shop.mKnown; rw [hE]; rfl]
          rw [h3.1]
          exact EX.fin id (.inl rfl) rfl (.cellg G23 rfl rfl rfl (.tmp rfl .nil)) rfl (by simp [SV.res, El.res, At.res, keys]) trivial (by simp) (by simp)
        · try simp only [decide_eq_true_eq, decide_eq_false_iff_not, Bool.and_eq_true, Bool.or_eq_true, Bool.and_eq_false_iff, Bool.or_eq_false_iff, Bool.not_eq_true', Bool.not_eq_false', ne_eq, Decidable.not_not] at hc4
          have hh : s.hitAt i j = true ∧ s.penAt i j = (s.inTr (s.tl + (i : Int)) (s.al + (j : Int))).mCheap := by
            rcases hps with ⟨_, h⟩ | ⟨h, _, g⟩
            · have : (s.inTr (s.tl + (i : Int)) (s.al + (j : Int))).mE (priceG (s.inTr (s.tl + (i : Int)) (s.al + (j : Int)))) = 0 := by simpa using hc4
              omega
            · exact ⟨h, g⟩
          have hcb := mCheap_bnd (s.inTr (s.tl + (i : Int)) (s.al + (j : Int)))
          refine WP.skip ?_
          refine EX.then ?_
          refine WP.seq ?_
          refine WP.seq ?_
          refine WP.region ?_
          refine WPl.v rfl (o_move rfl) ?_
          refine WPl.nil ?_
          refine EX.then ?_
          refine WP.cond rfl (fun hc5 => ?_) (fun hc5 => ?_)
          · try simp only [decide_eq_true_eq, decide_eq_false_iff_not, Bool.and_eq_true, Bool.or_eq_true, Bool.and_eq_false_iff, Bool.or_eq_false_iff, Bool.not_eq_true', Bool.not_eq_false', ne_eq, Decidable.not_not] at hc5
            refine WP.seq ?_
            refine WP.region ?_
            refine WPl.v rfl (o_move rfl) ?_
            refine WPl.v rfl (o_move rfl) ?_
            refine WPl.v rfl (o_build B23 rfl ⟨rfl, rfl, trivial⟩ rfl rfl) ?_
            refine WPl.s1 (o_stag G23 rfl rfl rfl ⟨rfl, rfl, trivial⟩ rfl rfl) ?_
            refine WPl.nil ?_
            refine EX.then ?_
            refine WP.region ?_
            refine WPl.v rfl (o_assign rfl) ?_
            refine WPl.nil ?_
            refine EX.then ?_
            refine WP.region ?_
            refine WPl.v rfl (o_fldp F23_0 rfl) ?_
            refine WPl.v rfl (o_ldp S3 rfl rfl rfl) ?_
            refine WPl.v rfl (o_move rfl) ?_
            refine WPl.v rfl (o_min rfl rfl) ?_
            refine WPl.v rfl (o_fldp F23_1 rfl) ?_
            refine WPl.v rfl (o_ldp S3 rfl rfl rfl) ?_
            refine WPl.v rfl (o_move rfl) ?_
            refine WPl.v rfl (o_max rfl rfl) ?_
            refine WPl.v rfl (o_build B23 rfl ⟨rfl, rfl, trivial⟩ rfl rfl) ?_
            refine WPl.s1 (o_stag G23 rfl rfl rfl ⟨rfl, rfl, trivial⟩ rfl rfl) ?_
            refine WPl.nil ?_
            refine EX.blk ?_
            refine EX.then ?_
            refine WP.region ?_
            refine WPl.v rfl (o_move rfl) ?_
            refine WPl.v rfl (o_add rfl rfl (by first | omega | (simp; omega)) (by first | omega | (simp; omega))) ?_
            refine WPl.v rfl (o_assign rfl) ?_
            refine WPl.nil ?_
            refine EX.again (j + 1) id (by exact ⟨by omega, by simp only [allI, hrow, Bool.true_and]; exact hh.1⟩) (by omega) (LeR.of ⟨rfl, rfl, rfl, rfl, (congrArg (fun z => some (SV.b z)) (show (false) = ((fun j => decide ((i : Int) = 0) && decide ((j : Int) = 0)) (j + 1)) from by dsimp only; rw [decide_eq_false (show ¬ (j : Int) + 1 = 0 by omega), Bool.and_false])), rfl, rfl, rfl, rfl, rfl, rfl, rfl, rfl, rfl, rfl, rfl, (congrArg (fun z => some (SV.i z)) (show ((s.al + (j : Int)) + 1) = ((fun j => s.al + (j : Int)) (j + 1)) from by show s.al + (j : Int) + 1 = s.al + ((j + 1 : Nat) : Int); omega)), trivial⟩ ⟨(lx rfl), trivial⟩ ⟨rfl, rfl, (congrArg (fun z => some (Ent.blk z 23)) (List.cons_eq_cons.2 ⟨(congrArg (fun z => ai z) (show (min ((s.inTr (s.tl + (i : Int)) (s.al + (j : Int))).mCheap) ((s.inTr (s.tl + (i : Int)) (s.al + (j : Int))).mCheap)) = ((fun j => (s.rkAt i j).1) (j + 1)) from by dsimp only; first | (rw [(rk_step hs hall hrow hn0 hh.1).1 ⟨by omega, by omega⟩, hh.2]) | (rw [(rk_step hs hall hrow hn0 hh.1).2 (by omega), hh.2]))), (List.cons_eq_cons.2 ⟨(congrArg (fun z => ai z) (show (max ((s.inTr (s.tl + (i : Int)) (s.al + (j : Int))).mCheap) ((s.inTr (s.tl + (i : Int)) (s.al + (j : Int))).mCheap)) = ((fun j => (s.rkAt i j).2) (j + 1)) from by dsimp only; first | (rw [(rk_step hs hall hrow hn0 hh.1).1 ⟨by omega, by omega⟩, hh.2]) | (rw [(rk_step hs hall hrow hn0 hh.1).2 (by omega), hh.2]))), (Eq.refl [])⟩)⟩)), trivial⟩ rfl rfl rfl rfl rfl)
          · try simp only [decide_eq_true_eq, decide_eq_false_iff_not, Bool.and_eq_true, Bool.or_eq_true, Bool.and_eq_false_iff, Bool.or_eq_false_iff, Bool.not_eq_true', Bool.not_eq_false', ne_eq, Decidable.not_not] at hc5
            refine WP.skip ?_
            refine EX.then ?_
            refine WP.region ?_
            refine WPl.v rfl (o_fldp F23_0 rfl) ?_
            refine WPl.v rfl (o_ldp S3 rfl rfl rfl) ?_
            refine WPl.v rfl (o_move rfl) ?_
            refine WPl.v rfl (o_min rfl rfl) ?_
            refine WPl.v rfl (o_fldp F23_1 rfl) ?_
            refine WPl.v rfl (o_ldp S3 rfl rfl rfl) ?_
            refine WPl.v rfl (o_move rfl) ?_
            refine WPl.v rfl (o_max rfl rfl) ?_
            refine WPl.v rfl (o_build B23 rfl ⟨rfl, rfl, trivial⟩ rfl rfl) ?_
            refine WPl.s1 (o_stag G23 rfl rfl rfl ⟨rfl, rfl, trivial⟩ rfl rfl) ?_
            refine WPl.nil ?_
            refine EX.blk ?_
            refine EX.then ?_
            refine WP.region ?_
            refine WPl.v rfl (o_move rfl) ?_
            refine WPl.v rfl (o_add rfl rfl (by first | omega | (simp; omega)) (by first | omega | (simp; omega))) ?_
            refine WPl.v rfl (o_assign rfl) ?_
            refine WPl.nil ?_
            refine EX.again (j + 1) id (by exact ⟨by omega, by simp only [allI, hrow, Bool.true_and]; exact hh.1⟩) (by omega) (LeR.of ⟨rfl, rfl, rfl, rfl, (congrArg (fun z => some (SV.b z)) (show (decide ((i : Int) = 0) && decide ((j : Int) = 0)) = ((fun j => decide ((i : Int) = 0) && decide ((j : Int) = 0)) (j + 1)) from by dsimp only; rw [decide_eq_false (show ¬ (j : Int) + 1 = 0 by omega), Bool.and_false]; rcases hc5 with h | h; (rw [decide_eq_false h, Bool.false_and]); (rw [decide_eq_false h, Bool.and_false]))), rfl, rfl, rfl, rfl, rfl, rfl, rfl, rfl, rfl, rfl, rfl, (congrArg (fun z => some (SV.i z)) (show ((s.al + (j : Int)) + 1) = ((fun j => s.al + (j : Int)) (j + 1)) from by show s.al + (j : Int) + 1 = s.al + ((j + 1 : Nat) : Int); omega)), trivial⟩ ⟨(lx rfl), trivial⟩ ⟨rfl, rfl, (congrArg (fun z => some (Ent.blk z 23)) (List.cons_eq_cons.2 ⟨(congrArg (fun z => ai z) (show (min ((s.rkAt i j).1) ((s.inTr (s.tl + (i : Int)) (s.al + (j : Int))).mCheap)) = ((fun j => (s.rkAt i j).1) (j + 1)) from by dsimp only; first | (rw [(rk_step hs hall hrow hn0 hh.1).1 ⟨by omega, by omega⟩, hh.2]) | (rw [(rk_step hs hall hrow hn0 hh.1).2 (by omega), hh.2]))), (List.cons_eq_cons.2 ⟨(congrArg (fun z => ai z) (show (max ((s.rkAt i j).2) ((s.inTr (s.tl + (i : Int)) (s.al + (j : Int))).mCheap)) = ((fun j => (s.rkAt i j).2) (j + 1)) from by dsimp only; first | (rw [(rk_step hs hall hrow hn0 hh.1).1 ⟨by omega, by omega⟩, hh.2]) | (rw [(rk_step hs hall hrow hn0 hh.1).2 (by omega), hh.2]))), (Eq.refl [])⟩)⟩)), trivial⟩ rfl rfl rfl rfl rfl)
      · try simp only [decide_eq_true_eq, decide_eq_false_iff_not, Bool.and_eq_true, Bool.or_eq_true, Bool.and_eq_false_iff, Bool.or_eq_false_iff, Bool.not_eq_true', Bool.not_eq_false', ne_eq, Decidable.not_not] at hc3
        refine WP.exit ?_
        refine EX.exit_then ?_
        refine EX.exit_then ?_
        refine EX.exit_blk ?_
        refine EX.blk ?_
        refine EX.then ?_
        refine WP.region ?_
        refine WPl.v rfl (o_move rfl) ?_
        refine WPl.v rfl (o_add rfl rfl (by first | omega | (simp; omega)) (by first | omega | (simp; omega))) ?_
        refine WPl.v rfl (o_assign rfl) ?_
        refine WPl.nil ?_
        have hje : j = s.nA := by omega
        refine EX.again (i + 1) id (by exact ⟨by omega, by simp only [allI, hall, Bool.true_and]; rw [hje] at hrow; exact hrow⟩) (by omega) (LeR.of ⟨rfl, rfl, rfl, rfl, (congrArg (fun z => some (SV.b z)) (show (decide ((i : Int) = 0) && decide ((j : Int) = 0)) = ((fun i => decide ((i : Int) = 0)) (i + 1)) from by dsimp only; rw [decide_eq_false (show ¬ (j : Int) = 0 by omega), Bool.and_false, decide_eq_false (show ¬ (i : Int) + 1 = 0 by omega)])), (congrArg (fun z => some (SV.i z)) (show ((s.tl + (i : Int)) + 1) = ((fun i => s.tl + (i : Int)) (i + 1)) from by show s.tl + (i : Int) + 1 = s.tl + ((i + 1 : Nat) : Int); omega)), trivial⟩ ⟨(lx rfl), trivial⟩ ⟨rfl, rfl, (congrArg (fun z => some (Ent.blk z 23)) (List.cons_eq_cons.2 ⟨(congrArg (fun z => ai z) (show ((s.rkAt i j).1) = ((fun i => (s.rkAt i 0).1) (i + 1)) from by dsimp only; rw [rk_row hn0, hje])), (List.cons_eq_cons.2 ⟨(congrArg (fun z => ai z) (show ((s.rkAt i j).2) = ((fun i => (s.rkAt i 0).2) (i + 1)) from by dsimp only; rw [rk_row hn0, hje])), (Eq.refl [])⟩)⟩)), trivial⟩ rfl rfl rfl rfl rfl)
    · try simp only [decide_eq_true_eq, decide_eq_false_iff_not, Bool.and_eq_true, Bool.or_eq_true, Bool.and_eq_false_iff, Bool.or_eq_false_iff, Bool.not_eq_true', Bool.not_eq_false', ne_eq, Decidable.not_not] at hc2
      refine WP.exit ?_
      refine EX.exit_then ?_
      refine EX.exit_then ?_
      refine EX.exit_blk ?_
      refine EX.then ?_
      refine WP.seq ?_
      refine WP.region ?_
      refine WPl.v rfl (o_ldpa G23 rfl rfl rfl) ?_
      refine WPl.s1 (o_stag G23 rfl rfl rfl ⟨rfl, rfl, trivial⟩ rfl rfl) ?_
      refine WPl.v rfl (o_assign rfl) ?_
      refine WPl.nil ?_
      refine EX.then ?_
      refine WP.ret ?_
      have hie : i = s.nT := by omega
      rw [show s.rkAt i 0 = s.knOut s.nT from by rw [hie]; unfold Shop.rkAt; rw [if_neg (by omega)]; rfl]
      rw [hie] at hall
      have hE : s.kE = 0 := by unfold Shop.kE; rw [hs, if_pos rfl]; exact if_pos hall
      rw [hE, show s.mKnown = s.knOut s.nT from by unfold Shop.mKnown; rw [hE]; rfl]
      exact EX.fin id (.inl rfl) rfl (.cellg G23 rfl rfl rfl (.tmp rfl .nil)) rfl (by simp [SV.res, El.res, At.res, keys]) trivial (by simp) (by simp)
theorem w52 {s : Shop} : ∀ x ∈ ([.e (.g [ai (s.pounds), ai (s.tl), ai (s.th), ai (s.al), ai (s.ah), ai (s.room), ai (s.tpl), ai (s.tph), ai (s.apl), ai (s.aph), .q 0])] : List SV), x.res (keys (α := Pred) [(0, PL EPig (s.pigs))]) := by simp [SV.res, El.res, At.res, keys]
theorem r52 {s : Shop} : SV.res (keys (α := Pred) []) (.t [.a (ai (s.mWorth)), .a (ai (s.wE))]) := by simp [SV.res, El.res, At.res, keys]
set_option maxHeartbeats 4000000 in
theorem c52 (s : Shop)  : Sig Try.prog 52 [.e (.g [ai (s.pounds), ai (s.tl), ai (s.th), ai (s.al), ai (s.ah), ai (s.room), ai (s.tpl), ai (s.tph), ai (s.apl), ai (s.aph), .q 0])] [(0, PL EPig (s.pigs))] (.t [.a (ai (s.mWorth)), .a (ai (s.wE))]) [] := by
  have hcb := mCheap_bnd s
  have hkb := mKnown_bnd s
  refine Sig.intro Try.func52 rfl 1 [(0, .e (.g [ai (s.pounds), ai (s.tl), ai (s.th), ai (s.al), ai (s.ah), ai (s.room), ai (s.tpl), ai (s.tph), ai (s.apl), ai (s.aph), .q 0]))] rfl w52 rfl rfl fun I w => ?_
  refine WP.seq ?_
  refine WP.region ?_
  refine WPl.l 1 2 rfl rfl rfl (o_boxg rfl) ?_
  refine WPl.v rfl (o_assign rfl) ?_
  refine WPl.v rfl (o_assign rfl) ?_
  refine WPl.nil ?_
  refine EX.then ?_
  refine WP.seq ?_
  refine WP.region ?_
  refine WPl.v rfl (o_ldpa G28 rfl rfl rfl) ?_
  refine WPl.cs 2 rfl rfl rfl rfl (o_sig 2 (ren [(0, 0)]) (c59 s) e59 rfl rfl rfl w59 ⟨(lx rfl), trivial⟩ r59) ?_
  refine WPl.v rfl (o_move rfl) ?_
  refine WPl.v rfl (o_extract rfl rfl) ?_
  refine WPl.v rfl (o_extract rfl rfl) ?_
  refine WPl.v rfl (o_assign rfl) ?_
  refine WPl.v rfl (o_assign rfl) ?_
  refine WPl.nil ?_
  refine EX.then ?_
  refine WP.seq ?_
  refine WP.seq ?_
  refine WP.region ?_
  refine WPl.v rfl (o_move rfl) ?_
  refine WPl.v rfl (o_neq rfl rfl) ?_
  refine WPl.nil ?_
  refine EX.then ?_
  refine WP.cond rfl (fun hc1 => ?_) (fun hc1 => ?_)
  · try simp only [decide_eq_true_eq, decide_eq_false_iff_not, Bool.and_eq_true, Bool.or_eq_true, Bool.and_eq_false_iff, Bool.or_eq_false_iff, Bool.not_eq_true', Bool.not_eq_false', ne_eq, Decidable.not_not] at hc1
    refine WP.seq ?_
    refine WP.region ?_
    refine WPl.v rfl (o_move rfl) ?_
    refine WPl.v rfl (o_assign rfl) ?_
    refine WPl.v rfl (o_assign rfl) ?_
    refine WPl.nil ?_
    refine EX.then ?_
    refine WP.ret ?_
    refine EX.ret_then ?_
    have hW : s.wE = s.mE (priceG s) := if_neg (by simpa using hc1)
    rw [hW, show s.mWorth = 0 from by unfold Shop.mWorth; rw [hW]; exact if_neg (by simpa using hc1)]
    exact EX.fin id (.inl rfl) rfl (.tmp rfl (.tmp rfl .nil)) rfl (by simp [SV.res, El.res, At.res, keys]) trivial (by simp) (by simp)
  · try simp only [decide_eq_true_eq, decide_eq_false_iff_not, Bool.and_eq_true, Bool.or_eq_true, Bool.and_eq_false_iff, Bool.or_eq_false_iff, Bool.not_eq_true', Bool.not_eq_false', ne_eq, Decidable.not_not] at hc1
    refine WP.skip ?_
    refine EX.then ?_
    refine WP.seq ?_
    refine WP.region ?_
    refine WPl.v rfl (o_ldpa G28 rfl rfl rfl) ?_
    refine WPl.cs 2 rfl rfl rfl rfl (o_sig 2 (ren [(0, 0)]) (c51 s) e51 rfl rfl rfl w51 ⟨(lx rfl), trivial⟩ r51) ?_
    refine WPl.v rfl (o_move rfl) ?_
    refine WPl.v rfl (o_extract rfl rfl) ?_
    refine WPl.v rfl (o_extract rfl rfl) ?_
    refine WPl.l 2 3 rfl rfl rfl (o_alloc Z23) ?_
    refine WPl.s1 (o_stag G23 rfl rfl rfl ⟨rfl, rfl, trivial⟩ rfl rfl) ?_
    refine WPl.v rfl (o_assign rfl) ?_
    refine WPl.nil ?_
    refine EX.then ?_
    refine WP.seq ?_
    refine WP.seq ?_
    refine WP.region ?_
    refine WPl.v rfl (o_move rfl) ?_
    refine WPl.v rfl (o_neq rfl rfl) ?_
    refine WPl.nil ?_
    refine EX.then ?_
    refine WP.cond rfl (fun hc2 => ?_) (fun hc2 => ?_)
    · try simp only [decide_eq_true_eq, decide_eq_false_iff_not, Bool.and_eq_true, Bool.or_eq_true, Bool.and_eq_false_iff, Bool.or_eq_false_iff, Bool.not_eq_true', Bool.not_eq_false', ne_eq, Decidable.not_not] at hc2
      refine WP.seq ?_
      refine WP.region ?_
      refine WPl.v rfl (o_move rfl) ?_
      refine WPl.v rfl (o_assign rfl) ?_
      refine WPl.v rfl (o_assign rfl) ?_
      refine WPl.nil ?_
      refine EX.then ?_
      refine WP.ret ?_
      refine EX.ret_then ?_
      have hW : s.wE = s.kE := if_pos (by simpa using hc1)
      rw [hW, show s.mWorth = 0 from by unfold Shop.mWorth; rw [hW]; exact if_neg (by simpa using hc2)]
      exact EX.fin id (.inl rfl) rfl (.tmp rfl (.tmp rfl .nil)) rfl (by simp [SV.res, El.res, At.res, keys]) trivial (by simp) (by simp)
    · try simp only [decide_eq_true_eq, decide_eq_false_iff_not, Bool.and_eq_true, Bool.or_eq_true, Bool.and_eq_false_iff, Bool.or_eq_false_iff, Bool.not_eq_true', Bool.not_eq_false', ne_eq, Decidable.not_not] at hc2
      refine WP.skip ?_
      refine EX.then ?_
      refine WP.seq ?_
      refine WP.region ?_
      refine WPl.v rfl (o_move rfl) ?_
      refine WPl.v rfl (o_fldp F23_1 rfl) ?_
      refine WPl.v rfl (o_ldp S3 rfl rfl rfl) ?_
      refine WPl.v rfl (o_sub rfl rfl (by first | omega | (simp; omega)) (by first | omega | (simp; omega))) ?_
      refine WPl.v rfl (o_assign rfl) ?_
      refine WPl.v rfl (o_assign rfl) ?_
      refine WPl.nil ?_
      refine EX.then ?_
      refine WP.ret ?_
      have hW : s.wE = 0 := (if_pos (by simpa using hc1)).trans (by simpa using hc2)
      rw [hW, show s.mWorth = s.mCheap - s.mKnown.2 from if_pos hW]
      exact EX.fin id (.inl rfl) rfl (.tmp rfl (.tmp rfl .nil)) rfl (by simp [SV.res, El.res, At.res, keys]) trivial (by simp) (by simp)
end Go.Flong
namespace Go.Flong
open Go Go.Eng
def Shop.potted (s : Shop) (p : Po) : Shop := { s with pounds := p.pounds, tl := p.tl, th := p.th, al := p.al, ah := p.ah }
structure MixedLaw (s : Shop) (p : Po) (add : List Int) : Prop where
  e : opE s (isMix s p) = 0 ∨ opE s (isMix s p) = 1
  n : opE s (isMix s p) = 0 ↔ s.pounds + p.pounds ≤ s.room
  u : opE s (isMix s p) = 0 → (s.potted (s.mMix p)).ready = true → (s.potted (s.mAft add)).ready = true → isAdd (s.potted (s.mMix p)) add = true →
    opE (s.potted (s.mMix p)) (isAdd (s.potted (s.mMix p)) add) = 0 ∧ opE (s.potted (s.mAft add)) (isMix (s.potted (s.mAft add)) p) = 0 ∧ (s.potted (s.mMix p)).mAft add = (s.potted (s.mAft add)).mMix p
theorem mixedLaw {s : Shop} {p : Po} {add : List Int} (hr : s.ready = true) (hp : isPot p.pounds p.tl p.th p.al p.ah = true) (hv : isAdd s add = true) : MixedLaw s p add := by
  have hs := ready_chk hr
  have hE := (mSafe_in hs hv).1
  have hA : s.mAft add = s.aft add := if_pos hE
  have hm : isMix s p = decide (s.pounds + p.pounds ≤ s.room) := by unfold isMix; rw [hp, Bool.true_and]
  refine ⟨?_, ?_, fun h0 ha hb hva => ?_⟩
  · rw [opE_t hs]; cases isMix s p with
    | true => exact .inl rfl
    | false => exact .inr rfl
  · rw [opE_t hs, opV_eq, hm, decide_eq_true_eq]
  · have hM : s.mMix p = s.mixP p := if_pos h0
    have hva2 := hva
    simp only [isAdd, Bool.and_eq_true, decide_eq_true_eq] at hva2
    have h3 := hva2.2
    rw [hM] at h3 ha hva
    rw [hA] at hb
    have e1 : opE (s.potted (s.mixP p)) (isAdd (s.potted (s.mixP p)) add) = 0 := by rw [opE_t (ready_chk ha), hva]; rfl
    have h4 : isMix (s.potted (s.aft add)) p = true := by
      unfold isMix
      rw [hp, Bool.true_and, decide_eq_true_eq]
      simp only [Shop.potted, Shop.aft, Shop.mixP] at h3 ⊢
      omega
    have e2 : opE (s.potted (s.aft add)) (isMix (s.potted (s.aft add)) p) = 0 := by rw [opE_t (ready_chk hb), h4]; rfl
    rw [hM, hA]
    refine ⟨e1, e2, ?_⟩
    unfold Shop.mAft Shop.mMix
    rw [if_pos e1, if_pos e2]
    simp only [Shop.potted, Shop.aft, Shop.mixP, Po.mk.injEq]
    omega
theorem mFails_len (s : Shop) (add : List Int) : (s.mFails add).length ≤ 4 := by
  unfold Shop.mFails
  split
  · exact mFailsTo_len s add 4
  · simp
theorem mShort_len (s : Shop) : s.mShort.length ≤ 4 := by
  unfold Shop.mShort
  split
  · exact shortTo_len s 4
  · simp
theorem mAdd_len (s : Shop) : (s.mAdd (priceG s)).length ≤ 4 := by
  by_cases h : s.mE (priceG s) = 0
  · have hs := (mE_eq h).1
    have hpg := Shop.pigsOK hs
    rcases cheap_spec hs with ⟨h1, _⟩ | ⟨_, h2, _, _⟩
    · omega
    · have := okM_bnd hpg h2
      have := hpg.2
      omega
  · unfold Shop.mAdd; rw [if_neg h]; simp
end Go.Flong
namespace Go.Flong
open Go Go.Eng Go.Proofs
theorem e17 : Enters' Try.prog 17 := Try.call17
theorem e36 : Enters' Try.prog 36 := Try.call36
theorem e37 : Enters' Try.prog 37 := Try.call37
theorem e41 : Enters' Try.prog 41 := Try.call41
theorem e42 : Enters' Try.prog 42 := Try.call42
theorem e43 : Enters' Try.prog 43 := Try.call43
theorem e45 : Enters' Try.prog 45 := Try.call45
theorem e56 : Enters' Try.prog 56 := Try.call56
theorem e57 : Enters' Try.prog 57 := Try.call57
theorem e60 : Enters' Try.prog 60 := Try.call60
theorem e63 : Enters' Try.prog 63 := Try.call63
theorem e30 : Enters' Try.prog 30 := Try.call30
theorem e52 : Enters' Try.prog 52 := Try.call52
theorem e53 : Enters' Try.prog 53 := Try.call53
theorem e54 : Enters' Try.prog 54 := Try.call54
theorem e15 : Enters' Try.prog 15 := Try.call15
theorem e20 : Enters' Try.prog 20 := Try.call20
theorem w9 {s : Shop} {add : List Int} : ∀ x ∈ ([.e (.g [ai (s.pounds), ai (s.tl), ai (s.th), ai (s.al), ai (s.ah), ai (s.room), ai (s.tpl), ai (s.tph), ai (s.apl), ai (s.aph), .q 0]), .e (.a (.q 1))] : List SV), x.res (keys (α := Pred) [(0, PL EPig (s.pigs)), (1, PL EP.int (add))]) := by simp [SV.res, El.res, At.res, keys]
theorem r9  : SV.res (keys (α := Pred) []) (.b (true)) := by simp [SV.res, El.res, At.res, keys]
set_option maxHeartbeats 4000000 in
set_option maxRecDepth 10000 in
theorem c9 (s : Shop) (add : List Int)  : Sig Try.prog 9 [.e (.g [ai (s.pounds), ai (s.tl), ai (s.th), ai (s.al), ai (s.ah), ai (s.room), ai (s.tpl), ai (s.tph), ai (s.apl), ai (s.aph), .q 0]), .e (.a (.q 1))] [(0, PL EPig (s.pigs)), (1, PL EP.int (add))] (.b (true)) [] := by
  refine Sig.intro Try.func9 rfl 2 [(0, .e (.g [ai (s.pounds), ai (s.tl), ai (s.th), ai (s.al), ai (s.ah), ai (s.room), ai (s.tpl), ai (s.tph), ai (s.apl), ai (s.aph), .q 0])), (1, .e (.a (.q 1)))] rfl w9 rfl rfl fun I w => ?_
  refine WP.seq ?_
  refine WP.region ?_
  refine WPl.l 2 3 rfl rfl rfl (o_boxg rfl) ?_
  refine WPl.v rfl (o_assign rfl) ?_
  refine WPl.nil ?_
  refine EX.then ?_
  refine WP.seq ?_
  refine WP.seq ?_
  refine WP.region ?_
  refine WPl.v rfl (o_ldpa G28 rfl rfl rfl) ?_
  refine WPl.cs 3 rfl rfl rfl rfl (o_sig 3 (ren [(0, 0)]) (c35 s) e35 rfl rfl rfl w35 ⟨(lx rfl), trivial⟩ r35) ?_
  refine WPl.v rfl (o_move rfl) ?_
  refine WPl.bit 3 4 (!(hugeS s)) rfl rfl ?_
  refine WPl.gv 3 rfl rfl (.plain rfl (by first | (simp; done) | simp only [Bool.not_eq_true']) rfl) (fun hb => o_move rfl) ?_
  refine WPl.gv 3 rfl rfl (.plain rfl (by first | (simp; done) | simp only [Bool.not_eq_true']) rfl) (fun hb => o_lenq L29 rfl (lx rfl)) ?_
  refine WPl.gv 3 rfl rfl (.plain rfl (by first | (simp; done) | simp only [Bool.not_eq_true']) rfl) (fun hb => o_gtr rfl rfl) ?_
  refine WPl.v rfl (o_or rfl rfl rfl (by first | (simp; done) | exact fun h => by rw [h]; rfl | exact fun h => Bool.and_eq_true_iff.2 ⟨hb, by rw [h]; rfl⟩ | simp_all)) ?_
  refine WPl.nil ?_
  refine EX.then ?_
  refine WP.cond rfl (fun hc1 => ?_) (fun hc1 => ?_)
  · try simp only [decide_eq_true_eq, decide_eq_false_iff_not, Bool.and_eq_true, Bool.or_eq_true, Bool.and_eq_false_iff, Bool.or_eq_false_iff, Bool.not_eq_true', Bool.not_eq_false', ne_eq, Decidable.not_not] at hc1
    refine WP.seq ?_
    refine WP.region ?_
    refine WPl.cs 4 rfl rfl rfl rfl (o_sig 4 id c17 e17 rfl rfl rfl w17 trivial r17) ?_
    refine WPl.v rfl (o_assign rfl) ?_
    refine WPl.nil ?_
    refine EX.then ?_
    refine WP.ret ?_
    refine EX.ret_then ?_
    exact EX.fin id (.inl rfl) rfl (.tmp rfl .nil) rfl r9 trivial (by simp) (by simp)
  · try simp only [decide_eq_true_eq, decide_eq_false_iff_not, Bool.and_eq_true, Bool.or_eq_true, Bool.and_eq_false_iff, Bool.or_eq_false_iff, Bool.not_eq_true', Bool.not_eq_false', ne_eq, Decidable.not_not] at hc1
    have hl4 : s.pigs.length ≤ 40 := by
      have := hc1.1
      simp [hugeS] at this
      omega
    have hal : add.length ≤ 40 := by omega
    have hf4 := mFails_len s add
    refine WP.skip ?_
    refine EX.then ?_
    refine WP.seq ?_
    refine WP.region ?_
    refine WPl.v rfl (o_ldpa G28 rfl rfl rfl) ?_
    refine WPl.cs 5 rfl rfl rfl rfl (o_sig 4 (ren [(0, 0)]) (c18 s hl4) e18 rfl rfl rfl w18 ⟨(lx rfl), trivial⟩ r18) ?_
    refine WPl.l 5 6 rfl rfl rfl (o_bsl (E := EP.int) (l := []) R29 rfl rfl (.nil) rfl rfl) ?_
    refine WPl.v rfl (o_move rfl) ?_
    refine WPl.u1 (k := 6) (m := 7) rfl rfl rfl (OpG.settle1 (.inl rfl) rfl (o_apps R29 EP.int_one rfl rfl rfl (lx rfl) (by first | omega | (simp; omega) | (simp at *; omega)) (by first | omega | (simp; omega) | (simp at *; omega)))) ?_
    refine WPl.l 7 8 rfl rfl rfl (o_alloc Z28) ?_
    refine WPl.s1 (o_stag G28 rfl rfl rfl ⟨rfl, rfl, rfl, rfl, rfl, rfl, rfl, rfl, rfl, rfl, (.inl ⟨_, (lx rfl), PL.one⟩), trivial⟩ rfl rfl) ?_
    refine WPl.v rfl (o_assign rfl) ?_
    refine WPl.nil ?_
    refine EX.then ?_
    refine WP.seq ?_
    refine WP.region ?_
    rw [List.nil_append]
    refine WPl.v rfl (o_ldpa G28 rfl rfl rfl) ?_
    refine WPl.v rfl (o_move rfl) ?_
    refine WPl.cs 8 rfl rfl rfl rfl (o_sig 8 (ren [(0, 4), (1, 6)]) (c36 s add hl4) e36 rfl rfl rfl w36 ⟨(lx rfl), (lx rfl), trivial⟩ r36) ?_
    refine WPl.v rfl (o_move rfl) ?_
    refine WPl.v rfl (o_extract rfl rfl) ?_
    refine WPl.v rfl (o_extract rfl rfl) ?_
    refine WPl.l 8 9 rfl rfl rfl (o_alloc Z25) ?_
    refine WPl.s1 (o_stag G25 rfl rfl rfl ⟨rfl, rfl, rfl, rfl, rfl, trivial⟩ rfl rfl) ?_
    refine WPl.v rfl (o_assign rfl) ?_
    refine WPl.nil ?_
    refine EX.then ?_
    refine WP.seq ?_
    refine WP.region ?_
    refine WPl.v rfl (o_ldpa G28 rfl rfl rfl) ?_
    refine WPl.v rfl (o_move rfl) ?_
    refine WPl.cs 9 rfl rfl rfl rfl (o_sig 9 (ren [(0, 0), (1, 1)]) (c37 s add) e37 rfl rfl rfl w37 ⟨(lx rfl), (lx rfl), trivial⟩ r37) ?_
    refine WPl.v rfl (o_move rfl) ?_
    refine WPl.v rfl (o_extract rfl rfl) ?_
    refine WPl.v rfl (o_extract rfl rfl) ?_
    refine WPl.l 9 10 rfl rfl rfl (o_alloc Z25) ?_
    refine WPl.s1 (o_stag G25 rfl rfl rfl ⟨rfl, rfl, rfl, rfl, rfl, trivial⟩ rfl rfl) ?_
    refine WPl.v rfl (o_assign rfl) ?_
    refine WPl.nil ?_
    refine EX.then ?_
    refine WP.seq ?_
    refine WP.seq ?_
    refine WP.imp (Imp.bit 10 11 (!(decide ((errM s.chk) ≠ (errM s.chk)))) rfl rfl) ?_
    refine WP.imp (Imp.bit 11 12 (!((decide ((errM s.chk) ≠ (errM s.chk))) || (decide ([(s.mAft add).pounds, (s.mAft add).tl, (s.mAft add).th, (s.mAft add).al, (s.mAft add).ah] ≠ [(s.mAft add).pounds, (s.mAft add).tl, (s.mAft add).th, (s.mAft add).al, (s.mAft add).ah])))) rfl rfl) ?_
    refine WP.draw (nf := 12) [⟨[48], [], [], [], []⟩, ⟨[48], [], [], [], [0]⟩, ⟨[46, 47], [], [], [], []⟩, ⟨[], [], [], [], [0, 1, 2]⟩, ⟨[], [], [], [], [0, 1, 2, 3]⟩, ⟨[], [], [], [], [0, 1, 2, 3, 4]⟩, ⟨[53], [], [], [], [0, 1, 2, 3, 4, 5]⟩, ⟨[52], [], [], [], [0, 1, 2, 3, 4, 5]⟩, ⟨[], [], [], [], [0, 1, 2, 3, 4, 5, 6, 7]⟩, ⟨[], [], [], [], [0, 1, 2, 3, 4, 5, 6, 7, 8]⟩, ⟨[], [], [], [], [0, 1, 2, 3, 4, 5, 6, 7, 8, 9]⟩, ⟨[58], [], [], [], [0, 1, 2, 3, 4, 5, 6, 7, 8, 9, 10]⟩, ⟨[57], [], [], [], [0, 1, 2, 3, 4, 5, 6, 7, 8, 9, 10]⟩, ⟨[], [], [], [], [0, 1, 2, 3, 4, 5, 6, 7, 8, 9, 10, 11, 12]⟩, ⟨[], [], [], [], [0, 1, 2, 3, 4, 5, 6, 7, 8, 9, 10, 11, 12, 13]⟩] (by kernel_rfl) (by kernel_rfl) ?_
    refine DRQ.v rfl rfl rfl (o_ldpa G28 rfl rfl rfl) ?_
    refine DRQ.cs rfl rfl rfl rfl (o_sig 12 (ren [(0, 4)]) (c38 s hl4) e38 rfl rfl rfl w38 ⟨(lx rfl), trivial⟩ r38) ?_
    refine DRQ.v rfl rfl rfl (o_ldpa G28 rfl rfl rfl) ?_
    refine DRQ.cs rfl rfl rfl rfl (o_sig 12 (ren [(0, 0)]) (c39 s) e39 rfl rfl rfl w39 ⟨(lx rfl), trivial⟩ r39) ?_
    refine DRQ.v rfl rfl rfl (o_neq rfl rfl) ?_
    refine DRQ.v rfl rfl rfl (o_move rfl) ?_
    refine DRQ.gv 10 rfl rfl (.plain rfl (by first | (simp; done) | simp only [Bool.not_eq_true']) rfl) rfl (fun hb => o_ldpa G25 rfl rfl rfl) ?_
    refine DRQ.gv 10 rfl rfl (.plain rfl (by first | (simp; done) | simp only [Bool.not_eq_true']) rfl) rfl (fun hb => o_ldpa G25 rfl rfl rfl) ?_
    refine DRQ.gv 10 rfl rfl (.plain rfl (by first | (simp; done) | simp only [Bool.not_eq_true']) rfl) rfl (fun hb => o_nes (a := [(s.mAft add).pounds, (s.mAft add).tl, (s.mAft add).th, (s.mAft add).al, (s.mAft add).ah]) (b := [(s.mAft add).pounds, (s.mAft add).tl, (s.mAft add).th, (s.mAft add).al, (s.mAft add).ah]) Q25 rfl Try.eqGuardType25 rfl rfl rfl rfl) ?_
    refine DRQ.v rfl rfl rfl (o_or rfl rfl rfl (by first | (simp; done) | exact fun h => by rw [h]; rfl | exact fun h => Bool.and_eq_true_iff.2 ⟨hb, by rw [h]; rfl⟩ | simp_all)) ?_
    refine DRQ.v rfl rfl rfl (o_move rfl) ?_
    refine DRQ.gv 11 rfl rfl (.plain rfl (by first | (simp; done) | simp only [Bool.not_eq_true']) rfl) rfl (fun hb => o_move rfl) ?_
    refine DRQ.gv 11 rfl rfl (.plain rfl (by first | (simp; done) | simp only [Bool.not_eq_true']) rfl) rfl (fun hb => o_move rfl) ?_
    refine DRQ.gv 11 rfl rfl (.plain rfl (by first | (simp; done) | simp only [Bool.not_eq_true']) rfl) rfl (fun hb => o_neq rfl rfl) ?_
    refine DRQ.v rfl rfl rfl (o_or rfl rfl rfl (by first | (simp; done) | exact fun h => by rw [h]; rfl | exact fun h => Bool.and_eq_true_iff.2 ⟨hb, by rw [h]; rfl⟩ | simp_all)) ?_
    refine DRQ.nil' ?_
    refine EX.then ?_
    refine WP.cond rfl (fun hc2 => ?_) (fun hc2 => ?_)
    · try simp only [decide_eq_true_eq, decide_eq_false_iff_not, Bool.and_eq_true, Bool.or_eq_true, Bool.and_eq_false_iff, Bool.or_eq_false_iff, Bool.not_eq_true', Bool.not_eq_false', ne_eq, Decidable.not_not] at hc2
      simp at hc2
    · try simp only [decide_eq_true_eq, decide_eq_false_iff_not, Bool.and_eq_true, Bool.or_eq_true, Bool.and_eq_false_iff, Bool.or_eq_false_iff, Bool.not_eq_true', Bool.not_eq_false', ne_eq, Decidable.not_not] at hc2
      refine WP.skip ?_
      refine EX.then ?_
      refine WP.seq ?_
      refine WP.region ?_
      refine WPl.v rfl (o_ldpa G28 rfl rfl rfl) ?_
      refine WPl.v rfl (o_move rfl) ?_
      refine WPl.cs 12 rfl rfl rfl rfl (o_sig 12 (ren [(0, 4), (1, 6)]) (c40 s add hl4) e40 rfl rfl rfl w40 ⟨(lx rfl), (lx rfl), trivial⟩ r40) ?_
      refine WPl.v rfl (o_move rfl) ?_
      refine WPl.v rfl (o_extract rfl rfl) ?_
      refine WPl.v rfl (o_extract rfl rfl) ?_
      refine WPl.v rfl (o_assign rfl) ?_
      refine WPl.v rfl (o_assign rfl) ?_
      refine WPl.nil ?_
      refine EX.then ?_
      refine WP.seq ?_
      refine WP.region ?_
      refine WPl.v rfl (o_ldpa G28 rfl rfl rfl) ?_
      refine WPl.v rfl (o_move rfl) ?_
      refine WPl.cs 12 rfl rfl rfl rfl (o_sig 12 (ren [(0, 0), (1, 1)]) (c41 s add) e41 rfl rfl rfl w41 ⟨(lx rfl), (lx rfl), trivial⟩ r41) ?_
      refine WPl.v rfl (o_move rfl) ?_
      refine WPl.v rfl (o_extract rfl rfl) ?_
      refine WPl.v rfl (o_extract rfl rfl) ?_
      refine WPl.v rfl (o_assign rfl) ?_
      refine WPl.v rfl (o_assign rfl) ?_
      refine WPl.nil ?_
      refine EX.then ?_
      refine WP.seq ?_
      refine WP.region ?_
      refine WPl.v rfl (o_ldpa G28 rfl rfl rfl) ?_
      refine WPl.v rfl (o_move rfl) ?_
      refine WPl.cs 13 rfl rfl rfl rfl (o_sig 12 (ren [(0, 4), (1, 6)]) (c22 s add hl4) e22 rfl rfl rfl w22 ⟨(lx rfl), (lx rfl), trivial⟩ r22) ?_
      refine WPl.v rfl (o_move rfl) ?_
      refine WPl.v rfl (o_extract rfl rfl) ?_
      refine WPl.v rfl (o_extract rfl rfl) ?_
      refine WPl.v rfl (o_assign rfl) ?_
      refine WPl.v rfl (o_assign rfl) ?_
      refine WPl.nil ?_
      refine EX.then ?_
      refine WP.seq ?_
      refine WP.region ?_
      refine WPl.v rfl (o_ldpa G28 rfl rfl rfl) ?_
      refine WPl.v rfl (o_move rfl) ?_
      refine WPl.cs 14 rfl rfl rfl rfl (o_sig 13 (ren [(0, 0), (1, 1)]) (c42 s add) e42 rfl rfl rfl w42 ⟨(lx rfl), (lx rfl), trivial⟩ r42) ?_
      refine WPl.v rfl (o_move rfl) ?_
      refine WPl.v rfl (o_extract rfl rfl) ?_
      refine WPl.v rfl (o_extract rfl rfl) ?_
      refine WPl.v rfl (o_assign rfl) ?_
      refine WPl.v rfl (o_assign rfl) ?_
      refine WPl.nil ?_
      refine EX.then ?_
      refine WP.seq ?_
      refine WP.region ?_
      refine WPl.v rfl (o_ldpa G28 rfl rfl rfl) ?_
      refine WPl.v rfl (o_move rfl) ?_
      refine WPl.cs 14 rfl rfl rfl rfl (o_sig 14 (ren [(0, 4), (1, 6)]) (c27 s add hl4) e27 rfl rfl rfl w27 ⟨(lx rfl), (lx rfl), trivial⟩ r27) ?_
      refine WPl.v rfl (o_move rfl) ?_
      refine WPl.v rfl (o_extract rfl rfl) ?_
      refine WPl.v rfl (o_extract rfl rfl) ?_
      refine WPl.l 14 15 rfl rfl rfl (o_alloc Z23) ?_
      refine WPl.s1 (o_stag G23 rfl rfl rfl ⟨rfl, rfl, trivial⟩ rfl rfl) ?_
      refine WPl.v rfl (o_assign rfl) ?_
      refine WPl.nil ?_
      refine EX.then ?_
      refine WP.seq ?_
      refine WP.region ?_
      refine WPl.v rfl (o_ldpa G28 rfl rfl rfl) ?_
      refine WPl.v rfl (o_move rfl) ?_
      refine WPl.cs 15 rfl rfl rfl rfl (o_sig 15 (ren [(0, 0), (1, 1)]) (c43 s add) e43 rfl rfl rfl w43 ⟨(lx rfl), (lx rfl), trivial⟩ r43) ?_
      refine WPl.v rfl (o_move rfl) ?_
      refine WPl.v rfl (o_extract rfl rfl) ?_
      refine WPl.v rfl (o_extract rfl rfl) ?_
      refine WPl.l 15 16 rfl rfl rfl (o_alloc Z23) ?_
      refine WPl.s1 (o_stag G23 rfl rfl rfl ⟨rfl, rfl, trivial⟩ rfl rfl) ?_
      refine WPl.v rfl (o_assign rfl) ?_
      refine WPl.nil ?_
      refine EX.then ?_
      refine WP.seq ?_
      refine WP.region ?_
      refine WPl.v rfl (o_move rfl) ?_
      refine WPl.v rfl (o_move rfl) ?_
      refine WPl.v rfl (o_eql rfl rfl) ?_
      refine WPl.imp (Imp.bitF 99 (b' := true) rfl (by simp)) ?_
      refine WPl.v rfl (o_move rfl) ?_
      refine WPl.on rfl ⟨_, _, rfl, rfl, rfl⟩ (o_move rfl) ?_
      refine WPl.on rfl ⟨_, _, rfl, rfl, rfl⟩ (o_move rfl) ?_
      refine WPl.on rfl ⟨_, _, rfl, rfl, rfl⟩ (o_eql rfl rfl) ?_
      refine WPl.imp (Imp.bitF 103 (b' := true) rfl (by simp)) ?_
      refine WPl.v rfl (o_pickT rfl rfl) ?_
      refine WPl.v rfl (o_move rfl) ?_
      refine WPl.on rfl ⟨_, _, rfl, rfl, rfl⟩ (o_move rfl) ?_
      refine WPl.on rfl ⟨_, _, rfl, rfl, rfl⟩ (o_move rfl) ?_
      refine WPl.ung ⟨_, _, rfl, rfl, rfl⟩ ?_
      refine WPl.cs 16 rfl rfl rfl rfl (o_sig 16 (ren [(0, 12), (1, 13)]) (c44 (s.mFails add) (s.mFails add) (by omega)) e44 rfl rfl rfl w44 ⟨(lx rfl), (lx rfl), trivial⟩ r44) ?_
      refine WPl.imp (Imp.bitF 108 (b' := true) rfl (sameInts_refl _)) ?_
      refine WPl.v rfl (o_pickT rfl rfl) ?_
      refine WPl.v rfl (o_move rfl) ?_
      refine WPl.on rfl ⟨_, _, rfl, rfl, rfl⟩ (o_move rfl) ?_
      refine WPl.on rfl ⟨_, _, rfl, rfl, rfl⟩ (o_move rfl) ?_
      refine WPl.on rfl ⟨_, _, rfl, rfl, rfl⟩ (o_eql rfl rfl) ?_
      refine WPl.imp (Imp.bitF 113 (b' := true) rfl (by simp)) ?_
      refine WPl.v rfl (o_pickT rfl rfl) ?_
      refine WPl.v rfl (o_move rfl) ?_
      refine WPl.ung ⟨_, _, rfl, rfl, rfl⟩ ?_
      refine WPl.v rfl (o_ldpa G23 rfl rfl rfl) ?_
      refine WPl.ung ⟨_, _, rfl, rfl, rfl⟩ ?_
      refine WPl.v rfl (o_ldpa G23 rfl rfl rfl) ?_
      refine WPl.on rfl ⟨_, _, rfl, rfl, rfl⟩ (o_eqs (a := [(s.mLead add).1, (s.mLead add).2]) (b := [(s.mLead add).1, (s.mLead add).2]) Q23 rfl Try.eqGuardType23 rfl rfl rfl rfl) ?_
      refine WPl.imp (Imp.bitF 118 (b' := true) rfl (by simp)) ?_
      refine WPl.v rfl (o_pickT rfl rfl) ?_
      refine WPl.v rfl (o_move rfl) ?_
      refine WPl.on rfl ⟨_, _, rfl, rfl, rfl⟩ (o_move rfl) ?_
      refine WPl.on rfl ⟨_, _, rfl, rfl, rfl⟩ (o_move rfl) ?_
      refine WPl.on rfl ⟨_, _, rfl, rfl, rfl⟩ (o_eql rfl rfl) ?_
      refine WPl.imp (Imp.bitF 123 (b' := true) rfl (by simp)) ?_
      refine WPl.v rfl (o_pickT rfl rfl) ?_
      refine WPl.v rfl (o_move rfl) ?_
      refine WPl.ung ⟨_, _, rfl, rfl, rfl⟩ ?_
      refine WPl.v rfl (o_ldpa G28 rfl rfl rfl) ?_
      refine WPl.ung ⟨_, _, rfl, rfl, rfl⟩ ?_
      refine WPl.v rfl (o_ldpa G28 rfl rfl rfl) ?_
      refine WPl.ung ⟨_, _, rfl, rfl, rfl⟩ ?_
      refine WPl.cs 16 rfl rfl rfl rfl (o_sig 16 (ren [(0, 4), (1, 0)]) (c45 s (by omega)) e45 rfl rfl rfl w45 ⟨(lx rfl), (lx rfl), trivial⟩ r45) ?_
      refine WPl.v rfl (o_pickT rfl rfl) ?_
      refine WPl.v rfl (o_move rfl) ?_
      refine WPl.on rfl ⟨_, _, rfl, rfl, rfl⟩ (o_move rfl) ?_
      refine WPl.on rfl ⟨_, _, rfl, rfl, rfl⟩ (o_move rfl) ?_
      refine WPl.ung ⟨_, _, rfl, rfl, rfl⟩ ?_
      refine WPl.cs 16 rfl rfl rfl rfl (o_sig 16 (ren [(0, 6), (1, 1)]) (c44 add add (by omega)) e44 rfl rfl rfl w44 ⟨(lx rfl), (lx rfl), trivial⟩ r44) ?_
      refine WPl.imp (Imp.bitF 133 (b' := true) rfl (sameInts_refl _)) ?_
      refine WPl.v rfl (o_pickT rfl rfl) ?_
      refine WPl.v rfl (o_move rfl) ?_
      refine WPl.ung ⟨_, _, rfl, rfl, rfl⟩ ?_
      refine WPl.cs 16 rfl rfl rfl rfl (o_sig 16 id c17 e17 rfl rfl rfl w17 trivial r17) ?_
      refine WPl.v rfl (o_pickT rfl rfl) ?_
      refine WPl.v rfl (o_assign rfl) ?_
      refine WPl.nil ?_
      refine EX.then ?_
      refine WP.ret ?_
      exact EX.fin id (.inl rfl) rfl (.tmp rfl .nil) rfl r9 trivial (by simp) (by simp)
theorem w13 {s : Shop} : ∀ x ∈ ([.e (.g [ai (s.pounds), ai (s.tl), ai (s.th), ai (s.al), ai (s.ah), ai (s.room), ai (s.tpl), ai (s.tph), ai (s.apl), ai (s.aph), .q 0])] : List SV), x.res (keys (α := Pred) [(0, PL EPig (s.pigs))]) := by simp [SV.res, El.res, At.res, keys]
theorem r13  : SV.res (keys (α := Pred) []) (.b (true)) := by simp [SV.res, El.res, At.res, keys]
set_option maxHeartbeats 4000000 in
set_option maxRecDepth 10000 in
theorem c13 (s : Shop)  : Sig Try.prog 13 [.e (.g [ai (s.pounds), ai (s.tl), ai (s.th), ai (s.al), ai (s.ah), ai (s.room), ai (s.tpl), ai (s.tph), ai (s.apl), ai (s.aph), .q 0])] [(0, PL EPig (s.pigs))] (.b (true)) [] := by
  refine Sig.intro Try.func13 rfl 1 [(0, .e (.g [ai (s.pounds), ai (s.tl), ai (s.th), ai (s.al), ai (s.ah), ai (s.room), ai (s.tpl), ai (s.tph), ai (s.apl), ai (s.aph), .q 0]))] rfl w13 rfl rfl fun I w => ?_
  refine WP.seq ?_
  refine WP.region ?_
  refine WPl.l 1 2 rfl rfl rfl (o_boxg rfl) ?_
  refine WPl.v rfl (o_assign rfl) ?_
  refine WPl.nil ?_
  refine EX.then ?_
  refine WP.seq ?_
  refine WP.seq ?_
  refine WP.region ?_
  refine WPl.v rfl (o_ldpa G28 rfl rfl rfl) ?_
  refine WPl.cs 2 rfl rfl rfl rfl (o_sig 2 (ren [(0, 0)]) (c35 s) e35 rfl rfl rfl w35 ⟨(lx rfl), trivial⟩ r35) ?_
  refine WPl.nil ?_
  refine EX.then ?_
  refine WP.cond rfl (fun hc1 => ?_) (fun hc1 => ?_)
  · try simp only [decide_eq_true_eq, decide_eq_false_iff_not, Bool.and_eq_true, Bool.or_eq_true, Bool.and_eq_false_iff, Bool.or_eq_false_iff, Bool.not_eq_true', Bool.not_eq_false', ne_eq, Decidable.not_not] at hc1
    refine WP.seq ?_
    refine WP.region ?_
    refine WPl.cs 2 rfl rfl rfl rfl (o_sig 2 id c17 e17 rfl rfl rfl w17 trivial r17) ?_
    refine WPl.v rfl (o_assign rfl) ?_
    refine WPl.nil ?_
    refine EX.then ?_
    refine WP.ret ?_
    refine EX.ret_then ?_
    exact EX.fin id (.inl rfl) rfl (.tmp rfl .nil) rfl r13 trivial (by simp) (by simp)
  · try simp only [decide_eq_true_eq, decide_eq_false_iff_not, Bool.and_eq_true, Bool.or_eq_true, Bool.and_eq_false_iff, Bool.or_eq_false_iff, Bool.not_eq_true', Bool.not_eq_false', ne_eq, Decidable.not_not] at hc1
    have hl4 : s.pigs.length ≤ 40 := by
      have := hc1
      simp [hugeS] at this
      omega
    have hs4 := mShort_len s
    have ha4 := mAdd_len s
    refine WP.skip ?_
    refine EX.then ?_
    refine WP.seq ?_
    refine WP.region ?_
    refine WPl.v rfl (o_ldpa G28 rfl rfl rfl) ?_
    refine WPl.cs 3 rfl rfl rfl rfl (o_sig 2 (ren [(0, 0)]) (c18 s hl4) e18 rfl rfl rfl w18 ⟨(lx rfl), trivial⟩ r18) ?_
    refine WPl.l 3 4 rfl rfl rfl (o_alloc Z28) ?_
    refine WPl.s1 (o_stag G28 rfl rfl rfl ⟨rfl, rfl, rfl, rfl, rfl, rfl, rfl, rfl, rfl, rfl, (.inl ⟨_, (lx rfl), PL.one⟩), trivial⟩ rfl rfl) ?_
    refine WPl.nil ?_
    refine EX.then ?_
    refine WP.seq ?_
    refine WP.region ?_
    refine WPl.v rfl (o_ldpa G28 rfl rfl rfl) ?_
    refine WPl.cs 5 rfl rfl rfl rfl (o_sig 4 (ren [(0, 2)]) (c56 s hl4) e56 rfl rfl rfl w56 ⟨(lx rfl), trivial⟩ r56) ?_
    refine WPl.v rfl (o_move rfl) ?_
    refine WPl.v rfl (o_extract rfl rfl) ?_
    refine WPl.v rfl (o_extract rfl rfl) ?_
    refine WPl.v rfl (o_assign rfl) ?_
    refine WPl.v rfl (o_assign rfl) ?_
    refine WPl.nil ?_
    refine EX.then ?_
    refine WP.seq ?_
    refine WP.region ?_
    refine WPl.v rfl (o_ldpa G28 rfl rfl rfl) ?_
    refine WPl.cs 6 rfl rfl rfl rfl (o_sig 5 (ren [(0, 0)]) (c57 s) e57 rfl rfl rfl w57 ⟨(lx rfl), trivial⟩ r57) ?_
    refine WPl.v rfl (o_move rfl) ?_
    refine WPl.v rfl (o_extract rfl rfl) ?_
    refine WPl.v rfl (o_extract rfl rfl) ?_
    refine WPl.v rfl (o_assign rfl) ?_
    refine WPl.v rfl (o_assign rfl) ?_
    refine WPl.nil ?_
    refine EX.then ?_
    refine WP.seq ?_
    refine WP.region ?_
    refine WPl.v rfl (o_ldpa G28 rfl rfl rfl) ?_
    refine WPl.cs 6 rfl rfl rfl rfl (o_sig 6 (ren [(0, 2)]) (c58 s hl4) e58 rfl rfl rfl w58 ⟨(lx rfl), trivial⟩ r58) ?_
    refine WPl.v rfl (o_move rfl) ?_
    refine WPl.v rfl (o_extract rfl rfl) ?_
    refine WPl.v rfl (o_extract rfl rfl) ?_
    refine WPl.v rfl (o_assign rfl) ?_
    refine WPl.v rfl (o_assign rfl) ?_
    refine WPl.nil ?_
    refine EX.then ?_
    refine WP.seq ?_
    refine WP.region ?_
    refine WPl.v rfl (o_ldpa G28 rfl rfl rfl) ?_
    refine WPl.cs 6 rfl rfl rfl rfl (o_sig 6 (ren [(0, 0)]) (c59 s) e59 rfl rfl rfl w59 ⟨(lx rfl), trivial⟩ r59) ?_
    refine WPl.v rfl (o_move rfl) ?_
    refine WPl.v rfl (o_extract rfl rfl) ?_
    refine WPl.v rfl (o_extract rfl rfl) ?_
    refine WPl.v rfl (o_assign rfl) ?_
    refine WPl.v rfl (o_assign rfl) ?_
    refine WPl.nil ?_
    refine EX.then ?_
    refine WP.seq ?_
    refine WP.seq ?_
    refine WP.region ?_
    refine WPl.v rfl (o_move rfl) ?_
    refine WPl.v rfl (o_move rfl) ?_
    refine WPl.cs 6 rfl rfl rfl rfl (o_sig 6 (ren [(0, 4), (1, 5)]) (c44 s.mShort s.mShort (by omega)) e44 rfl rfl rfl w44 ⟨(lx rfl), (lx rfl), trivial⟩ r44) ?_
    refine WPl.imp (Imp.bitF 39 (b' := true) rfl (sameInts_refl _)) ?_
    refine WPl.v rfl (o_not rfl) ?_
    refine WPl.v rfl (o_move rfl) ?_
    refine WPl.on rfl ⟨_, _, rfl, rfl, rfl⟩ (o_move rfl) ?_
    refine WPl.on rfl ⟨_, _, rfl, rfl, rfl⟩ (o_move rfl) ?_
    refine WPl.on rfl ⟨_, _, rfl, rfl, rfl⟩ (o_neq rfl rfl) ?_
    refine WPl.imp (Imp.bitF 44 (b' := false) rfl (by simp)) ?_
    refine WPl.v rfl (o_pickF rfl rfl) ?_
    refine WPl.v rfl (o_move rfl) ?_
    refine WPl.on rfl ⟨_, _, rfl, rfl, rfl⟩ (o_move rfl) ?_
    refine WPl.on rfl ⟨_, _, rfl, rfl, rfl⟩ (o_move rfl) ?_
    refine WPl.on rfl ⟨_, _, rfl, rfl, rfl⟩ (o_neq rfl rfl) ?_
    refine WPl.imp (Imp.bitF 49 (b' := false) rfl (by simp)) ?_
    refine WPl.v rfl (o_pickF rfl rfl) ?_
    refine WPl.v rfl (o_move rfl) ?_
    refine WPl.on rfl ⟨_, _, rfl, rfl, rfl⟩ (o_move rfl) ?_
    refine WPl.on rfl ⟨_, _, rfl, rfl, rfl⟩ (o_move rfl) ?_
    refine WPl.on rfl ⟨_, _, rfl, rfl, rfl⟩ (o_neq rfl rfl) ?_
    refine WPl.imp (Imp.bitF 54 (b' := false) rfl (by simp)) ?_
    refine WPl.v rfl (o_pickF rfl rfl) ?_
    refine WPl.nil ?_
    refine EX.then ?_
    refine WP.cond rfl (fun h => by cases h) (fun _ => ?_)
    refine WP.skip ?_
    refine EX.then ?_
    refine WP.seq ?_
    refine WP.region ?_
    refine WPl.v rfl (o_ldpa G28 rfl rfl rfl) ?_
    refine WPl.cs 7 rfl rfl rfl rfl (o_sig 6 (ren [(0, 2)]) (c60 s hl4) e60 rfl rfl rfl w60 ⟨(lx rfl), trivial⟩ r60) ?_
    refine WPl.v rfl (o_move rfl) ?_
    refine WPl.v rfl (o_extract rfl rfl) ?_
    refine WPl.v rfl (o_extract rfl rfl) ?_
    refine WPl.v rfl (o_assign rfl) ?_
    refine WPl.v rfl (o_assign rfl) ?_
    refine WPl.nil ?_
    refine EX.then ?_
    refine WP.seq ?_
    refine WP.region ?_
    refine WPl.v rfl (o_ldpa G28 rfl rfl rfl) ?_
    refine WPl.cs 8 rfl rfl rfl rfl (o_sig 7 (ren [(0, 0)]) (c61 s) e61 rfl rfl rfl w61 ⟨(lx rfl), trivial⟩ r61) ?_
    refine WPl.v rfl (o_move rfl) ?_
    refine WPl.v rfl (o_extract rfl rfl) ?_
    refine WPl.v rfl (o_extract rfl rfl) ?_
    refine WPl.v rfl (o_assign rfl) ?_
    refine WPl.v rfl (o_assign rfl) ?_
    refine WPl.nil ?_
    refine EX.then ?_
    refine WP.seq ?_
    refine WP.region ?_
    refine WPl.v rfl (o_ldpa G28 rfl rfl rfl) ?_
    refine WPl.cs 8 rfl rfl rfl rfl (o_sig 8 (ren [(0, 2)]) (c62 s hl4) e62 rfl rfl rfl w62 ⟨(lx rfl), trivial⟩ r62) ?_
    refine WPl.v rfl (o_move rfl) ?_
    refine WPl.v rfl (o_extract rfl rfl) ?_
    refine WPl.v rfl (o_extract rfl rfl) ?_
    refine WPl.v rfl (o_assign rfl) ?_
    refine WPl.v rfl (o_assign rfl) ?_
    refine WPl.nil ?_
    refine EX.then ?_
    refine WP.seq ?_
    refine WP.region ?_
    refine WPl.v rfl (o_ldpa G28 rfl rfl rfl) ?_
    refine WPl.cs 8 rfl rfl rfl rfl (o_sig 8 (ren [(0, 0)]) (c63 s) e63 rfl rfl rfl w63 ⟨(lx rfl), trivial⟩ r63) ?_
    refine WPl.v rfl (o_move rfl) ?_
    refine WPl.v rfl (o_extract rfl rfl) ?_
    refine WPl.v rfl (o_extract rfl rfl) ?_
    refine WPl.v rfl (o_assign rfl) ?_
    refine WPl.v rfl (o_assign rfl) ?_
    refine WPl.nil ?_
    refine EX.then ?_
    refine WP.seq ?_
    refine WP.region ?_
    refine WPl.v rfl (o_move rfl) ?_
    refine WPl.v rfl (o_move rfl) ?_
    refine WPl.cs 8 rfl rfl rfl rfl (o_sig 8 (ren [(0, 6), (1, 7)]) (c44 (s.mAdd (priceG s)) (s.mAdd (priceG s)) (by omega)) e44 rfl rfl rfl w44 ⟨(lx rfl), (lx rfl), trivial⟩ r44) ?_
    refine WPl.imp (Imp.bitF 78 (b' := true) rfl (sameInts_refl _)) ?_
    refine WPl.v rfl (o_move rfl) ?_
    refine WPl.on rfl ⟨_, _, rfl, rfl, rfl⟩ (o_move rfl) ?_
    refine WPl.on rfl ⟨_, _, rfl, rfl, rfl⟩ (o_move rfl) ?_
    refine WPl.on rfl ⟨_, _, rfl, rfl, rfl⟩ (o_eql rfl rfl) ?_
    refine WPl.imp (Imp.bitF 82 (b' := true) rfl (by simp)) ?_
    refine WPl.v rfl (o_pickT rfl rfl) ?_
    refine WPl.v rfl (o_move rfl) ?_
    refine WPl.on rfl ⟨_, _, rfl, rfl, rfl⟩ (o_move rfl) ?_
    refine WPl.on rfl ⟨_, _, rfl, rfl, rfl⟩ (o_move rfl) ?_
    refine WPl.on rfl ⟨_, _, rfl, rfl, rfl⟩ (o_eql rfl rfl) ?_
    refine WPl.imp (Imp.bitF 87 (b' := true) rfl (by simp)) ?_
    refine WPl.v rfl (o_pickT rfl rfl) ?_
    refine WPl.v rfl (o_move rfl) ?_
    refine WPl.on rfl ⟨_, _, rfl, rfl, rfl⟩ (o_move rfl) ?_
    refine WPl.on rfl ⟨_, _, rfl, rfl, rfl⟩ (o_move rfl) ?_
    refine WPl.on rfl ⟨_, _, rfl, rfl, rfl⟩ (o_eql rfl rfl) ?_
    refine WPl.imp (Imp.bitF 92 (b' := true) rfl (by simp)) ?_
    refine WPl.v rfl (o_pickT rfl rfl) ?_
    refine WPl.v rfl (o_move rfl) ?_
    refine WPl.ung ⟨_, _, rfl, rfl, rfl⟩ ?_
    refine WPl.v rfl (o_ldpa G28 rfl rfl rfl) ?_
    refine WPl.ung ⟨_, _, rfl, rfl, rfl⟩ ?_
    refine WPl.v rfl (o_ldpa G28 rfl rfl rfl) ?_
    refine WPl.ung ⟨_, _, rfl, rfl, rfl⟩ ?_
    refine WPl.cs 8 rfl rfl rfl rfl (o_sig 8 (ren [(0, 2), (1, 0)]) (c45 s (by omega)) e45 rfl rfl rfl w45 ⟨(lx rfl), (lx rfl), trivial⟩ r45) ?_
    refine WPl.v rfl (o_pickT rfl rfl) ?_
    refine WPl.v rfl (o_move rfl) ?_
    refine WPl.ung ⟨_, _, rfl, rfl, rfl⟩ ?_
    refine WPl.cs 8 rfl rfl rfl rfl (o_sig 8 id c17 e17 rfl rfl rfl w17 trivial r17) ?_
    refine WPl.v rfl (o_pickT rfl rfl) ?_
    refine WPl.v rfl (o_assign rfl) ?_
    refine WPl.nil ?_
    refine EX.then ?_
    refine WP.ret ?_
    exact EX.fin id (.inl rfl) rfl (.tmp rfl .nil) rfl r13 trivial (by simp) (by simp)
theorem w11 {s : Shop} {p : Po} : ∀ x ∈ ([.e (.g [ai (s.pounds), ai (s.tl), ai (s.th), ai (s.al), ai (s.ah), ai (s.room), ai (s.tpl), ai (s.tph), ai (s.apl), ai (s.aph), .q 0]), .e (.g [ai (p.pounds), ai (p.tl), ai (p.th), ai (p.al), ai (p.ah)])] : List SV), x.res (keys (α := Pred) [(0, PL EPig (s.pigs))]) := by simp [SV.res, El.res, At.res, keys]
theorem r11  : SV.res (keys (α := Pred) []) (.b (true)) := by simp [SV.res, El.res, At.res, keys]
set_option maxHeartbeats 4000000 in
set_option maxRecDepth 10000 in
theorem c11 (s : Shop) (p : Po)  : Sig Try.prog 11 [.e (.g [ai (s.pounds), ai (s.tl), ai (s.th), ai (s.al), ai (s.ah), ai (s.room), ai (s.tpl), ai (s.tph), ai (s.apl), ai (s.aph), .q 0]), .e (.g [ai (p.pounds), ai (p.tl), ai (p.th), ai (p.al), ai (p.ah)])] [(0, PL EPig (s.pigs))] (.b (true)) [] := by
  refine Sig.intro Try.func11 rfl 1 [(0, .e (.g [ai (s.pounds), ai (s.tl), ai (s.th), ai (s.al), ai (s.ah), ai (s.room), ai (s.tpl), ai (s.tph), ai (s.apl), ai (s.aph), .q 0])), (1, .e (.g [ai (p.pounds), ai (p.tl), ai (p.th), ai (p.al), ai (p.ah)]))] rfl w11 rfl rfl fun I w => ?_
  refine WP.seq ?_
  refine WP.region ?_
  refine WPl.l 1 2 rfl rfl rfl (o_boxg rfl) ?_
  refine WPl.l 2 3 rfl rfl rfl (o_boxg rfl) ?_
  refine WPl.v rfl (o_assign rfl) ?_
  refine WPl.nil ?_
  refine EX.then ?_
  refine WP.seq ?_
  refine WP.seq ?_
  refine WP.region ?_
  refine WPl.v rfl (o_ldpa G28 rfl rfl rfl) ?_
  refine WPl.cs 3 rfl rfl rfl rfl (o_sig 3 (ren [(0, 0)]) (c30 s) e30 rfl rfl rfl w30 ⟨(lx rfl), trivial⟩ r30) ?_
  refine WPl.nil ?_
  refine EX.then ?_
  refine WP.cond rfl (fun hc1 => ?_) (fun hc1 => ?_)
  · try simp only [decide_eq_true_eq, decide_eq_false_iff_not, Bool.and_eq_true, Bool.or_eq_true, Bool.and_eq_false_iff, Bool.or_eq_false_iff, Bool.not_eq_true', Bool.not_eq_false', ne_eq, Decidable.not_not] at hc1
    refine WP.seq ?_
    refine WP.region ?_
    refine WPl.cs 3 rfl rfl rfl rfl (o_sig 3 id c17 e17 rfl rfl rfl w17 trivial r17) ?_
    refine WPl.v rfl (o_assign rfl) ?_
    refine WPl.nil ?_
    refine EX.then ?_
    refine WP.ret ?_
    refine EX.ret_then ?_
    exact EX.fin id (.inl rfl) rfl (.tmp rfl .nil) rfl r11 trivial (by simp) (by simp)
  · try simp only [decide_eq_true_eq, decide_eq_false_iff_not, Bool.and_eq_true, Bool.or_eq_true, Bool.and_eq_false_iff, Bool.or_eq_false_iff, Bool.not_eq_true', Bool.not_eq_false', ne_eq, Decidable.not_not] at hc1
    have hh : hugeS s = false := by unfold Shop.far at hc1; exact (Bool.or_eq_false_iff.1 hc1).1
    have hl4 : s.pigs.length ≤ 40 := by
      have := hh
      simp [hugeS] at this
      omega
    refine WP.skip ?_
    refine EX.then ?_
    refine WP.seq ?_
    refine WP.region ?_
    refine WPl.v rfl (o_ldpa G28 rfl rfl rfl) ?_
    refine WPl.cs 4 rfl rfl rfl rfl (o_sig 3 (ren [(0, 0)]) (c18 s hl4) e18 rfl rfl rfl w18 ⟨(lx rfl), trivial⟩ r18) ?_
    refine WPl.l 4 5 rfl rfl rfl (o_alloc Z28) ?_
    refine WPl.s1 (o_stag G28 rfl rfl rfl ⟨rfl, rfl, rfl, rfl, rfl, rfl, rfl, rfl, rfl, rfl, (.inl ⟨_, (lx rfl), PL.one⟩), trivial⟩ rfl rfl) ?_
    refine WPl.nil ?_
    refine EX.then ?_
    refine WP.seq ?_
    refine WP.region ?_
    refine WPl.v rfl (o_ldpa G28 rfl rfl rfl) ?_
    refine WPl.cs 5 rfl rfl rfl rfl (o_sig 5 (ren [(0, 3)]) (c31 s hl4) e31 rfl rfl rfl w31 ⟨(lx rfl), trivial⟩ r31) ?_
    refine WPl.v rfl (o_move rfl) ?_
    refine WPl.v rfl (o_extract rfl rfl) ?_
    refine WPl.v rfl (o_extract rfl rfl) ?_
    refine WPl.l 5 6 rfl rfl rfl (o_alloc Z23) ?_
    refine WPl.s1 (o_stag G23 rfl rfl rfl ⟨rfl, rfl, trivial⟩ rfl rfl) ?_
    refine WPl.v rfl (o_assign rfl) ?_
    refine WPl.nil ?_
    refine EX.then ?_
    refine WP.seq ?_
    refine WP.region ?_
    refine WPl.v rfl (o_ldpa G28 rfl rfl rfl) ?_
    refine WPl.cs 6 rfl rfl rfl rfl (o_sig 6 (ren [(0, 0)]) (c51 s) e51 rfl rfl rfl w51 ⟨(lx rfl), trivial⟩ r51) ?_
    refine WPl.v rfl (o_move rfl) ?_
    refine WPl.v rfl (o_extract rfl rfl) ?_
    refine WPl.v rfl (o_extract rfl rfl) ?_
    refine WPl.l 6 7 rfl rfl rfl (o_alloc Z23) ?_
    refine WPl.s1 (o_stag G23 rfl rfl rfl ⟨rfl, rfl, trivial⟩ rfl rfl) ?_
    refine WPl.v rfl (o_assign rfl) ?_
    refine WPl.nil ?_
    refine EX.then ?_
    refine WP.seq ?_
    refine WP.region ?_
    refine WPl.v rfl (o_ldpa G28 rfl rfl rfl) ?_
    refine WPl.cs 7 rfl rfl rfl rfl (o_sig 7 (ren [(0, 3)]) (c32 s hl4) e32 rfl rfl rfl w32 ⟨(lx rfl), trivial⟩ r32) ?_
    refine WPl.v rfl (o_move rfl) ?_
    refine WPl.v rfl (o_extract rfl rfl) ?_
    refine WPl.v rfl (o_extract rfl rfl) ?_
    refine WPl.v rfl (o_assign rfl) ?_
    refine WPl.v rfl (o_assign rfl) ?_
    refine WPl.nil ?_
    refine EX.then ?_
    refine WP.seq ?_
    refine WP.region ?_
    refine WPl.v rfl (o_ldpa G28 rfl rfl rfl) ?_
    refine WPl.cs 7 rfl rfl rfl rfl (o_sig 7 (ren [(0, 0)]) (c52 s) e52 rfl rfl rfl w52 ⟨(lx rfl), trivial⟩ r52) ?_
    refine WPl.v rfl (o_move rfl) ?_
    refine WPl.v rfl (o_extract rfl rfl) ?_
    refine WPl.v rfl (o_extract rfl rfl) ?_
    refine WPl.v rfl (o_assign rfl) ?_
    refine WPl.v rfl (o_assign rfl) ?_
    refine WPl.nil ?_
    refine EX.then ?_
    refine WP.seq ?_
    refine WP.region ?_
    refine WPl.v rfl (o_ldpa G28 rfl rfl rfl) ?_
    refine WPl.v rfl (o_ldpa G25 rfl rfl rfl) ?_
    refine WPl.cs 7 rfl rfl rfl rfl (o_sig 7 (ren [(0, 3)]) (c53 s p hl4) e53 rfl rfl rfl w53 ⟨(lx rfl), trivial⟩ r53) ?_
    refine WPl.v rfl (o_move rfl) ?_
    refine WPl.v rfl (o_extract rfl rfl) ?_
    refine WPl.v rfl (o_extract rfl rfl) ?_
    refine WPl.l 7 8 rfl rfl rfl (o_alloc Z25) ?_
    refine WPl.s1 (o_stag G25 rfl rfl rfl ⟨rfl, rfl, rfl, rfl, rfl, trivial⟩ rfl rfl) ?_
    refine WPl.v rfl (o_assign rfl) ?_
    refine WPl.nil ?_
    refine EX.then ?_
    refine WP.seq ?_
    refine WP.region ?_
    refine WPl.v rfl (o_ldpa G28 rfl rfl rfl) ?_
    refine WPl.v rfl (o_ldpa G25 rfl rfl rfl) ?_
    refine WPl.cs 8 rfl rfl rfl rfl (o_sig 8 (ren [(0, 0)]) (c54 s p) e54 rfl rfl rfl w54 ⟨(lx rfl), trivial⟩ r54) ?_
    refine WPl.v rfl (o_move rfl) ?_
    refine WPl.v rfl (o_extract rfl rfl) ?_
    refine WPl.v rfl (o_extract rfl rfl) ?_
    refine WPl.l 8 9 rfl rfl rfl (o_alloc Z25) ?_
    refine WPl.s1 (o_stag G25 rfl rfl rfl ⟨rfl, rfl, rfl, rfl, rfl, trivial⟩ rfl rfl) ?_
    refine WPl.v rfl (o_assign rfl) ?_
    refine WPl.nil ?_
    refine EX.then ?_
    refine WP.seq ?_
    refine WP.region ?_
    refine WPl.v rfl (o_ldpa G23 rfl rfl rfl) ?_
    refine WPl.v rfl (o_ldpa G23 rfl rfl rfl) ?_
    refine WPl.v rfl (o_eqs (a := [s.mKnown.1, s.mKnown.2]) (b := [s.mKnown.1, s.mKnown.2]) Q23 rfl Try.eqGuardType23 rfl rfl rfl rfl) ?_
    refine WPl.imp (Imp.bitF 57 (b' := true) rfl (by simp)) ?_
    refine WPl.v rfl (o_move rfl) ?_
    refine WPl.on rfl ⟨_, _, rfl, rfl, rfl⟩ (o_move rfl) ?_
    refine WPl.on rfl ⟨_, _, rfl, rfl, rfl⟩ (o_move rfl) ?_
    refine WPl.on rfl ⟨_, _, rfl, rfl, rfl⟩ (o_eql rfl rfl) ?_
    refine WPl.imp (Imp.bitF 61 (b' := true) rfl (by simp)) ?_
    refine WPl.v rfl (o_pickT rfl rfl) ?_
    refine WPl.v rfl (o_move rfl) ?_
    refine WPl.on rfl ⟨_, _, rfl, rfl, rfl⟩ (o_move rfl) ?_
    refine WPl.on rfl ⟨_, _, rfl, rfl, rfl⟩ (o_move rfl) ?_
    refine WPl.on rfl ⟨_, _, rfl, rfl, rfl⟩ (o_eql rfl rfl) ?_
    refine WPl.imp (Imp.bitF 66 (b' := true) rfl (by simp)) ?_
    refine WPl.v rfl (o_pickT rfl rfl) ?_
    refine WPl.v rfl (o_move rfl) ?_
    refine WPl.on rfl ⟨_, _, rfl, rfl, rfl⟩ (o_move rfl) ?_
    refine WPl.on rfl ⟨_, _, rfl, rfl, rfl⟩ (o_move rfl) ?_
    refine WPl.on rfl ⟨_, _, rfl, rfl, rfl⟩ (o_eql rfl rfl) ?_
    refine WPl.imp (Imp.bitF 71 (b' := true) rfl (by simp)) ?_
    refine WPl.v rfl (o_pickT rfl rfl) ?_
    refine WPl.v rfl (o_move rfl) ?_
    refine WPl.ung ⟨_, _, rfl, rfl, rfl⟩ ?_
    refine WPl.v rfl (o_ldpa G25 rfl rfl rfl) ?_
    refine WPl.ung ⟨_, _, rfl, rfl, rfl⟩ ?_
    refine WPl.v rfl (o_ldpa G25 rfl rfl rfl) ?_
    refine WPl.on rfl ⟨_, _, rfl, rfl, rfl⟩ (o_eqs (a := [(s.mMix p).pounds, (s.mMix p).tl, (s.mMix p).th, (s.mMix p).al, (s.mMix p).ah]) (b := [(s.mMix p).pounds, (s.mMix p).tl, (s.mMix p).th, (s.mMix p).al, (s.mMix p).ah]) Q25 rfl Try.eqGuardType25 rfl rfl rfl rfl) ?_
    refine WPl.imp (Imp.bitF 76 (b' := true) rfl (by simp)) ?_
    refine WPl.v rfl (o_pickT rfl rfl) ?_
    refine WPl.v rfl (o_move rfl) ?_
    refine WPl.on rfl ⟨_, _, rfl, rfl, rfl⟩ (o_move rfl) ?_
    refine WPl.on rfl ⟨_, _, rfl, rfl, rfl⟩ (o_move rfl) ?_
    refine WPl.on rfl ⟨_, _, rfl, rfl, rfl⟩ (o_eql rfl rfl) ?_
    refine WPl.imp (Imp.bitF 81 (b' := true) rfl (by simp)) ?_
    refine WPl.v rfl (o_pickT rfl rfl) ?_
    refine WPl.v rfl (o_move rfl) ?_
    refine WPl.ung ⟨_, _, rfl, rfl, rfl⟩ ?_
    refine WPl.v rfl (o_ldpa G28 rfl rfl rfl) ?_
    refine WPl.ung ⟨_, _, rfl, rfl, rfl⟩ ?_
    refine WPl.v rfl (o_ldpa G28 rfl rfl rfl) ?_
    refine WPl.ung ⟨_, _, rfl, rfl, rfl⟩ ?_
    refine WPl.cs 9 rfl rfl rfl rfl (o_sig 9 (ren [(0, 3), (1, 0)]) (c45 s (by omega)) e45 rfl rfl rfl w45 ⟨(lx rfl), (lx rfl), trivial⟩ r45) ?_
    refine WPl.v rfl (o_pickT rfl rfl) ?_
    refine WPl.v rfl (o_move rfl) ?_
    refine WPl.ung ⟨_, _, rfl, rfl, rfl⟩ ?_
    refine WPl.cs 9 rfl rfl rfl rfl (o_sig 9 id c17 e17 rfl rfl rfl w17 trivial r17) ?_
    refine WPl.v rfl (o_pickT rfl rfl) ?_
    refine WPl.v rfl (o_assign rfl) ?_
    refine WPl.nil ?_
    refine EX.then ?_
    refine WP.ret ?_
    exact EX.fin id (.inl rfl) rfl (.tmp rfl .nil) rfl r11 trivial (by simp) (by simp)
theorem w12 {s : Shop} {p : Po} {add : List Int} : ∀ x ∈ ([.e (.g [ai (s.pounds), ai (s.tl), ai (s.th), ai (s.al), ai (s.ah), ai (s.room), ai (s.tpl), ai (s.tph), ai (s.apl), ai (s.aph), .q 0]), .e (.g [ai (p.pounds), ai (p.tl), ai (p.th), ai (p.al), ai (p.ah)]), .e (.a (.q 1))] : List SV), x.res (keys (α := Pred) [(0, PL EPig (s.pigs)), (1, PL EP.int (add))]) := by simp [SV.res, El.res, At.res, keys]
theorem r12  : SV.res (keys (α := Pred) []) (.b (true)) := by simp [SV.res, El.res, At.res, keys]
set_option maxHeartbeats 4000000 in
set_option maxRecDepth 10000 in
theorem c12 (s : Shop) (p : Po) (add : List Int) (hlaw : s.ready = true → isPot p.pounds p.tl p.th p.al p.ah = true → isAdd s add = true → MixedLaw s p add) : Sig Try.prog 12 [.e (.g [ai (s.pounds), ai (s.tl), ai (s.th), ai (s.al), ai (s.ah), ai (s.room), ai (s.tpl), ai (s.tph), ai (s.apl), ai (s.aph), .q 0]), .e (.g [ai (p.pounds), ai (p.tl), ai (p.th), ai (p.al), ai (p.ah)]), .e (.a (.q 1))] [(0, PL EPig (s.pigs)), (1, PL EP.int (add))] (.b (true)) [] := by
  refine Sig.intro Try.func12 rfl 2 [(0, .e (.g [ai (s.pounds), ai (s.tl), ai (s.th), ai (s.al), ai (s.ah), ai (s.room), ai (s.tpl), ai (s.tph), ai (s.apl), ai (s.aph), .q 0])), (1, .e (.g [ai (p.pounds), ai (p.tl), ai (p.th), ai (p.al), ai (p.ah)])), (2, .e (.a (.q 1)))] rfl w12 rfl rfl fun I w => ?_
  refine WP.seq ?_
  refine WP.region ?_
  refine WPl.l 2 3 rfl rfl rfl (o_boxg rfl) ?_
  refine WPl.l 3 4 rfl rfl rfl (o_boxg rfl) ?_
  refine WPl.v rfl (o_assign rfl) ?_
  refine WPl.nil ?_
  refine EX.then ?_
  refine WP.seq ?_
  refine WP.seq ?_
  refine WP.region ?_
  refine WPl.v rfl (o_ldpa G28 rfl rfl rfl) ?_
  refine WPl.cs 4 rfl rfl rfl rfl (o_sig 4 (ren [(0, 0)]) (c15 s) e15 rfl rfl rfl w15 ⟨(lx rfl), trivial⟩ r15) ?_
  refine WPl.v rfl (o_not rfl) ?_
  refine WPl.v rfl (o_move rfl) ?_
  refine WPl.bit 4 5 (!(!s.ready)) rfl rfl ?_
  refine WPl.gv 4 rfl rfl (.plain rfl (by first | (simp; done) | simp only [Bool.not_eq_true']) rfl) (fun hb => o_ldpa G25 rfl rfl rfl) ?_
  refine WPl.gc0 4 rfl rfl (.plain rfl (by first | (simp; done) | simp only [Bool.not_eq_true']) rfl) (fun hb => o_sig 5 id (c55 p.pounds p.tl p.th p.al p.ah) e55 rfl rfl rfl w55 trivial r55) ?_
  refine WPl.gv 4 rfl rfl (.plain rfl (by first | (simp; done) | simp only [Bool.not_eq_true']) rfl) (fun hb => o_not rfl) ?_
  refine WPl.v rfl (o_or rfl rfl rfl (by first | (simp; done) | exact fun h => by rw [h]; rfl | exact fun h => Bool.and_eq_true_iff.2 ⟨hb, by rw [h]; rfl⟩ | simp_all)) ?_
  refine WPl.v rfl (o_move rfl) ?_
  refine WPl.bit 5 6 (!((!s.ready) || (!(isPot p.pounds p.tl p.th p.al p.ah)))) rfl rfl ?_
  refine WPl.gv 5 rfl rfl (.plain rfl (by first | (simp; done) | simp only [Bool.not_eq_true']) rfl) (fun hb => o_ldpa G28 rfl rfl rfl) ?_
  refine WPl.gv 5 rfl rfl (.plain rfl (by first | (simp; done) | simp only [Bool.not_eq_true']) rfl) (fun hb => o_move rfl) ?_
  refine WPl.gc0 5 rfl rfl (.plain rfl (by first | (simp; done) | simp only [Bool.not_eq_true']) rfl) (fun hb => o_sig 6 (ren [(0, 0), (1, 1)]) (c20 s add (ready_chk (by simp at hb; exact hb.1))) e20 rfl rfl rfl w20 ⟨(lx rfl), (lx rfl), trivial⟩ r20) ?_
  refine WPl.gv 5 rfl rfl (.plain rfl (by first | (simp; done) | simp only [Bool.not_eq_true']) rfl) (fun hb => o_not rfl) ?_
  refine WPl.v rfl (o_or rfl rfl rfl (by first | (simp; done) | exact fun h => by rw [h]; rfl | exact fun h => Bool.and_eq_true_iff.2 ⟨hb, by rw [h]; rfl⟩ | simp_all)) ?_
  refine WPl.nil ?_
  refine EX.then ?_
  refine WP.cond rfl (fun hc1 => ?_) (fun hc1 => ?_)
  · try simp only [decide_eq_true_eq, decide_eq_false_iff_not, Bool.and_eq_true, Bool.or_eq_true, Bool.and_eq_false_iff, Bool.or_eq_false_iff, Bool.not_eq_true', Bool.not_eq_false', ne_eq, Decidable.not_not] at hc1
    refine WP.seq ?_
    refine WP.region ?_
    refine WPl.cs 6 rfl rfl rfl rfl (o_sig 6 id c17 e17 rfl rfl rfl w17 trivial r17) ?_
    refine WPl.v rfl (o_assign rfl) ?_
    refine WPl.nil ?_
    refine EX.then ?_
    refine WP.ret ?_
    refine EX.ret_then ?_
    exact EX.fin id (.inl rfl) rfl (.tmp rfl .nil) rfl r12 trivial (by simp) (by simp)
  · try simp only [decide_eq_true_eq, decide_eq_false_iff_not, Bool.and_eq_true, Bool.or_eq_true, Bool.and_eq_false_iff, Bool.or_eq_false_iff, Bool.not_eq_true', Bool.not_eq_false', ne_eq, Decidable.not_not] at hc1
    obtain ⟨hr, hp, hi1, hv⟩ : s.ready = true ∧ isPot p.pounds p.tl p.th p.al p.ah = true ∧ (add.length : Int) ≤ 40 ∧ isAdd s add = true := by simpa [and_assoc] using hc1
    have hs : s.chk = true := ready_chk hr
    have hl4 : s.pigs.length ≤ 40 := by have := (Shop.pigsOK hs).2; omega
    have law := hlaw hr hp hv
    have hE : opE s (isAdd s add) = 0 := (mSafe_in hs hv).1
    have hpb := potB hp
    have htb := tl_bnd hs
    refine WP.skip ?_
    refine EX.then ?_
    refine WP.seq ?_
    refine WP.draw (nf := 10) [⟨[34, 7, 8], [8, 9], [], [], []⟩, ⟨[34, 7, 8], [8, 9], [6], [6], [0]⟩, ⟨[32, 33, 7, 8], [6, 8, 9], [], [], []⟩, ⟨[7, 8], [8, 9], [7], [7], [0, 1, 2]⟩, ⟨[32, 33, 34, 35, 8], [6, 7, 9], [8], [8], []⟩, ⟨[32, 33, 34, 35, 7], [6, 7, 8], [9], [9], []⟩, ⟨[], [], [], [8], [0, 1, 2, 3, 4, 5]⟩, ⟨[], [], [], [9], [0, 1, 2, 3, 4, 5, 6]⟩] (by kernel_rfl) (by kernel_rfl) ?_
    refine DRQ.v rfl rfl rfl (o_ldpa G28 rfl rfl rfl) ?_
    refine DRQ.cs rfl rfl rfl rfl (o_sig 6 (ren [(0, 0)]) (c18 s hl4) e18 rfl rfl rfl w18 ⟨(lx rfl), trivial⟩ r18) ?_
    refine DRQ.v rfl rfl rfl (o_ldpa G28 rfl rfl rfl) ?_
    refine DRQ.cs rfl rfl rfl rfl (o_sig 7 (ren [(0, 0)]) (c18 s hl4) e18 rfl rfl rfl w18 ⟨(lx rfl), trivial⟩ r18) ?_
    refine DRQ.l 8 rfl rfl rfl rfl (o_alloc Z28) ?_
    refine DRQ.l 9 rfl rfl rfl rfl (o_alloc Z28) ?_
    refine DRQ.s 8 rfl rfl rfl (o_stag G28 rfl rfl rfl ⟨rfl, rfl, rfl, rfl, rfl, rfl, rfl, rfl, rfl, rfl, (.inl ⟨_, (lx rfl), PL.one⟩), trivial⟩ rfl rfl) ?_
    refine DRQ.s 9 rfl rfl rfl (o_stag G28 rfl rfl rfl ⟨rfl, rfl, rfl, rfl, rfl, rfl, rfl, rfl, rfl, rfl, (.inl ⟨_, (lx rfl), PL.one⟩), trivial⟩ rfl rfl) ?_
    refine DRQ.nil' ?_
    refine EX.then ?_
    refine WP.seq ?_
    refine WP.region ?_
    refine WPl.v rfl (o_ldpa G28 rfl rfl rfl) ?_
    refine WPl.v rfl (o_ldpa G25 rfl rfl rfl) ?_
    refine WPl.cs 10 rfl rfl rfl rfl (o_sig 10 (ren [(0, 0)]) (c53 s p hl4) e53 rfl rfl rfl w53 ⟨(lx rfl), trivial⟩ r53) ?_
    refine WPl.v rfl (o_move rfl) ?_
    refine WPl.v rfl (o_extract rfl rfl) ?_
    refine WPl.v rfl (o_extract rfl rfl) ?_
    refine WPl.l 10 11 rfl rfl rfl (o_alloc Z25) ?_
    refine WPl.s1 (o_stag G25 rfl rfl rfl ⟨rfl, rfl, rfl, rfl, rfl, trivial⟩ rfl rfl) ?_
    refine WPl.v rfl (o_assign rfl) ?_
    refine WPl.nil ?_
    refine EX.then ?_
    refine WP.seq ?_
    refine WP.draw (nf := 14) [⟨[44, 45, 46, 11], [11, 12, 13], [], [], []⟩, ⟨[43, 45, 11], [13], [11], [11], []⟩, ⟨[43, 44, 11], [11, 13], [], [], []⟩, ⟨[43, 11], [13], [12], [12, 11], [1, 2]⟩, ⟨[11], [13], [], [], [0, 1, 2, 3]⟩, ⟨[11], [13], [], [], [0, 1, 2, 3, 4]⟩, ⟨[49, 11], [13], [], [], [0, 1, 2, 3, 4, 5]⟩, ⟨[48, 11], [13], [], [], [0, 1, 2, 3, 4, 5]⟩, ⟨[43, 44, 45, 46, 47, 42, 48, 49], [11, 12], [13], [13], []⟩, ⟨[49], [], [], [13], [0, 1, 2, 3, 4, 5, 6, 8]⟩, ⟨[], [], [], [], [0, 1, 2, 3, 4, 5, 6, 7, 8, 9]⟩] (by kernel_rfl) (by kernel_rfl) ?_
    refine DRQ.v rfl rfl rfl (o_ldpa G28 rfl rfl rfl) ?_
    refine DRQ.l 11 rfl rfl rfl rfl (o_bsl (E := EP.int) (l := []) R29 rfl rfl (.nil) rfl rfl) ?_
    refine DRQ.v rfl rfl rfl (o_move rfl) ?_
    refine DRQ.u1 12 rfl rfl rfl (OpG.settle1 (.inl rfl) rfl (o_apps R29 EP.int_one rfl rfl rfl (lx rfl) (by first | omega | (simp; omega) | (simp at *; omega)) (by first | omega | (simp; omega) | (simp at *; omega)))) rfl ?_
    refine DRQ.cs rfl rfl rfl rfl (o_sig 13 (ren [(0, 0), (1, 12)]) (c36 s ([] ++ add) hl4) e36 rfl rfl rfl w36 ⟨(lx rfl), (lx rfl), trivial⟩ r36) ?_
    refine DRQ.v rfl rfl rfl (o_move rfl) ?_
    refine DRQ.v rfl rfl rfl (o_extract rfl rfl) ?_
    refine DRQ.v rfl rfl rfl (o_extract rfl rfl) ?_
    refine DRQ.l 13 rfl rfl rfl rfl (o_alloc Z25) ?_
    refine DRQ.s 13 rfl rfl rfl (o_stag G25 rfl rfl rfl ⟨rfl, rfl, rfl, rfl, rfl, trivial⟩ rfl rfl) ?_
    refine DRQ.v rfl rfl rfl (o_assign rfl) ?_
    refine DRQ.nil' ?_
    refine EX.then ?_
    refine WP.seq ?_
    refine WP.seq ?_
    refine WP.region ?_
    rw [List.nil_append]
    refine WPl.v rfl (o_move rfl) ?_
    refine WPl.v rfl (o_neq rfl rfl) ?_
    refine WPl.imp (Imp.bitF 51 (b' := false) rfl (by simp [hE])) ?_
    refine WPl.v rfl (o_move rfl) ?_
    refine WPl.on rfl ⟨_, _, rfl, rfl, rfl⟩ (o_move rfl) ?_
    refine WPl.on rfl ⟨_, _, rfl, rfl, rfl⟩ (o_eql rfl rfl) ?_
    refine WPl.ung ⟨_, _, rfl, rfl, rfl⟩ ?_
    refine WPl.v rfl (o_fldp F28_0 rfl) ?_
    refine WPl.ung ⟨_, _, rfl, rfl, rfl⟩ ?_
    refine WPl.v rfl (o_fldp F25_0 rfl) ?_
    refine WPl.ung ⟨_, _, rfl, rfl, rfl⟩ ?_
    refine WPl.v rfl (o_ldp S3 rfl rfl rfl) ?_
    refine WPl.ung ⟨_, _, rfl, rfl, rfl⟩ ?_
    refine WPl.v rfl (o_fldp F25_0 rfl) ?_
    refine WPl.ung ⟨_, _, rfl, rfl, rfl⟩ ?_
    refine WPl.v rfl (o_ldp S3 rfl rfl rfl) ?_
    refine WPl.on rfl ⟨_, _, rfl, rfl, rfl⟩ (o_add rfl rfl (by first | omega | (simp; omega)) (by first | omega | (simp; omega))) ?_
    refine WPl.ung ⟨_, _, rfl, rfl, rfl⟩ ?_
    refine WPl.v rfl (o_fldp F28_1 rfl) ?_
    refine WPl.ung ⟨_, _, rfl, rfl, rfl⟩ ?_
    refine WPl.v rfl (o_ldp S3 rfl rfl rfl) ?_
    refine WPl.on rfl ⟨_, _, rfl, rfl, rfl⟩ (o_leq rfl rfl) ?_
    refine WPl.on rfl ⟨_, _, rfl, rfl, rfl⟩ (o_neb Try.underlying4 rfl rfl) ?_
    refine WPl.imp (Imp.bitF 64 (b' := false) rfl (by simp [law.n])) ?_
    refine WPl.v rfl (o_pickF rfl rfl) ?_
    refine WPl.v rfl (o_move rfl) ?_
    refine WPl.on rfl ⟨_, _, rfl, rfl, rfl⟩ (o_move rfl) ?_
    refine WPl.on rfl ⟨_, _, rfl, rfl, rfl⟩ (o_neq rfl rfl) ?_
    refine WPl.on rfl ⟨_, _, rfl, rfl, rfl⟩ (o_move rfl) ?_
    refine WPl.bit 14 15 (decide ((opE s (isMix s p)) ≠ 0)) rfl rfl ?_
    refine WPl.gv 14 rfl rfl (.plain rfl Iff.rfl rfl) (fun hb => o_move rfl) ?_
    refine WPl.gv 14 rfl rfl (.plain rfl Iff.rfl rfl) (fun hb => o_neq rfl rfl) ?_
    refine WPl.on rfl ⟨_, _, rfl, rfl, rfl⟩ (o_and rfl rfl rfl id) ?_
    refine WPl.v rfl (o_pickF rfl rfl) ?_
    refine WPl.imp (Imp.bitF 73 (b' := false) rfl (by rcases law.e with h | h <;> simp [h])) ?_
    refine WPl.nil ?_
    refine EX.then ?_
    refine WP.cond rfl (fun h => by cases h) (fun _ => ?_)
    refine WP.skip ?_
    refine EX.then ?_
    refine WP.seq ?_
    refine WP.draw (nf := 15) [⟨[75], [], [], [], []⟩, ⟨[74, 76], [8], [], [], []⟩, ⟨[75], [], [], [], [0]⟩, ⟨[75], [], [], [8], [0, 2]⟩, ⟨[], [], [], [], [0, 1, 2, 3]⟩, ⟨[], [], [], [9], [0, 1, 2, 3, 4]⟩] (by kernel_rfl) (by kernel_rfl) ?_
    refine DRQ.v rfl rfl rfl (o_ldpa G25 rfl rfl rfl) ?_
    refine DRQ.v rfl rfl rfl (o_ldpa G25 rfl rfl rfl) ?_
    refine DRQ.v rfl rfl rfl (o_fldp F28_0 rfl) ?_
    refine DRQ.s 8 rfl rfl rfl (o_stag G25 rfl rfl rfl ⟨rfl, rfl, rfl, rfl, rfl, trivial⟩ rfl rfl) ?_
    refine DRQ.v rfl rfl rfl (o_fldp F28_0 rfl) ?_
    refine DRQ.s 9 rfl rfl rfl (o_stag G25 rfl rfl rfl ⟨rfl, rfl, rfl, rfl, rfl, trivial⟩ rfl rfl) ?_
    refine DRQ.nil' ?_
    refine EX.then ?_
    refine WP.seq ?_
    refine WP.seq ?_
    refine WP.region ?_
    refine WPl.v rfl (o_move rfl) ?_
    refine WPl.v rfl (o_neq rfl rfl) ?_
    refine WPl.v rfl (o_move rfl) ?_
    refine WPl.bit 15 16 (!(decide ((opE s (isMix s p)) ≠ 0))) rfl rfl ?_
    refine WPl.gv 15 rfl rfl (.plain rfl (by first | (simp; done) | simp only [Bool.not_eq_true']) rfl) (fun hb => o_ldpa G28 rfl rfl rfl) ?_
    refine WPl.gc0 15 rfl rfl (.plain rfl (by first | (simp; done) | simp only [Bool.not_eq_true']) rfl) (fun hb => o_sig 16 (ren [(0, 6)]) (c15 (s.potted (s.mMix p))) e15 rfl rfl rfl w15 ⟨(lx rfl), trivial⟩ r15) ?_
    refine WPl.gv 15 rfl rfl (.plain rfl (by first | (simp; done) | simp only [Bool.not_eq_true']) rfl) (fun hb => o_not rfl) ?_
    refine WPl.v rfl (o_or rfl rfl rfl (by first | (simp; done) | exact fun h => by rw [h]; rfl | exact fun h => Bool.and_eq_true_iff.2 ⟨hb, by rw [h]; rfl⟩ | simp_all)) ?_
    refine WPl.v rfl (o_move rfl) ?_
    refine WPl.bit 16 17 (!((decide ((opE s (isMix s p)) ≠ 0)) || (!((s.potted (s.mMix p)).ready)))) rfl rfl ?_
    refine WPl.gv 16 rfl rfl (.plain rfl (by first | (simp; done) | simp only [Bool.not_eq_true']) rfl) (fun hb => o_ldpa G28 rfl rfl rfl) ?_
    refine WPl.gc0 16 rfl rfl (.plain rfl (by first | (simp; done) | simp only [Bool.not_eq_true']) rfl) (fun hb => o_sig 17 (ren [(0, 7)]) (c15 (s.potted (s.mAft add))) e15 rfl rfl rfl w15 ⟨(lx rfl), trivial⟩ r15) ?_
    refine WPl.gv 16 rfl rfl (.plain rfl (by first | (simp; done) | simp only [Bool.not_eq_true']) rfl) (fun hb => o_not rfl) ?_
    refine WPl.v rfl (o_or rfl rfl rfl (by first | (simp; done) | exact fun h => by rw [h]; rfl | exact fun h => Bool.and_eq_true_iff.2 ⟨hb, by rw [h]; rfl⟩ | simp_all)) ?_
    refine WPl.v rfl (o_move rfl) ?_
    refine WPl.bit 17 18 (!(((decide ((opE s (isMix s p)) ≠ 0)) || (!((s.potted (s.mMix p)).ready))) || (!((s.potted (s.mAft add)).ready)))) rfl rfl ?_
    refine WPl.gv 17 rfl rfl (.plain rfl (by first | (simp; done) | simp only [Bool.not_eq_true']) rfl) (fun hb => o_ldpa G28 rfl rfl rfl) ?_
    refine WPl.gv 17 rfl rfl (.plain rfl (by first | (simp; done) | simp only [Bool.not_eq_true']) rfl) (fun hb => o_move rfl) ?_
    refine WPl.gc0 17 rfl rfl (.plain rfl (by first | (simp; done) | simp only [Bool.not_eq_true']) rfl) (fun hb => o_sig 18 (ren [(0, 6), (1, 1)]) (c20 (s.potted (s.mMix p)) add (ready_chk (by simp only [Bool.not_eq_true', Bool.or_eq_false_iff, Bool.not_eq_false'] at hb; exact hb.1.2))) e20 rfl rfl rfl w20 ⟨(lx rfl), (lx rfl), trivial⟩ r20) ?_
    refine WPl.gv 17 rfl rfl (.plain rfl (by first | (simp; done) | simp only [Bool.not_eq_true']) rfl) (fun hb => o_not rfl) ?_
    refine WPl.v rfl (o_or rfl rfl rfl (by first | (simp; done) | exact fun h => by rw [h]; rfl | exact fun h => Bool.and_eq_true_iff.2 ⟨hb, by rw [h]; rfl⟩ | simp_all)) ?_
    refine WPl.nil ?_
    refine EX.then ?_
    refine WP.cond rfl (fun hc3 => ?_) (fun hc3 => ?_)
    · try simp only [decide_eq_true_eq, decide_eq_false_iff_not, Bool.and_eq_true, Bool.or_eq_true, Bool.and_eq_false_iff, Bool.or_eq_false_iff, Bool.not_eq_true', Bool.not_eq_false', ne_eq, Decidable.not_not] at hc3
      refine WP.seq ?_
      refine WP.region ?_
      refine WPl.cs 18 rfl rfl rfl rfl (o_sig 18 id c17 e17 rfl rfl rfl w17 trivial r17) ?_
      refine WPl.v rfl (o_assign rfl) ?_
      refine WPl.nil ?_
      refine EX.then ?_
      refine WP.ret ?_
      refine EX.ret_then ?_
      exact EX.fin id (.inl rfl) rfl (.tmp rfl .nil) rfl r12 trivial (by simp) (by simp)
    · try simp only [decide_eq_true_eq, decide_eq_false_iff_not, Bool.and_eq_true, Bool.or_eq_true, Bool.and_eq_false_iff, Bool.or_eq_false_iff, Bool.not_eq_true', Bool.not_eq_false', ne_eq, Decidable.not_not] at hc3
      obtain ⟨h0, hra, hrb, _, hva⟩ : opE s (isMix s p) = 0 ∧ (s.potted (s.mMix p)).ready = true ∧ (s.potted (s.mAft add)).ready = true ∧ (add.length : Int) ≤ 40 ∧ isAdd (s.potted (s.mMix p)) add = true := by simpa [and_assoc] using hc3
      have hu := law.u h0 hra hrb hva
      refine WP.skip ?_
      refine EX.then ?_
      refine WP.seq ?_
      refine WP.draw (nf := 21) [⟨[99, 100, 101, 13], [18, 19, 20], [], [], []⟩, ⟨[98, 100, 13], [20], [18], [18], []⟩, ⟨[98, 99, 13], [18, 20], [], [], []⟩, ⟨[98, 13], [20], [19], [19, 18], [1, 2]⟩, ⟨[13], [20], [], [], [0, 1, 2, 3]⟩, ⟨[13], [20], [], [], [0, 1, 2, 3, 4]⟩, ⟨[104, 13], [20], [], [], [0, 1, 2, 3, 4, 5]⟩, ⟨[103, 13], [20], [], [], [0, 1, 2, 3, 4, 5]⟩, ⟨[98, 99, 100, 101, 102, 97, 103, 104], [18, 19], [20], [20], []⟩, ⟨[104], [], [], [20], [0, 1, 2, 3, 4, 5, 6, 8]⟩, ⟨[], [], [], [], [0, 1, 2, 3, 4, 5, 6, 7, 8, 9]⟩] (by kernel_rfl) (by kernel_rfl) ?_
      refine DRQ.v rfl rfl rfl (o_ldpa G28 rfl rfl rfl) ?_
      refine DRQ.l 18 rfl rfl rfl rfl (o_bsl (E := EP.int) (l := []) R29 rfl rfl (.nil) rfl rfl) ?_
      refine DRQ.v rfl rfl rfl (o_move rfl) ?_
      refine DRQ.u1 19 rfl rfl rfl (OpG.settle1 (.inl rfl) rfl (o_apps R29 EP.int_one rfl rfl rfl (lx rfl) (by first | omega | (simp; omega) | (simp at *; omega)) (by first | omega | (simp; omega) | (simp at *; omega)))) rfl ?_
      refine DRQ.cs rfl rfl rfl rfl (o_sig 20 (ren [(0, 6), (1, 19)]) (c36 (s.potted (s.mMix p)) ([] ++ add) (by exact hl4)) e36 rfl rfl rfl w36 ⟨(lx rfl), (lx rfl), trivial⟩ r36) ?_
      refine DRQ.v rfl rfl rfl (o_move rfl) ?_
      refine DRQ.v rfl rfl rfl (o_extract rfl rfl) ?_
      refine DRQ.v rfl rfl rfl (o_extract rfl rfl) ?_
      refine DRQ.l 20 rfl rfl rfl rfl (o_alloc Z25) ?_
      refine DRQ.s 20 rfl rfl rfl (o_stag G25 rfl rfl rfl ⟨rfl, rfl, rfl, rfl, rfl, trivial⟩ rfl rfl) ?_
      refine DRQ.v rfl rfl rfl (o_assign rfl) ?_
      refine DRQ.nil' ?_
      refine EX.then ?_
      refine WP.seq ?_
      refine WP.region ?_
      rw [List.nil_append]
      refine WPl.v rfl (o_ldpa G28 rfl rfl rfl) ?_
      refine WPl.v rfl (o_ldpa G25 rfl rfl rfl) ?_
      refine WPl.cs 21 rfl rfl rfl rfl (o_sig 21 (ren [(0, 7)]) (c53 (s.potted (s.mAft add)) p (by exact hl4)) e53 rfl rfl rfl w53 ⟨(lx rfl), trivial⟩ r53) ?_
      refine WPl.v rfl (o_move rfl) ?_
      refine WPl.v rfl (o_extract rfl rfl) ?_
      refine WPl.v rfl (o_extract rfl rfl) ?_
      refine WPl.l 21 22 rfl rfl rfl (o_alloc Z25) ?_
      refine WPl.s1 (o_stag G25 rfl rfl rfl ⟨rfl, rfl, rfl, rfl, rfl, trivial⟩ rfl rfl) ?_
      refine WPl.v rfl (o_assign rfl) ?_
      refine WPl.nil ?_
      refine EX.then ?_
      refine WP.seq ?_
      refine WP.region ?_
      refine WPl.v rfl (o_move rfl) ?_
      refine WPl.v rfl (o_eql rfl rfl) ?_
      refine WPl.imp (Imp.bitF 112 (b' := true) rfl (decide_eq_true hu.1)) ?_
      refine WPl.v rfl (o_move rfl) ?_
      refine WPl.on rfl ⟨_, _, rfl, rfl, rfl⟩ (o_move rfl) ?_
      refine WPl.on rfl ⟨_, _, rfl, rfl, rfl⟩ (o_eql rfl rfl) ?_
      refine WPl.imp (Imp.bitF 115 (b' := true) rfl (decide_eq_true hu.2.1)) ?_
      refine WPl.v rfl (o_pickT rfl rfl) ?_
      refine WPl.v rfl (o_move rfl) ?_
      refine WPl.ung ⟨_, _, rfl, rfl, rfl⟩ ?_
      refine WPl.v rfl (o_ldpa G25 rfl rfl rfl) ?_
      refine WPl.ung ⟨_, _, rfl, rfl, rfl⟩ ?_
      refine WPl.v rfl (o_ldpa G25 rfl rfl rfl) ?_
      refine WPl.on rfl ⟨_, _, rfl, rfl, rfl⟩ (o_eqs (a := [((s.potted (s.mMix p)).mAft (add)).pounds, ((s.potted (s.mMix p)).mAft (add)).tl, ((s.potted (s.mMix p)).mAft (add)).th, ((s.potted (s.mMix p)).mAft (add)).al, ((s.potted (s.mMix p)).mAft (add)).ah]) (b := [((s.potted (s.mAft add)).mMix p).pounds, ((s.potted (s.mAft add)).mMix p).tl, ((s.potted (s.mAft add)).mMix p).th, ((s.potted (s.mAft add)).mMix p).al, ((s.potted (s.mAft add)).mMix p).ah]) Q25 rfl Try.eqGuardType25 rfl rfl rfl rfl) ?_
      refine WPl.imp (Imp.bitF 120 (b' := true) rfl (by rw [hu.2.2]; simp)) ?_
      refine WPl.v rfl (o_pickT rfl rfl) ?_
      refine WPl.v rfl (o_move rfl) ?_
      refine WPl.ung ⟨_, _, rfl, rfl, rfl⟩ ?_
      refine WPl.cs 22 rfl rfl rfl rfl (o_sig 22 id c17 e17 rfl rfl rfl w17 trivial r17) ?_
      refine WPl.v rfl (o_pickT rfl rfl) ?_
      refine WPl.v rfl (o_assign rfl) ?_
      refine WPl.nil ?_
      refine EX.then ?_
      refine WP.ret ?_
      exact EX.fin id (.inl rfl) rfl (.tmp rfl .nil) rfl r12 trivial (by simp) (by simp)
end Go.Flong
