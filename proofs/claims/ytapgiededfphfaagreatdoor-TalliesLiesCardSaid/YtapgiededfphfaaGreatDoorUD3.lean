/- Part 3 of the texts behind the claim: TB7 TB8 TB9 TR1 TR2 TR3 TR4 TR5 JT0 FDTW1 FDTW2. -/
import Derived.Test.YtapgiededfphfaaGreatDoorUD2
set_option linter.unusedSimpArgs false
set_option linter.unusedVariables false
namespace Go.Flong
open Go Go.Eng
theorem bookB {b : Book} (hc : b.chk = true) : BookB b := by
  simp only [Book.chk, Bool.and_eq_true] at hc
  obtain ⟨⟨h1, h2⟩, h3⟩ := hc
  have h4 := h1
  simp only [Book.head, within, Bool.and_eq_true, decide_eq_true_eq] at h4
  obtain ⟨⟨⟨⟨h5, h6⟩, h7⟩, h8⟩, h9⟩ := h4
  have hb := hallB h5
  have hbo := hb.o
  refine ⟨hb, by omega, by omega, by omega, fun i hi => ?_, fun n h0 hn => ?_, h6⟩
  · have := allI_iff.1 h2 i hi
    simp only [Book.walkOK, within, Bool.and_eq_true, decide_eq_true_eq] at this; omega
  · have := allI_iff.1 h3 n.toNat (by omega)
    simp only [Book.talOK, Tal.chk, within, Bool.and_eq_true, decide_eq_true_eq] at this
    rw [show ((n.toNat : Nat) : Int) = n by omega] at this
    omega
def coS (b : Book) (s : Nat) : Nat := 2 ^ b.tals.length - 1 - s
def okS (b : Book) (s : Nat) : Bool := good b (bitsL (coS b s))
def stTo (b : Book) : Nat → Int × List Nat
  | 0 => ((b.tals.length : Int), [])
  | i + 1 => if decide ((popc i : Int) ≤ (stTo b i).1) && okS b i then (if (popc i : Int) < (stTo b i).1 then ((popc i : Int), [i]) else ((stTo b i).1, (stTo b i).2 ++ [i])) else stTo b i
def stL (b : Book) : List Nat := (stTo b (2 ^ b.tals.length)).2
def stS (b : Book) : List Nat := sortN (stL b)
theorem stTo_lt (b : Book) : ∀ i : Nat, (∀ x ∈ (stTo b i).2, x < i) ∧ (stTo b i).2.length ≤ i
  | 0 => ⟨fun x hx => by simp [stTo] at hx, by simp [stTo]⟩
  | i + 1 => by
    obtain ⟨h1, h2⟩ := stTo_lt b i
    unfold stTo
    split
    · split
      · exact ⟨fun x hx => by simp at hx; omega, by simp⟩
      · refine ⟨fun x hx => ?_, by simp; omega⟩
        rcases List.mem_append.1 hx with hx | hx
        · have := h1 x hx; omega
        · simp at hx; omega
    · exact ⟨fun x hx => by have := h1 x hx; omega, by omega⟩
theorem stTo_a {b : Book} {i : Nat} (h1 : decide ((popc i : Int) ≤ (stTo b i).1) = true) (h2 : good b (bitsL (coS b i)) = true) (h3 : (popc i : Int) < (stTo b i).1) : stTo b (i + 1) = ((popc i : Int), [i]) := by
  have h2 : okS b i = true := h2
  rw [stTo, h1, h2, if_pos (show (true && true) = true from rfl), if_pos h3]
theorem stTo_b {b : Book} {i : Nat} (h1 : decide ((popc i : Int) ≤ (stTo b i).1) = true) (h2 : good b (bitsL (coS b i)) = true) (h3 : ¬ (popc i : Int) < (stTo b i).1) : stTo b (i + 1) = ((stTo b i).1, (stTo b i).2 ++ [i]) := by
  have h2 : okS b i = true := h2
  rw [stTo, h1, h2, if_pos (show (true && true) = true from rfl), if_neg h3]
theorem stTo_c {b : Book} {i : Nat} (h2 : good b (bitsL (coS b i)) = false) : stTo b (i + 1) = stTo b i := by
  have h2 : okS b i = false := h2
  rw [stTo, h2, if_neg (by simp)]
theorem stTo_d {b : Book} {i : Nat} (h1 : decide ((popc i : Int) ≤ (stTo b i).1) = false) : stTo b (i + 1) = stTo b i := by
  rw [stTo, h1, if_neg (by simp)]
theorem pow_all : (List.range 9).all (fun n => decide (ui .shl 1 (n : Int) = ((2 ^ n : Nat) : Int)) && decide (ui .sub ((2 ^ n : Nat) : Int) 1 = ((2 ^ n - 1 : Nat) : Int)) && decide (ui .add ((2 ^ n - 1 : Nat) : Int) 1 = ((2 ^ n : Nat) : Int)) && decide (0 < 2 ^ n) && decide (2 ^ n ≤ 256)) = true := by decide +kernel
theorem pow_ok {n : Nat} (h : n ≤ 8) : ui .shl 1 (n : Int) = ((2 ^ n : Nat) : Int) ∧ ui .sub ((2 ^ n : Nat) : Int) 1 = ((2 ^ n - 1 : Nat) : Int) ∧ ui .add ((2 ^ n - 1 : Nat) : Int) 1 = ((2 ^ n : Nat) : Int) ∧ 0 < 2 ^ n ∧ 2 ^ n ≤ 256 := by
  have := List.all_eq_true.1 pow_all n (List.mem_range.2 (by omega))
  simp only [Bool.and_eq_true, decide_eq_true_eq] at this
  obtain ⟨⟨⟨⟨h1, h2⟩, h3⟩, h4⟩, h5⟩ := this
  exact ⟨h1, h2, h3, h4, h5⟩
theorem co_all : (List.range 9).all (fun n => (List.range (2 ^ n)).all fun s => decide (ui .andNot ((2 ^ n - 1 : Nat) : Int) (s : Int) = ((2 ^ n - 1 - s : Nat) : Int)) && (bitsL (2 ^ n - 1 - s)).all fun x => decide (0 ≤ x) && decide (x < (n : Int))) = true := by decide +kernel
theorem co_ok {n s : Nat} (h : n ≤ 8) (hs : s < 2 ^ n) : ui .andNot ((2 ^ n - 1 : Nat) : Int) (s : Int) = ((2 ^ n - 1 - s : Nat) : Int) ∧ ∀ x ∈ bitsL (2 ^ n - 1 - s), 0 ≤ x ∧ x < (n : Int) := by
  have := List.all_eq_true.1 co_all n (List.mem_range.2 (by omega))
  have := List.all_eq_true.1 this s (List.mem_range.2 hs)
  simp only [Bool.and_eq_true, decide_eq_true_eq, List.all_eq_true] at this
  exact this
theorem inBook_co {b : Book} {s : Nat} (h : b.tals.length ≤ 8) (hs : s < 2 ^ b.tals.length) : inBook b (bitsL (coS b s)) := fun i hi => by
  have := (co_ok h hs).2 (nth (bitsL (coS b s)) (i : Int)) (by rw [nthG hi]; exact List.getElem_mem hi)
  exact this
theorem uadd1 {i : Nat} (h : i < 256) : ui .add (i : Int) 1 = ((i + 1 : Nat) : Int) := by
  have : (List.range 256).all (fun i => decide (ui .add (i : Int) 1 = ((i + 1 : Nat) : Int))) = true := by decide +kernel
  have := List.all_eq_true.1 this i (List.mem_range.2 h)
  simpa using this
section
variable {cx : Cx} {S : St} {dst : Option Tmp} {ty : TypeId} {pos : String} {af : Array Edge} {gd : Option (Nat × Bool)}
theorem o_uaE {op : BinOp} {x y : Operand} {t t' : TypeId} {a b r : Int} (hr : ui op a b = r) (hx : S.op x = some (.e (.a (.v (.int .u64 a))))) (hy : S.op y = some (.e (.a (.v (.int .u64 b))))) (ho : op = .add ∨ op = .sub ∨ op = .mul ∨ op = .and ∨ op = .or ∨ op = .xor ∨ op = .andNot) :
    OpG cx S ⟨dst, .binOp op t x y t', ty, pos, af, gd⟩ (.val (.e (.a (.v (.int .u64 r))))) := hr ▸ o_ua hx hy ho
theorem o_ushE {op : BinOp} {x y : Operand} {t t' : TypeId} {k : IntKind} {a b r : Int} (hr : ui op a b = r) (hx : S.op x = some (.e (.a (.v (.int .u64 a))))) (hy : S.op y = some (.e (.a (.v (.int k b))))) (hb : 0 ≤ b) (ho : op = .shl ∨ op = .shr) :
    OpG cx S ⟨dst, .binOp op t x y t', ty, pos, af, gd⟩ (.val (.e (.a (.v (.int .u64 r))))) := hr ▸ o_ush hx hy hb ho
end
end Go.Flong
namespace Go.Flong
open Go Go.Eng
theorem popc_full : (List.range 9).all (fun n => decide (popc (2 ^ n - 1) = n) && decide (bitsL 0 = [])) = true := by decide +kernel
theorem stTo_inv (b : Book) : ∀ i : Nat, (stTo b i).1 ≤ b.tals.length ∧ ((stTo b i).1 < b.tals.length → (stTo b i).2 ≠ [])
  | 0 => ⟨by simp [stTo], fun h => by simp [stTo] at h⟩
  | i + 1 => by
    obtain ⟨h1, h2⟩ := stTo_inv b i
    unfold stTo
    split
    · split
      · exact ⟨by simp only []; omega, fun _ => by simp⟩
      · exact ⟨h1, fun _ => by simp⟩
    · exact ⟨h1, h2⟩
theorem stL_ne {b : Book} (h8 : b.tals.length ≤ 8) : stL b ≠ [] := by
  have hp := pow_ok h8
  have hf := List.all_eq_true.1 popc_full b.tals.length (List.mem_range.2 (by omega))
  simp only [Bool.and_eq_true, decide_eq_true_eq] at hf
  have he : 2 ^ b.tals.length = (2 ^ b.tals.length - 1) + 1 := by omega
  unfold stL
  rw [he, stTo]
  have hi := stTo_inv b (2 ^ b.tals.length - 1)
  have hg : okS b (2 ^ b.tals.length - 1) = true := by
    unfold okS coS
    rw [Nat.sub_self, hf.2]; rfl
  rw [hg, Bool.and_true, hf.1]
  by_cases h : (stTo b (2 ^ b.tals.length - 1)).1 < b.tals.length
  · rw [decide_eq_false (by omega), if_neg (by simp)]
    exact hi.2 h
  · rw [decide_eq_true (by omega), if_pos rfl, if_neg (by omega)]
    simp
theorem stS_lt {b : Book} (h8 : b.tals.length ≤ 8) : ∀ i : Nat, i < (stS b).length → nth (stS b) (i : Int) < 256 := fun i hi => by
  have hp := pow_ok h8
  have h0 := (stTo_lt b (2 ^ b.tals.length)).1
  have h1 : ∀ x ∈ stL b, x < 256 := fun x hx => by have := h0 x hx; omega
  have h2 := (sortN_perm h1).mem_iff (a := nth (stS b) (i : Int))
  have h3 : nth (stS b) (i : Int) ∈ stS b := by rw [nthG hi]; exact List.getElem_mem hi
  exact h1 _ (h2.1 h3)
theorem stS_len {b : Book} (h8 : b.tals.length ≤ 8) : 0 < (stS b).length ∧ (stS b).length ≤ 256 := by
  have hp := pow_ok h8
  unfold stS
  rw [sortN_len]
  refine ⟨List.length_pos_iff.2 (stL_ne h8), ?_⟩
  have := (stTo_lt b (2 ^ b.tals.length)).2
  unfold stL; omega
def nSt (b : Book) : Int := if askE b true = 0 then ((stS b).length : Int) else 0
end Go.Flong
namespace Go.Flong
open Go Go.Eng
def isT (b : Book) (n : Int) : Bool := within n 0 ((b.tals.length : Int) - 1)
def clE (b : Book) (m n : Int) : Int := askE b (isT b m && isT b n)
def clashK (b : Book) (m n : Int) : Int := if m = n then (if enough b [m] then 0 else 3) else clash b m n
def clashV (b : Book) (m n : Int) : Int := if clE b m n = 0 then clashK b m n else 0
def clashE (b : Book) (m n : Int) : Int := if clE b m n = 0 then (if clashK b m n = 0 then 3 else 0) else clE b m n
def bit (n : Int) (s : Nat) : Bool := s.testBit n.toNat
def knB (b : Book) (h : Nat → Bool) : Int := knownS ⟨b, stS b⟩ h
def lieE (b : Book) (n : Int) : Int := askE b (isT b n)
def lieV (b : Book) (n : Int) : Int := if lieE b n = 0 then knB b (bit n) else 0
def boyAt (b : Book) (boy n : Int) : Bool := decide ((nth b.tals n).boy = boy)
def honS (b : Book) (boy : Int) (s : Nat) : Bool := !anyG (boyAt b boy) (bitsL s)
def honE (b : Book) (n : Int) : Int := askE b (within n 0 (IntKind.i64.wrap (b.boys - 1)))
def honV (b : Book) (n : Int) : Int := if honE b n = 0 then knB b (honS b n) else 0
def pgAt (b : Book) (pg : Int) (s : Nat) (i : Nat) : Bool := decide ((nth b.tals (i : Int)).page = pg) && !s.testBit i
def pgTo (b : Book) (pg : Int) (s : Nat) : Nat → Int
  | 0 => 0
  | i + 1 => if pgAt b pg s i then pgTo b pg s i + 1 else pgTo b pg s i
theorem pgTo_bnd (b : Book) (pg : Int) (s : Nat) : ∀ i : Nat, 0 ≤ pgTo b pg s i ∧ pgTo b pg s i ≤ i
  | 0 => by simp [pgTo]
  | i + 1 => by have := pgTo_bnd b pg s i; unfold pgTo; split <;> omega
def pgS (b : Book) (pg : Int) (s : Nat) : Int := pgTo b pg s b.tals.length
def plTo (b : Book) (pg : Int) : Nat → Int × Int
  | 0 => ((b.tals.length : Int), 0)
  | i + 1 => (min (plTo b pg i).1 (pgS b pg (nth (stS b) (i : Int))), max (plTo b pg i).2 (pgS b pg (nth (stS b) (i : Int))))
def plE (b : Book) (pg : Int) : Int := askE b (within pg 0 3)
def plV (b : Book) (pg : Int) : Int × Int := if plE b pg = 0 then plTo b pg (stS b).length else (0, 0)
def brTo (b : Book) (s : Nat) : Nat → MapL
  | 0 => []
  | i + 1 => if s.testBit i then brTo b s i else mset (brTo b s i) (b.key (i : Int)) ((mget (brTo b s i) (b.key (i : Int))).getD 0 + 1)
theorem br_le (b : Book) (s : Nat) : ∀ (i : Nat) (k : List Int), 0 ≤ (mget (brTo b s i) k).getD 0 ∧ (mget (brTo b s i) k).getD 0 ≤ i
  | 0, k => by simp [brTo, mget]
  | i + 1, k => by
    have h1 := br_le b s i k
    have h2 := br_le b s i (b.key (i : Int))
    rw [brTo]
    split
    · omega
    · rw [mget_mset]
      by_cases e : b.key (i : Int) = k
      · rw [if_pos e]; simp only [Option.getD_some]; omega
      · rw [if_neg e]; omega
def brS (b : Book) : MapL := brTo b (nth (stS b) 0) b.tals.length
def remN (b : Book) (i : Nat) : Int := (nth b.set (i : Int)).many - (mget (brS b) [(nth b.set (i : Int)).page, (nth b.set (i : Int)).bore]).getD 0
def lfTo (b : Book) : Nat → List Plate
  | 0 => []
  | i + 1 => if 0 < remN b i then lfTo b i ++ [⟨(nth b.set (i : Int)).page, (nth b.set (i : Int)).bore, remN b i⟩] else lfTo b i
theorem lfTo_len (b : Book) : ∀ i : Nat, (lfTo b i).length ≤ i
  | 0 => by simp [lfTo]
  | i + 1 => by have := lfTo_len b i; unfold lfTo; split <;> simp <;> omega
def lfV (b : Book) : List Plate := if askE b true = 0 then lfTo b b.set.length else []
def rdAt (b : Book) (m mi : Int) (s : Nat) (pg : Int) (i : Nat) : Bool := !((((decide ((nth b.tals (i : Int)).page = pg) && decide ((nth b.tals (i : Int)).mach = m)) && decide ((nth b.tals (i : Int)).min ≤ mi)) && !s.testBit i))
def lackS (b : Book) (m mi : Int) (s : Nat) (pg : Int) : Bool := allI (rdAt b m mi s pg) b.tals.length
def rdS (b : Book) (m ed mi : Int) (s : Nat) : Bool := !anyG (lackS b m mi s) (nth b.hall.eds ed)
def rdOK (b : Book) (m ed mi : Int) : Bool := (within m 0 ((b.hall.bores.length : Int) - 1) && within ed 0 ((b.hall.eds.length : Int) - 1)) && within mi 0 99
def rdE (b : Book) (m ed mi : Int) : Int := askE b (rdOK b m ed mi)
def rdV (b : Book) (m ed mi : Int) : Int := if rdE b m ed mi = 0 then knB b (rdS b m ed mi) else 0
theorem stS_dom {b : Book} (h8 : b.tals.length ≤ 8) : ∀ i : Nat, i < (stS b).length → nth (stS b) (i : Int) < 2 ^ b.tals.length := fun i hi => by
  have hp := pow_ok h8
  have h0 := (stTo_lt b (2 ^ b.tals.length)).1
  have h1 : ∀ x ∈ stL b, x < 256 := fun x hx => by have := h0 x hx; omega
  have h2 := (sortN_perm h1).mem_iff (a := nth (stS b) (i : Int))
  have h3 : nth (stS b) (i : Int) ∈ stS b := by rw [nthG hi]; exact List.getElem_mem hi
  exact h0 _ (h2.1 h3)
theorem bits_all : (List.range 9).all (fun n => (List.range (2 ^ n)).all fun s => (bitsL s).all fun x => decide (0 ≤ x) && decide (x < (n : Int))) = true := by decide +kernel
theorem bits_in {n s : Nat} (h : n ≤ 8) (hs : s < 2 ^ n) : ∀ x ∈ bitsL s, 0 ≤ x ∧ x < (n : Int) := by
  have := List.all_eq_true.1 bits_all n (List.mem_range.2 (by omega))
  have := List.all_eq_true.1 this s (List.mem_range.2 hs)
  simp only [Bool.and_eq_true, decide_eq_true_eq, List.all_eq_true] at this
  exact this
theorem bits_nth {n s : Nat} (h : n ≤ 8) (hs : s < 2 ^ n) {i : Nat} (hi : i < (bitsL s).length) : 0 ≤ nth (bitsL s) (i : Int) ∧ nth (bitsL s) (i : Int) < (n : Int) := bits_in h hs _ (by rw [nthG hi]; exact List.getElem_mem hi)
theorem clV {b : Book} {m n : Int} (h : clE b m n = 0) : clashV b m n = clashK b m n := if_pos h
theorem clE0 {b : Book} {m n : Int} (h : clE b m n = 0) (hk : clashK b m n = 0) : clashE b m n = 3 := by unfold clashE; rw [if_pos h, if_pos hk]
theorem clE1 {b : Book} {m n : Int} (h : clE b m n = 0) (hk : clashK b m n ≠ 0) : clashE b m n = 0 := by unfold clashE; rw [if_pos h, if_neg hk]
theorem clK1 {b : Book} {m n : Int} (h : m ≠ n) : clashK b m n = clash b m n := if_neg h
theorem clK2 {b : Book} {m n : Int} (h : m = n) (he : enough b [m] = false) : clashK b m n = 3 := by unfold clashK; rw [if_pos h, he]; rfl
theorem clK3 {b : Book} {m n : Int} (h : m = n) (he : enough b [m] = true) : clashK b m n = 0 := by unfold clashK; rw [if_pos h, he]; rfl
theorem isT_in {b : Book} {m : Int} (h : isT b m = true) : 0 ≤ m ∧ m < b.tals.length := by
  simp only [isT, within, Bool.and_eq_true, decide_eq_true_eq] at h; omega
theorem bs_bk {b : Book} {t : List Nat} : ∀ I v, (PP EBs ⟨b, t⟩).h I v → (PP EBk b).h I v := by
  rintro I v ⟨ad, cs, h1, h2, h3, h4⟩
  obtain _ | ⟨c0, _ | ⟨c1, _ | ⟨c2, _ | ⟨c3, _ | ⟨c4, _ | ⟨c5, _ | ⟨c6, _ | ⟨c7, _ | ⟨c8, _ | ⟨c9, _ | ⟨c10, _ | ⟨c11, t⟩⟩⟩⟩⟩⟩⟩⟩⟩⟩⟩⟩ := cs <;> first | (exfalso; have hl := EP.len _ h3; simp [EP.str] at hl; done) | skip
  refine ⟨ad, [c0, c1, c2, c3, c4, c5, c6, c7, c8, c9], h1, h2, ⟨h3.1, h3.2.1, h3.2.2.1, h3.2.2.2.1, h3.2.2.2.2.1, h3.2.2.2.2.2.1, h3.2.2.2.2.2.2.1, h3.2.2.2.2.2.2.2.1, h3.2.2.2.2.2.2.2.2.1, h3.2.2.2.2.2.2.2.2.2.1, trivial⟩, fun j y hj => h4 j y ?_⟩
  have : j < 10 := by
    have := (List.getElem?_eq_some_iff.1 hj).1
    simpa using this
  rw [← hj]
  rw [show [c0, c1, c2, c3, c4, c5, c6, c7, c8, c9, c10] = [c0, c1, c2, c3, c4, c5, c6, c7, c8, c9] ++ [c10] from rfl, List.getElem?_append_left (by simpa using this)]
end Go.Flong
namespace Go.Flong
open Go Go.Eng
def pOf (p : Plate) : Int := plc p.page p.bore
def cntTo (l : List Plate) : Nat → List Int
  | 0 => List.replicate 12 0
  | i + 1 => lset (cntTo l i) (plc (nth l (i : Int)).page (nth l (i : Int)).bore) (nth (cntTo l i) (plc (nth l (i : Int)).page (nth l (i : Int)).bore) + (nth l (i : Int)).many)
def countsR (l : List Plate) : List Int := cntTo l l.length
structure PlsOK (l : List Plate) : Prop where
  n : l.length ≤ 1000
  p : ∀ i : Nat, i < l.length → 0 ≤ (nth l (i : Int)).page ∧ (nth l (i : Int)).page ≤ 3 ∧ 0 ≤ (nth l (i : Int)).bore ∧ (nth l (i : Int)).bore ≤ 2 ∧ 0 ≤ (nth l (i : Int)).many ∧ (nth l (i : Int)).many ≤ 1000
theorem cntTo_len (l : List Plate) : ∀ i, (cntTo l i).length = 12
  | 0 => by simp [cntTo]
  | i + 1 => by rw [cntTo, lset_len, cntTo_len l i]
theorem countsR_len (l : List Plate) : (countsR l).length = 12 := cntTo_len l _
theorem nth_ls {l : List Int} {k x : Int} (h0 : 0 ≤ k) (h : k < l.length) (j : Int) (hj : 0 ≤ j) : nth (lset l k x) j = if j = k then x else nth l j := by
  by_cases e : j = k
  · subst e
    have : j.toNat < l.length := by omega
    simp [nth, lset, List.getD_eq_getElem?_getD, this]
  · have e2 : ¬ k.toNat = j.toNat := by omega
    simp [nth, lset, List.getD_eq_getElem?_getD, e, List.getElem?_set, e2]
def manyTo (l : List Plate) (k : Int) : Nat → Int
  | 0 => 0
  | i + 1 => if plc (nth l (i : Int)).page (nth l (i : Int)).bore = k then manyTo l k i + (nth l (i : Int)).many else manyTo l k i
theorem manyTo_bnd {l : List Plate} (h : PlsOK l) (k : Int) : ∀ i : Nat, i ≤ l.length → 0 ≤ manyTo l k i ∧ manyTo l k i ≤ 1000 * i
  | 0, _ => by simp [manyTo]
  | i + 1, hi => by
    have h1 := manyTo_bnd h k i (by omega)
    have h2 := h.p i (by omega)
    unfold manyTo; split <;> omega
theorem plc_in {x y : Int} (h : 0 ≤ x ∧ x ≤ 3 ∧ 0 ≤ y ∧ y ≤ 2) : 0 ≤ plc x y ∧ plc x y < 12 := by unfold plc; omega
theorem nth_zero12 {j : Int} : nth (List.replicate 12 (0 : Int)) j = 0 := by
  unfold nth
  rw [List.getD_eq_getElem?_getD, List.getElem?_replicate]
  split <;> rfl
theorem cntTo_nth {l : List Plate} (h : PlsOK l) : ∀ (i : Nat), i ≤ l.length → ∀ j : Int, 0 ≤ j → j < 12 → nth (cntTo l i) j = manyTo l j i
  | 0, _, j, _, _ => by rw [cntTo, nth_zero12]; rfl
  | i + 1, hi, j, h0, h1 => by
    have h2 := h.p i (by omega)
    have h3 := plc_in (x := (nth l (i : Int)).page) (y := (nth l (i : Int)).bore) (by omega)
    rw [cntTo, nth_ls h3.1 (by rw [cntTo_len]; omega) j h0, manyTo]
    by_cases e : plc (nth l (i : Int)).page (nth l (i : Int)).bore = j
    · rw [if_pos e.symm, if_pos e, e, cntTo_nth h i (by omega) j h0 h1]
    · rw [if_neg (fun g => e g.symm), if_neg e, cntTo_nth h i (by omega) j h0 h1]
theorem countsR_nth {l : List Plate} (h : PlsOK l) {j : Int} (h0 : 0 ≤ j) (h1 : j < 12) : nth (countsR l) j = manyTo l j l.length := cntTo_nth h _ (Nat.le_refl _) j h0 h1
theorem cntTo_bnd {l : List Plate} (h : PlsOK l) {i : Nat} (hi : i ≤ l.length) {j : Int} (h0 : 0 ≤ j) (h1 : j < 12) : 0 ≤ nth (cntTo l i) j ∧ nth (cntTo l i) j ≤ 1000000 := by
  rw [cntTo_nth h i hi j h0 h1]
  have := manyTo_bnd h j i hi
  have := h.n
  omega
theorem setPls {l : List Plate} (h : isSet l = true) (hn : l.length ≤ 1000) : PlsOK l := ⟨hn, fun i hi => by have := isSetB h hi; omega⟩
theorem nilPls : PlsOK [] := ⟨by simp, fun i hi => by simp at hi⟩
theorem onePls {x y n : Int} (h : 0 ≤ x ∧ x ≤ 3 ∧ 0 ≤ y ∧ y ≤ 2) (hn : 0 ≤ n ∧ n ≤ 1000) : PlsOK [⟨x, y, n⟩] := ⟨by simp, fun i hi => by
  have : i = 0 := by simpa using hi
  subst this
  show 0 ≤ x ∧ x ≤ 3 ∧ 0 ≤ y ∧ y ≤ 2 ∧ 0 ≤ n ∧ n ≤ 1000
  omega⟩
def plateT (b : Book) (n : Int) : Plate := ⟨(nth b.tals n).page, nth b.hall.bores (nth b.tals n).mach, 1⟩
def brR (b : Book) (l : List Int) : Nat → List Int
  | 0 => countsR []
  | i + 1 => addTo (brR b l i) (countsR [plateT b (nth l (i : Int))]) 12
def broughtR (b : Book) (l : List Int) : List Int := brR b l l.length
theorem brR_len (b : Book) (l : List Int) : ∀ i, (brR b l i).length = 12
  | 0 => countsR_len _
  | i + 1 => by rw [brR, addTo_len, brR_len b l i]
theorem plateT_ok {b : Book} (hB : BookB b) {n : Int} (h0 : 0 ≤ n) (h1 : n < b.tals.length) : PlsOK [plateT b n] := by
  have h2 := hB.a n h0 h1
  have h3 := hB.h.b (nth b.tals n).mach.toNat (by omega)
  rw [show (((nth b.tals n).mach.toNat : Nat) : Int) = (nth b.tals n).mach by omega] at h3
  exact onePls (by omega) (by omega)
def saidTo (b : Book) (l : List Int) (k : Int) : Nat → Int
  | 0 => 0
  | i + 1 => if pOf (plateT b (nth l (i : Int))) = k then saidTo b l k i + 1 else saidTo b l k i
theorem saidTo_bnd (b : Book) (l : List Int) (k : Int) : ∀ i : Nat, 0 ≤ saidTo b l k i ∧ saidTo b l k i ≤ i
  | 0 => by simp [saidTo]
  | i + 1 => by have := saidTo_bnd b l k i; unfold saidTo; split <;> omega
theorem one_nth {p : Plate} (h : PlsOK [p]) {j : Int} (h0 : 0 ≤ j) (h1 : j < 12) : nth (countsR [p]) j = if pOf p = j then p.many else 0 := by
  rw [countsR_nth h h0 h1]
  show (if plc p.page p.bore = j then 0 + p.many else 0) = _
  unfold pOf
  split <;> omega
theorem brR_nth {b : Book} (hB : BookB b) {l : List Int} (hin : inBook b l) : ∀ (i : Nat), i ≤ l.length → ∀ j : Nat, j < 12 → nth (brR b l i) (j : Int) = saidTo b l (j : Int) i
  | 0, _, j, hj => by rw [brR, countsR_nth nilPls (by omega) (by omega)]; rfl
  | i + 1, hi, j, hj => by
    have h1 := hin i (by omega)
    rw [brR, addTo_nth _ _ 12 j (by rw [brR_len]; omega), if_pos hj, brR_nth hB hin i (by omega) j hj, one_nth (plateT_ok hB h1.1 h1.2) (by omega) (by omega), saidTo]
    split <;> simp [plateT]
theorem brR_bnd {b : Book} (hB : BookB b) {l : List Int} (hin : inBook b l) {i : Nat} (hi : i ≤ l.length) {j : Nat} (hj : j < 12) : 0 ≤ nth (brR b l i) (j : Int) ∧ nth (brR b l i) (j : Int) ≤ i := by
  rw [brR_nth hB hin i hi j hj]; exact saidTo_bnd b l _ i
theorem brAdd_bnd {b : Book} (hB : BookB b) {l : List Int} (hin : inBook b l) {i : Nat} (hi : i < l.length) {j : Nat} (hj : j < 12) (k : Nat) (hk : k ≤ 12) : 0 ≤ nth (addTo (brR b l i) (countsR [plateT b (nth l (i : Int))]) k) (j : Int) ∧ nth (addTo (brR b l i) (countsR [plateT b (nth l (i : Int))]) k) (j : Int) ≤ i + 1 ∧ 0 ≤ nth (countsR [plateT b (nth l (i : Int))]) (j : Int) ∧ nth (countsR [plateT b (nth l (i : Int))]) (j : Int) ≤ 1 := by
  have h1 := hin i hi
  have h2 := brR_bnd hB hin (i := i) (by omega) hj
  have h3 : 0 ≤ nth (countsR [plateT b (nth l (i : Int))]) (j : Int) ∧ nth (countsR [plateT b (nth l (i : Int))]) (j : Int) ≤ 1 := by
    rw [one_nth (plateT_ok hB h1.1 h1.2) (by omega) (by omega)]
    split <;> simp [plateT]
  rw [addTo_nth _ _ k j (by rw [brR_len]; omega)]
  split <;> omega
def enAtR (b : Book) (l : List Int) (i : Nat) : Bool := decide (nth (broughtR b l) (i : Int) ≤ nth (countsR b.set) (i : Int))
theorem key_pOf {b : Book} (hB : BookB b) {m n : Int} (hm : 0 ≤ m ∧ m < b.tals.length) (hn : 0 ≤ n ∧ n < b.tals.length) : b.key m = b.key n ↔ pOf (plateT b m) = pOf (plateT b n) := by
  have hm2 := hB.a m hm.1 hm.2
  have hn2 := hB.a n hn.1 hn.2
  have hm3 := hB.h.b (nth b.tals m).mach.toNat (by omega)
  have hn3 := hB.h.b (nth b.tals n).mach.toNat (by omega)
  rw [show (((nth b.tals m).mach.toNat : Nat) : Int) = (nth b.tals m).mach by omega] at hm3
  rw [show (((nth b.tals n).mach.toNat : Nat) : Int) = (nth b.tals n).mach by omega] at hn3
  simp only [Book.key, pOf, plateT, plc, List.cons.injEq, and_true]
  omega
theorem usedTo_said {b : Book} (hB : BookB b) {l : List Int} (hin : inBook b l) {n : Int} (hn : 0 ≤ n ∧ n < b.tals.length) : ∀ i : Nat, i ≤ l.length → (mget (usedTo b l i) (b.key n)).getD 0 = saidTo b l (pOf (plateT b n)) i
  | 0, _ => by simp [usedTo, mget, saidTo]
  | i + 1, hi => by
    have h1 := hin i (by omega)
    have ih := usedTo_said hB hin hn i (by omega)
    have ih2 := usedTo_said hB hin h1 i (by omega)
    rw [usedTo, mget_mset, saidTo]
    by_cases e : b.key (nth l (i : Int)) = b.key n
    · have e2 := (key_pOf hB h1 hn).1 e
      rw [if_pos e, if_pos e2, Option.getD_some, ih2, e2]
    · have e2 : ¬ pOf (plateT b (nth l (i : Int))) = pOf (plateT b n) := fun g => e ((key_pOf hB h1 hn).2 g)
      rw [if_neg e, if_neg e2, ih]
theorem manyTo_none {l : List Plate} {k : Int} : ∀ {i : Nat}, (∀ j : Nat, j < i → plc (nth l (j : Int)).page (nth l (j : Int)).bore ≠ k) → manyTo l k i = 0
  | 0, _ => rfl
  | i + 1, h => by rw [manyTo, if_neg (h i (by omega)), manyTo_none fun j hj => h j (by omega)]
theorem manyTo_one {l : List Plate} {k : Int} {m : Nat} (hm : plc (nth l (m : Int)).page (nth l (m : Int)).bore = k) : ∀ {i : Nat}, m < i → (∀ j : Nat, j < i → j ≠ m → plc (nth l (j : Int)).page (nth l (j : Int)).bore ≠ k) → manyTo l k i = (nth l (m : Int)).many
  | i + 1, hi, h => by
    rw [manyTo]
    by_cases e : i = m
    · subst e; rw [if_pos hm, manyTo_none fun j hj => h j (by omega) (by omega)]; omega
    · rw [if_neg (h i (by omega) e)]; exact manyTo_one hm (by omega) fun j hj hne => h j (by omega) hne
theorem set_step {l : List Plate} (h : isSet l = true) {i : Nat} (hi : i + 1 < l.length) : plc (nth l (i : Int)).page (nth l (i : Int)).bore < plc (nth l ((i + 1 : Nat) : Int)).page (nth l ((i + 1 : Nat) : Int)).bore := by
  have := allI_iff.1 h (i + 1) hi
  unfold setAt at this
  simp only [Bool.and_eq_true, Bool.not_eq_true', Bool.and_eq_false_iff, decide_eq_false_iff_not] at this
  rw [show ((i + 1 : Nat) : Int) - 1 = (i : Int) by omega] at this
  omega
theorem set_lt {l : List Plate} (h : isSet l = true) {i : Nat} : ∀ {j : Nat}, i < j → j < l.length → plc (nth l (i : Int)).page (nth l (i : Int)).bore < plc (nth l (j : Int)).page (nth l (j : Int)).bore
  | j + 1, hij, hj => by
    have h1 := set_step h hj
    by_cases e : i = j
    · subst e; exact h1
    · have h2 := set_lt h (show i < j by omega) (by omega)
      omega
theorem many_poured {l : List Plate} (h : isSet l = true) (hn : l.length ≤ 1000) {x y : Int} (hx : 0 ≤ x ∧ x ≤ 3) (hy : 0 ≤ y ∧ y ≤ 2) : poured l x y = manyTo l (plc x y) l.length := by
  by_cases ha : allI (notAt l x y) l.length = true
  · rw [poured_none ha, manyTo_none]
    intro j hj e
    have h1 := allI_iff.1 ha j hj
    have h2 := isSetB h hj
    unfold notAt at h1
    rw [Bool.not_eq_true', decide_eq_false_iff_not] at h1
    apply h1
    unfold plc at e
    rw [show x = (nth l (j : Int)).page by omega, show y = (nth l (j : Int)).bore by omega]
  · have : ∃ i : Nat, i < l.length ∧ notAt l x y i = false ∧ allI (notAt l x y) i = true := by
      have : ∀ n : Nat, allI (notAt l x y) n = true ∨ ∃ i : Nat, i < n ∧ notAt l x y i = false ∧ allI (notAt l x y) i = true := by
        intro n
        induction n with
        | zero => exact .inl rfl
        | succ n ih =>
          rcases ih with ih | ⟨i, hi, h⟩
          · cases e : notAt l x y n with
            | true => left; simp [allI, ih, e]
            | false => exact .inr ⟨n, by omega, e, ih⟩
          · exact .inr ⟨i, by omega, h⟩
      rcases this l.length with h | ⟨i, h⟩
      · exact absurd h ha
      · exact ⟨i, h⟩
    obtain ⟨i, hi, he, hall⟩ := this
    unfold notAt at he
    rw [Bool.not_eq_false', decide_eq_true_eq] at he
    rw [poured_at hi hall he]
    have he2 : x = (nth l (i : Int)).page ∧ y = (nth l (i : Int)).bore := by simpa using he
    rw [manyTo_one (m := i) (by rw [he2.1, he2.2]) hi]
    intro j hj hne e
    rcases Nat.lt_or_gt_of_ne hne with g | g
    · have := set_lt h g hi; rw [he2.1, he2.2] at e; omega
    · have := set_lt h g hj; rw [he2.1, he2.2] at e; omega
theorem said_mono (b : Book) (l : List Int) (k : Int) {i : Nat} : ∀ {j : Nat}, i ≤ j → saidTo b l k i ≤ saidTo b l k j
  | 0, h => by rw [show i = 0 by omega]; exact Int.le_refl _
  | j + 1, h => by
    by_cases e : i = j + 1
    · subst e; exact Int.le_refl _
    · have := said_mono b l k (show i ≤ j by omega)
      rw [saidTo]; split <;> omega
theorem said_last (b : Book) (l : List Int) (k : Int) : ∀ i : Nat, saidTo b l k i = 0 ∨ ∃ j : Nat, j < i ∧ pOf (plateT b (nth l (j : Int))) = k ∧ saidTo b l k (j + 1) = saidTo b l k i
  | 0 => .inl rfl
  | i + 1 => by
    by_cases e : pOf (plateT b (nth l (i : Int))) = k
    · exact .inr ⟨i, by omega, e, rfl⟩
    · have h0 : saidTo b l k (i + 1) = saidTo b l k i := by rw [saidTo, if_neg e]
      rcases said_last b l k i with h | ⟨j, h1, h2, h3⟩
      · exact .inl (by rw [h0, h])
      · exact .inr ⟨j, by omega, h2, by rw [h0, h3]⟩
theorem enough_iff {b : Book} (hB : BookB b) (hs : b.set.length ≤ 1000) {l : List Int} (hin : inBook b l) : enough b l = allI (enAtR b l) 12 := by
  rw [Bool.eq_iff_iff]
  unfold enough
  rw [allI_iff, allI_iff]
  have key : ∀ n : Int, 0 ≤ n → n < b.tals.length → poured b.set (nth b.tals n).page (nth b.hall.bores (nth b.tals n).mach) = manyTo b.set (pOf (plateT b n)) b.set.length ∧ 0 ≤ pOf (plateT b n) ∧ pOf (plateT b n) < 12 := by
    intro n h0 h1
    have h2 := hB.a n h0 h1
    have h3 := hB.h.b (nth b.tals n).mach.toNat (by omega)
    rw [show (((nth b.tals n).mach.toNat : Nat) : Int) = (nth b.tals n).mach by omega] at h3
    refine ⟨many_poured hB.p hs (by omega) (by omega), plc_in (by simp only [plateT]; omega)⟩
  constructor
  · intro h k hk
    unfold enAtR
    rw [decide_eq_true_eq, broughtR, brR_nth hB hin _ (Nat.le_refl _) k hk, countsR_nth (setPls hB.p hs) (by omega) (by omega)]
    rcases said_last b l (k : Int) l.length with e | ⟨j, hj, e1, e2⟩
    · rw [e]; exact (manyTo_bnd (setPls hB.p hs) _ _ (Nat.le_refl _)).1
    · have h1 := hin j hj
      have h2 := h j hj
      unfold enAt at h2
      rw [decide_eq_true_eq, usedTo_said hB hin h1 (j + 1) (by omega), (key _ h1.1 h1.2).1, e1, e2] at h2
      exact h2
  · intro h i hi
    have h1 := hin i hi
    have h2 := key _ h1.1 h1.2
    have h3 := h (pOf (plateT b (nth l (i : Int)))).toNat (by omega)
    unfold enAtR at h3
    rw [decide_eq_true_eq, broughtR, brR_nth hB hin _ (Nat.le_refl _) _ (by omega), countsR_nth (setPls hB.p hs) (by omega) (by omega), show (((pOf (plateT b (nth l (i : Int)))).toNat : Nat) : Int) = pOf (plateT b (nth l (i : Int))) by omega] at h3
    unfold enAt
    rw [decide_eq_true_eq, usedTo_said hB hin h1 (i + 1) (by omega), h2.1]
    have := said_mono b l (pOf (plateT b (nth l (i : Int)))) (show i + 1 ≤ l.length by omega)
    omega
def twiceB (b : Book) (m n : Int) : Bool := decide ((nth b.tals m).page = (nth b.tals n).page) && decide ((nth b.tals m).mach = (nth b.tals n).mach)
def sepAt (b : Book) (l : List Int) (i k : Nat) : Bool := !(hurries b (nth b.tals (nth l (i : Int))) (nth b.tals (nth l (k : Int))) || twiceB b (nth l (i : Int)) (nth l (k : Int)))
def sepRow (b : Book) (l : List Int) (i : Nat) : Bool := allI (sepAt b l i) i
theorem hurries_comm (b : Book) (t u : Tal) : hurries b t u = hurries b u t := by
  unfold hurries
  rw [Bool.eq_iff_iff]
  simp only [Bool.and_eq_true, decide_eq_true_eq]
  omega
theorem clash_12 (b : Book) (m n : Int) : (decide (clash b m n = 1) || decide (clash b m n = 2)) = (hurries b (nth b.tals m) (nth b.tals n) || twiceB b m n) := by
  unfold clash twiceB
  rw [Bool.eq_iff_iff]
  simp only [Bool.or_eq_true, Bool.and_eq_true, decide_eq_true_eq]
  cases h : hurries b (nth b.tals m) (nth b.tals n)
  · simp only [Bool.false_eq_true, if_false, false_or]
    split
    · simp_all
    · split <;> simp_all
  · simp
theorem apart_sep {b : Book} {l : List Int} {i : Nat} (hi : i < l.length) : apart b l i = sepRow b l i := by
  unfold apart sepRow
  rw [List.length_take, Nat.min_eq_left (by omega)]
  refine allI_congr fun k hk => ?_
  unfold apartAt sepAt
  rw [clash_12, nth_take hk, hurries_comm]
  congr 2
  unfold twiceB
  rw [Bool.eq_iff_iff]
  simp only [Bool.and_eq_true, decide_eq_true_eq]
  omega
theorem good_sep (b : Book) (l : List Int) : good b l = (allI (sepRow b l) l.length && enough b l) := by
  unfold good
  rw [allI_congr fun i hi => apart_sep hi]
def otTo (l : List Int) : Nat → List Int
  | 0 => []
  | i + 1 => if inL l (i : Int) then otTo l i else otTo l i ++ [(i : Int)]
def othersR (b : Book) (l : List Int) : List Int := otTo l b.tals.length
theorem otTo_len (l : List Int) : ∀ i, (otTo l i).length ≤ i
  | 0 => by simp [otTo]
  | i + 1 => by have := otTo_len l i; unfold otTo; split <;> simp <;> omega
theorem otTo_mem (l : List Int) : ∀ (i : Nat) (x : Int), x ∈ otTo l i ↔ 0 ≤ x ∧ x < i ∧ inL l x = false
  | 0, x => by simp [otTo]; omega
  | i + 1, x => by
    have h := otTo_mem l i x
    unfold otTo
    split
    · rename_i g
      rw [h]
      constructor
      · rintro ⟨h1, h2, h3⟩; exact ⟨h1, by omega, h3⟩
      · rintro ⟨h1, h2, h3⟩
        refine ⟨h1, ?_, h3⟩
        have : x ≠ (i : Int) := fun e => by rw [e, g] at h3; cases h3
        omega
    · rename_i g
      rw [List.mem_append, h, List.mem_singleton]
      constructor
      · rintro (⟨h1, h2, h3⟩ | rfl)
        · exact ⟨h1, by omega, h3⟩
        · exact ⟨by omega, by omega, by simpa using g⟩
      · rintro ⟨h1, h2, h3⟩
        by_cases e : x = (i : Int)
        · exact .inr e
        · exact .inl ⟨h1, by omega, h3⟩
theorem others_in (b : Book) (l : List Int) : inBook b (othersR b l) := fun i hi => by
  have h1 : nth (othersR b l) (i : Int) ∈ othersR b l := by rw [nthG hi]; exact List.getElem_mem hi
  have := (otTo_mem l _ _).1 h1
  omega
theorem others_len (b : Book) (l : List Int) : (othersR b l).length ≤ b.tals.length := otTo_len l _
end Go.Flong
namespace Go.Flong
open Go Go.Eng
def fromR (f : List Int) : Int := if 0 < (f.length : Int) then nth f ((f.length : Int) - 1) + 1 else 0
def listsR (n : Int) : Nat → List Int → List (List Int)
  | 0, f => [f]
  | m + 1, f => flatTo (fun j => listsR n m (f ++ [fromR f + (j : Int)])) (n - fromR f).toNat
def codeL (l : List Int) : Nat := l.foldl (fun s x => s + 2 ^ x.toNat) 0
def codes (n k : Nat) : List Nat := (listsR n k []).map codeL
def srtB : List Nat → Bool
  | [] => true
  | x :: t => (t.all fun y => decide (cmpL (bitsL x) (bitsL y) < 0)) && srtB t
theorem codes_all : (List.range 9).all (fun n => (List.range (n + 1)).all fun k => decide ((codes n k).map bitsL = listsR n k []) && ((codes n k).all fun s => decide (s < 2 ^ n) && decide (popc s = k)) && ((List.range (2 ^ n)).all fun s => !decide (popc s = k) || (codes n k).contains s) && srtB (codes n k)) = true := by decide +kernel
theorem code_all : (List.range 256).all (fun s => decide (codeL (bitsL s) = s)) = true := by decide +kernel
theorem comp_all : (List.range 9).all (fun n => (List.range (2 ^ n)).all fun s => decide (otTo (bitsL s) n = bitsL (2 ^ n - 1 - s)) && decide (popc s ≤ n) && rising (bitsL s) 0 ((n : Int) - 1)) = true := by decide +kernel
theorem code_bits {s : Nat} (h : s < 256) : codeL (bitsL s) = s := by simpa using fin256 code_all h
theorem comp_ok {n s : Nat} (h : n ≤ 8) (hs : s < 2 ^ n) : otTo (bitsL s) n = bitsL (2 ^ n - 1 - s) ∧ popc s ≤ n ∧ rising (bitsL s) 0 ((n : Int) - 1) = true := by
  have := List.all_eq_true.1 (List.all_eq_true.1 comp_all n (List.mem_range.2 (by omega))) s (List.mem_range.2 hs)
  simp only [Bool.and_eq_true, decide_eq_true_eq] at this
  exact ⟨this.1.1, this.1.2, this.2⟩
theorem srtB_pw : ∀ {l : List Nat}, srtB l = true → l.Pairwise fun x y => cmpL (bitsL x) (bitsL y) < 0
  | [], _ => .nil
  | x :: t, h => by
    simp only [srtB, Bool.and_eq_true, List.all_eq_true, decide_eq_true_eq] at h
    exact .cons h.1 (srtB_pw h.2)
structure CodesOK (n k : Nat) : Prop where
  m : (codes n k).map bitsL = listsR n k []
  i : ∀ s, s ∈ codes n k ↔ s < 2 ^ n ∧ popc s = k
  s : (codes n k).Pairwise fun x y => cmpL (bitsL x) (bitsL y) < 0
theorem codes_ok {n k : Nat} (hn : n ≤ 8) (hk : k ≤ n) : CodesOK n k := by
  have := List.all_eq_true.1 (List.all_eq_true.1 codes_all n (List.mem_range.2 (by omega))) k (List.mem_range.2 (by omega))
  simp only [Bool.and_eq_true, decide_eq_true_eq, List.all_eq_true, Bool.or_eq_true, Bool.not_eq_true', decide_eq_false_iff_not, List.contains_iff_mem] at this
  obtain ⟨⟨⟨h1, h2⟩, h3⟩, h4⟩ := this
  exact ⟨h1, fun s => ⟨fun h => h2 s h, fun h => (h3 s (List.mem_range.2 h.1)).resolve_left (fun g => g h.2)⟩, srtB_pw h4⟩
theorem stTo_spec (b : Book) : ∀ i : Nat, (stTo b i).2 = (List.range i).filter (fun s => decide ((popc s : Int) = (stTo b i).1) && okS b s) ∧ (∀ s : Nat, s < i → okS b s = true → (stTo b i).1 ≤ popc s)
  | 0 => ⟨by simp [stTo], fun s h => by omega⟩
  | i + 1 => by
    obtain ⟨h1, h2⟩ := stTo_spec b i
    rw [List.range_succ, List.filter_append]
    by_cases hg : (decide ((popc i : Int) ≤ (stTo b i).1) && okS b i) = true
    · have hg2 := hg
      rw [Bool.and_eq_true, decide_eq_true_eq] at hg2
      by_cases hl : (popc i : Int) < (stTo b i).1
      · rw [show stTo b (i + 1) = ((popc i : Int), [i]) from by rw [stTo, if_pos hg, if_pos hl]]
        refine ⟨?_, fun s hs ho => ?_⟩
        · simp only []
          rw [List.filter_eq_nil_iff.2 (fun s hs => by
            rw [List.mem_range] at hs
            rw [Bool.and_eq_true, decide_eq_true_eq]
            rintro ⟨e, ho⟩
            have := h2 s hs ho
            omega)]
          simp [hg2.2]
        · simp only []
          by_cases e : s = i
          · subst e; exact Int.le_refl _
          · have := h2 s (by omega) ho
            omega
      · have e : stTo b (i + 1) = ((stTo b i).1, (stTo b i).2 ++ [i]) := by rw [stTo, if_pos hg, if_neg hl]
        rw [e]
        refine ⟨?_, fun s hs ho => ?_⟩
        · simp only []
          rw [h1]
          have e2 : (popc i : Int) = (stTo b i).1 := by omega
          simp [hg2.2, e2]
        · simp only []
          by_cases e : s = i
          · subst e; omega
          · exact h2 s (by omega) ho
    · have e : stTo b (i + 1) = stTo b i := by rw [stTo, if_neg hg]
      rw [e]
      refine ⟨?_, fun s hs ho => ?_⟩
      · rw [← h1]
        rw [List.filter_eq_nil_iff.2 (fun s hs => by
          have : s = i := by simpa using hs
          subst this
          rw [Bool.and_eq_true, decide_eq_true_eq]
          rintro ⟨e2, ho⟩
          exact hg (by rw [ho, Bool.and_true, decide_eq_true_eq]; omega))]
        simp
      · by_cases e : s = i
        · subst e
          have : ¬ (popc s : Int) ≤ (stTo b s).1 := fun g => hg (by rw [ho, Bool.and_true, decide_eq_true_eq]; exact g)
          omega
        · exact h2 s (by omega) ho
def fewS (b : Book) : Nat := (stTo b (2 ^ b.tals.length)).1.toNat
structure FewOK (b : Book) : Prop where
  n : fewS b ≤ b.tals.length
  m : ∀ s : Nat, s ∈ stL b ↔ s < 2 ^ b.tals.length ∧ popc s = fewS b ∧ okS b s = true
  l : ∀ s : Nat, s < 2 ^ b.tals.length → okS b s = true → fewS b ≤ popc s
  d : (stL b).Nodup
theorem few_ok {b : Book} (h8 : b.tals.length ≤ 8) : FewOK b := by
  obtain ⟨h1, h2⟩ := stTo_spec b (2 ^ b.tals.length)
  have hm : ∀ s : Nat, s ∈ stL b ↔ s < 2 ^ b.tals.length ∧ (popc s : Int) = (stTo b (2 ^ b.tals.length)).1 ∧ okS b s = true := by
    intro s
    unfold stL
    rw [h1, List.mem_filter, List.mem_range, Bool.and_eq_true, decide_eq_true_eq]
  have h0 : 0 ≤ (stTo b (2 ^ b.tals.length)).1 ∧ (stTo b (2 ^ b.tals.length)).1 ≤ b.tals.length := by
    obtain ⟨s, hs⟩ := List.exists_mem_of_ne_nil _ (stL_ne h8)
    have := (hm s).1 hs
    have h3 := (comp_ok h8 this.1).2.1
    omega
  refine ⟨by unfold fewS; omega, fun s => ?_, fun s hs ho => ?_, ?_⟩
  · rw [hm s]; unfold fewS
    constructor
    · rintro ⟨a, c, d⟩; exact ⟨a, by omega, d⟩
    · rintro ⟨a, c, d⟩; exact ⟨a, by omega, d⟩
  · have := h2 s hs ho; unfold fewS; omega
  · unfold stL; rw [h1]; exact List.Pairwise.filter _ List.nodup_range
theorem eq_of_pw {R : Nat → Nat → Prop} (hi : ∀ x, ¬ R x x) (ht : ∀ x y z, R x y → R y z → R x z) : ∀ {a c : List Nat}, a.Pairwise R → c.Pairwise R → (∀ x, x ∈ a ↔ x ∈ c) → a = c
  | [], [], _, _, _ => rfl
  | [], y :: c, _, _, h => absurd ((h y).2 (by simp)) (by simp)
  | x :: a, [], _, _, h => absurd ((h x).1 (by simp)) (by simp)
  | x :: a, y :: c, ha, hc, h => by
    rw [List.pairwise_cons] at ha hc
    have e : x = y := by
      rcases List.mem_cons.1 ((h x).1 (by simp)) with e | e
      · exact e
      · rcases List.mem_cons.1 ((h y).2 (by simp)) with e2 | e2
        · exact e2.symm
        · exact absurd (ht _ _ _ (hc.1 x e) (ha.1 y e2)) (hi y)
    subst e
    rw [eq_of_pw hi ht ha.2 hc.2 fun z => ?_]
    constructor
    · intro hz
      rcases List.mem_cons.1 ((h z).1 (List.mem_cons_of_mem _ hz)) with e | e
      · subst e; exact absurd (ha.1 z hz) (hi z)
      · exact e
    · intro hz
      rcases List.mem_cons.1 ((h z).2 (List.mem_cons_of_mem _ hz)) with e | e
      · subst e; exact absurd (hc.1 z hz) (hi z)
      · exact e
theorem cmpL_zero : ∀ {a c : List Int}, cmpL a c = 0 → a = c
  | [], [], _ => rfl
  | [], _ :: _, h => by simp [cmpL] at h
  | _ :: _, [], h => by simp [cmpL] at h
  | x :: a, y :: c, h => by
    rw [cmpL] at h
    split at h
    · rename_i e
      rw [cmpI_eq.1 e, cmpL_zero h]
    · rename_i e; exact absurd h e
open Go.Sort Go.Shelf Go.Proofs in
theorem sortN_pw {l : List Nat} (h : ∀ x ∈ l, x < 256) (hd : l.Nodup) : (sortN l).Pairwise fun x y => cmpL (bitsL x) (bitsL y) < 0 := by
  have hnd : (sortN l).Nodup := (sortN_perm h).nodup_iff.2 hd
  rw [List.pairwise_iff_getElem]
  intro i j hi hj hij
  have e : ∀ k (hk : k < (sortN l).length), (sortN l)[k] = ((sortL cfS (l.map toS))[k]'(by simpa [sortN] using hk)).1 := fun k hk => by simp [sortN]
  have h1 := sortL_sorted stySwo (l.map toS) hij (by simpa [sortN] using hj)
  have h0 : ¬ cmpL (bitsL (sortN l)[j]) (bitsL (sortN l)[i]) < 0 := by rw [e i hi, e j hj]; exact h1
  have h2 := cmpL_flip h0
  have h3 : cmpL (bitsL (sortN l)[i]) (bitsL (sortN l)[j]) ≠ 0 := by
    intro g
    have g2 := cmpL_zero g
    have b1 := h _ ((sortN_perm h).mem_iff.1 (List.getElem_mem hi))
    have b2 := h _ ((sortN_perm h).mem_iff.1 (List.getElem_mem hj))
    have g3 : (sortN l)[i] = (sortN l)[j] := by rw [← code_bits b1, ← code_bits b2, g2]
    have := (List.getElem_inj hnd).1 g3
    omega
  omega
def okL (b : Book) (l : List Int) : Bool := good b (othersR b l)
def keepTo (b : Book) (L : List (List Int)) : Nat → List (List Int)
  | 0 => []
  | i + 1 => if okL b (nth L (i : Int)) then keepTo b L i ++ [nth L (i : Int)] else keepTo b L i
theorem keepTo_len (b : Book) (L : List (List Int)) : ∀ i, (keepTo b L i).length ≤ i
  | 0 => by simp [keepTo]
  | i + 1 => by have := keepTo_len b L i; unfold keepTo; split <;> simp <;> omega
theorem keepTo_filter (b : Book) (L : List (List Int)) : ∀ i : Nat, i ≤ L.length → keepTo b L i = (L.take i).filter (okL b)
  | 0, _ => by simp [keepTo]
  | i + 1, h => by
    rw [keepTo, keepTo_filter b L i (by omega), ← take_snoc (show i < L.length by omega), List.filter_append]
    split
    · rename_i g; simp [g]
    · rename_i g; simp [g]
def listsB (b : Book) (k : Nat) : List (List Int) := listsR (b.tals.length : Int) k []
def storK (b : Book) (k : Nat) : List (List Int) := keepTo b (listsB b k) (listsB b k).length
def storUp (b : Book) : Nat → List (List Int)
  | 0 => []
  | k + 1 => storK b k
def storS (b : Book) : List (List Int) := (stS b).map bitsL
theorem storK_eq {b : Book} (h8 : b.tals.length ≤ 8) {k : Nat} (hk : k ≤ b.tals.length) : storK b k = ((codes b.tals.length k).filter (okS b)).map bitsL := by
  have hc := codes_ok h8 hk
  unfold storK
  rw [keepTo_filter b _ _ (Nat.le_refl _), List.take_length, listsB, ← hc.m, List.filter_map]
  congr 1
  refine List.filter_congr fun s hs => ?_
  have h1 := (hc.i s).1 hs
  show okL b (bitsL s) = okS b s
  unfold okL okS coS othersR
  rw [(comp_ok h8 h1.1).1]
theorem stor_law {b : Book} (h8 : b.tals.length ≤ 8) {k : Nat} (h1 : ∀ j : Nat, j < k → storK b j = []) (h2 : storK b k ≠ []) : storK b k = storS b := by
  have hf := few_ok h8
  have hp := pow_ok h8
  have hK : storK b (fewS b) ≠ [] := by
    obtain ⟨s, hs⟩ := List.exists_mem_of_ne_nil _ (stL_ne h8)
    have hs2 := (hf.m s).1 hs
    rw [storK_eq h8 hf.n]
    intro g
    have : s ∈ (codes b.tals.length (fewS b)).filter (okS b) := List.mem_filter.2 ⟨((codes_ok h8 hf.n).i s).2 ⟨hs2.1, hs2.2.1⟩, hs2.2.2⟩
    rw [List.map_eq_nil_iff] at g
    rw [g] at this; cases this
  have hle : k ≤ fewS b := Nat.le_of_not_lt fun g => hK (h1 _ g)
  have hkn : k ≤ b.tals.length := Nat.le_trans hle hf.n
  have hc := codes_ok h8 hkn
  have e := storK_eq h8 hkn
  have hkf : k = fewS b := by
    rw [e] at h2
    obtain ⟨s, hs⟩ := List.exists_mem_of_ne_nil ((codes b.tals.length k).filter (okS b)) (fun g => h2 (by rw [g]; rfl))
    rw [List.mem_filter] at hs
    have h3 := (hc.i s).1 hs.1
    have := hf.l s h3.1 hs.2
    omega
  rw [e, storS]
  congr 1
  have hb : ∀ x ∈ stL b, x < 256 := fun x hx => by have := ((hf.m x).1 hx).1; omega
  refine eq_of_pw (R := fun x y => cmpL (bitsL x) (bitsL y) < 0) (fun x => by rw [cmpL_refl]; omega) (fun x y z a c => cmpL_trans a (by omega)) (hc.s.filter _) (sortN_pw hb hf.d) fun x => ?_
  rw [List.mem_filter, hc.i x, stS, (sortN_perm hb).mem_iff, hf.m x, hkf]
  exact ⟨fun ⟨⟨a, c⟩, d⟩ => ⟨a, c, d⟩, fun ⟨a, c, d⟩ => ⟨⟨a, c⟩, d⟩⟩
theorem storUp_law {b : Book} (h8 : b.tals.length ≤ 8) {k : Nat} (h1 : ∀ j : Nat, j + 1 < k → storK b j = []) (h2 : storUp b k ≠ []) : storUp b k = storS b := by
  cases k with
  | zero => exact absurd rfl h2
  | succ k => exact stor_law h8 (fun j hj => h1 j (by omega)) h2
theorem storK_full {b : Book} (h8 : b.tals.length ≤ 8) : storK b b.tals.length ≠ [] := by
  have hp := pow_ok h8
  have hc := codes_ok h8 (Nat.le_refl b.tals.length)
  have hf := List.all_eq_true.1 popc_full b.tals.length (List.mem_range.2 (by omega))
  simp only [Bool.and_eq_true, decide_eq_true_eq] at hf
  rw [storK_eq h8 (Nat.le_refl _)]
  intro g
  rw [List.map_eq_nil_iff] at g
  have : 2 ^ b.tals.length - 1 ∈ (codes b.tals.length b.tals.length).filter (okS b) := List.mem_filter.2 ⟨(hc.i _).2 ⟨by omega, hf.1⟩, by unfold okS coS; rw [Nat.sub_self, hf.2]; rfl⟩
  rw [g] at this; cases this
def chain (n : Int) : Int → List Int → Prop
  | _, [] => True
  | lo, x :: t => lo ≤ x ∧ x < n ∧ chain n (x + 1) t
theorem nth_end (f : List Int) (x : Int) : nth (f ++ [x]) (f.length : Int) = x := by simp [nth, List.getD_eq_getElem?_getD]
end Go.Flong
namespace Go.Flong
open Go Go.Eng
theorem inL_all : (List.range 256).all (fun s => (List.range 8).all fun n => inL (bitsL s) (n : Int) == s.testBit n) = true := by decide +kernel
theorem inL_bits {s : Nat} (hs : s < 256) {n : Int} (h0 : 0 ≤ n ∧ n < 8) : inL (bitsL s) n = bit n s := by
  have := List.all_eq_true.1 (fin256 inL_all hs) n.toNat (List.mem_range.2 (by omega))
  rw [show ((n.toNat : Nat) : Int) = n by omega] at this
  exact eq_of_beq this
def cntL (h : List Int → Bool) (L : List (List Int)) : Nat → Int
  | 0 => 0
  | i + 1 => if h (nth L (i : Int)) then cntL h L i + 1 else cntL h L i
theorem cntL_bnd (h : List Int → Bool) (L : List (List Int)) : ∀ i : Nat, 0 ≤ cntL h L i ∧ cntL h L i ≤ i
  | 0 => by simp [cntL]
  | i + 1 => by have := cntL_bnd h L i; unfold cntL; split <;> omega
theorem storS_len (b : Book) : (storS b).length = (stS b).length := by unfold storS; rw [List.length_map]
theorem storS_nth {b : Book} {i : Nat} (hi : i < (stS b).length) : nth (storS b) (i : Int) = bitsL (nth (stS b) (i : Int)) := by
  rw [nthG (by rw [storS_len]; exact hi), nthG hi]
  simp [storS]
theorem cntL_B {b : Book} {h : List Int → Bool} {g : Nat → Bool} (e : ∀ i : Nat, i < (stS b).length → h (bitsL (nth (stS b) (i : Int))) = g (nth (stS b) (i : Int))) : ∀ {i : Nat}, i ≤ (stS b).length → cntL h (storS b) i = cntB g (stS b) i
  | 0, _ => rfl
  | i + 1, hi => by rw [cntL, cntB, storS_nth (by omega), e i (by omega), cntL_B e (by omega)]
theorem knOf_B {b : Book} (h8 : b.tals.length ≤ 8) {h : List Int → Bool} {g : Nat → Bool} (e : ∀ i : Nat, i < (stS b).length → h (bitsL (nth (stS b) (i : Int))) = g (nth (stS b) (i : Int))) : knOf (cntL h (storS b) (stS b).length) (stS b).length = knB b g := by
  have := (stS_len h8).1
  rw [cntL_B e (Nat.le_refl _)]
  unfold knOf knB knownS
  simp only []
  by_cases h1 : cntB g (stS b) (stS b).length = 0
  · rw [if_pos h1, if_neg (by omega), if_pos h1]
  · rw [if_neg h1]
    by_cases h2 : cntB g (stS b) (stS b).length = (stS b).length
    · rw [if_pos h2, if_pos h2]
    · rw [if_neg h2, if_neg h2, if_neg h1]
theorem lie_law {b : Book} (h8 : b.tals.length ≤ 8) {n : Int} (hn : 0 ≤ n ∧ n < b.tals.length) : knOf (cntL (fun l => inL l n) (storS b) (stS b).length) (stS b).length = knB b (bit n) :=
  knOf_B h8 fun i hi => inL_bits (stS_lt h8 i hi) (by omega)
def honL (b : Book) (boy : Int) (l : List Int) : Bool := allI (missG (boyAt b boy) l) l.length
theorem hon_law {b : Book} (h8 : b.tals.length ≤ 8) (boy : Int) : knOf (cntL (honL b boy) (storS b) (stS b).length) (stS b).length = knB b (honS b boy) :=
  knOf_B h8 fun i hi => by unfold honL honS anyG; rw [Bool.not_not]
def pgL (b : Book) (pg : Int) (l : List Int) : Nat → Int
  | 0 => 0
  | k + 1 => if decide ((nth b.tals (nth l (k : Int))).page = pg) then pgL b pg l k + 1 else pgL b pg l k
theorem pgL_bnd (b : Book) (pg : Int) (l : List Int) : ∀ i : Nat, 0 ≤ pgL b pg l i ∧ pgL b pg l i ≤ i
  | 0 => by simp [pgL]
  | i + 1 => by have := pgL_bnd b pg l i; unfold pgL; split <;> omega
theorem pgL_count (b : Book) (pg : Int) (l : List Int) : ∀ i : Nat, i ≤ l.length → pgL b pg l i = (l.take i).countP fun n => decide ((nth b.tals n).page = pg)
  | 0, _ => by simp [pgL]
  | i + 1, h => by
    rw [pgL, pgL_count b pg l i (by omega), ← take_snoc (show i < l.length by omega), List.countP_append]
    split
    · rename_i e; simp at e; simp [e]
    · rename_i e; simp at e; simp [e]
theorem pgTo_count {b : Book} (h8 : b.tals.length ≤ 8) (pg : Int) {s : Nat} (hs : s < 256) : ∀ i : Nat, i ≤ b.tals.length → pgTo b pg s i = (otTo (bitsL s) i).countP fun n => decide ((nth b.tals n).page = pg)
  | 0, _ => by simp [pgTo, otTo]
  | i + 1, h => by
    rw [pgTo, otTo, inL_bits hs (by omega), pgTo_count h8 pg hs i (by omega)]
    unfold pgAt bit
    rw [show ((i : Nat) : Int).toNat = i by omega]
    cases e : s.testBit i with
    | true => simp
    | false =>
      simp only [Bool.not_false, Bool.and_true, Bool.false_eq_true, if_false]
      rw [List.countP_append]
      split
      · rename_i e; simp at e; simp [e]
      · rename_i e; simp at e; simp [e]
theorem pg_law {b : Book} (h8 : b.tals.length ≤ 8) (pg : Int) {s : Nat} (hs : s < 256) : pgL b pg (othersR b (bitsL s)) (othersR b (bitsL s)).length = pgS b pg s := by
  rw [pgL_count b pg _ _ (Nat.le_refl _), List.take_length, pgS, pgTo_count h8 pg hs _ (Nat.le_refl _)]; rfl
def plL (b : Book) (pg : Int) : Nat → Int × Int
  | 0 => ((b.tals.length : Int), 0)
  | i + 1 => (min (plL b pg i).1 (pgL b pg (othersR b (nth (storS b) (i : Int))) (othersR b (nth (storS b) (i : Int))).length), max (plL b pg i).2 (pgL b pg (othersR b (nth (storS b) (i : Int))) (othersR b (nth (storS b) (i : Int))).length))
theorem pl_law {b : Book} (h8 : b.tals.length ≤ 8) (pg : Int) : ∀ i : Nat, i ≤ (stS b).length → plL b pg i = plTo b pg i
  | 0, _ => rfl
  | i + 1, h => by rw [plL, plTo, storS_nth (by omega), pg_law h8 pg (stS_lt h8 i (by omega)), pl_law h8 pg i (by omega)]
def setTo (c : List Int) : Nat → List Plate
  | 0 => []
  | i + 1 => if 0 < nth c (i : Int) then setTo c i ++ [⟨(i : Int).tdiv 3, (i : Int) % 3, nth c (i : Int)⟩] else setTo c i
def setOf (c : List Int) : List Plate := setTo c c.length
theorem setTo_len (c : List Int) : ∀ i, (setTo c i).length ≤ i
  | 0 => by simp [setTo]
  | i + 1 => by have := setTo_len c i; unfold setTo; split <;> simp <;> omega
def subTo (a b : List Int) : Nat → List Int
  | 0 => a
  | i + 1 => lset (subTo a b i) i (nth (subTo a b i) i - nth b i)
theorem subTo_len (a b : List Int) : ∀ i, (subTo a b i).length = a.length
  | 0 => rfl
  | i + 1 => by rw [subTo, lset_len, subTo_len a b i]
theorem subTo_nth (a b : List Int) : ∀ (i j : Nat), i ≤ a.length → nth (subTo a b i) j = if j < i then nth a j - nth b j else nth a j
  | 0, j, _ => by simp [subTo]
  | i + 1, j, hi => by
    rw [subTo, nth_lset (by rw [subTo_len]; omega), subTo_nth a b i j (by omega), subTo_nth a b i i (by omega)]
    by_cases e : j = i
    · subst e; simp
    · rw [if_neg e]
      by_cases g : j < i
      · rw [if_pos g, if_pos (by omega)]
      · rw [if_neg g, if_neg (by omega)]
theorem eq_of_pwG {α : Type} {R : α → α → Prop} (hi : ∀ x, ¬ R x x) (ht : ∀ x y z, R x y → R y z → R x z) : ∀ {a c : List α}, a.Pairwise R → c.Pairwise R → (∀ x, x ∈ a ↔ x ∈ c) → a = c
  | [], [], _, _, _ => rfl
  | [], y :: c, _, _, h => absurd ((h y).2 (by simp)) (by simp)
  | x :: a, [], _, _, h => absurd ((h x).1 (by simp)) (by simp)
  | x :: a, y :: c, ha, hc, h => by
    rw [List.pairwise_cons] at ha hc
    have e : x = y := by
      rcases List.mem_cons.1 ((h x).1 (by simp)) with e | e
      · exact e
      · rcases List.mem_cons.1 ((h y).2 (by simp)) with e2 | e2
        · exact e2.symm
        · exact absurd (ht _ _ _ (hc.1 x e) (ha.1 y e2)) (hi y)
    subst e
    rw [eq_of_pwG hi ht ha.2 hc.2 fun z => ?_]
    constructor
    · intro hz
      rcases List.mem_cons.1 ((h z).1 (List.mem_cons_of_mem _ hz)) with e | e
      · subst e; exact absurd (ha.1 z hz) (hi z)
      · exact e
    · intro hz
      rcases List.mem_cons.1 ((h z).2 (List.mem_cons_of_mem _ hz)) with e | e
      · subst e; exact absurd (hc.1 z hz) (hi z)
      · exact e
theorem setTo_mem (c : List Int) (p : Plate) : ∀ i : Nat, p ∈ setTo c i ↔ ∃ k : Nat, k < i ∧ 0 < nth c (k : Int) ∧ p = ⟨(k : Int).tdiv 3, (k : Int) % 3, nth c (k : Int)⟩
  | 0 => by simp [setTo]
  | i + 1 => by
    have ih := setTo_mem c p i
    unfold setTo
    split
    · rename_i g
      rw [List.mem_append, ih, List.mem_singleton]
      constructor
      · rintro (⟨k, h1, h2, h3⟩ | h)
        · exact ⟨k, by omega, h2, h3⟩
        · exact ⟨i, by omega, g, h⟩
      · rintro ⟨k, h1, h2, h3⟩
        by_cases e : k = i
        · subst e; exact .inr h3
        · exact .inl ⟨k, by omega, h2, h3⟩
    · rename_i g
      rw [ih]
      constructor
      · rintro ⟨k, h1, h2, h3⟩; exact ⟨k, by omega, h2, h3⟩
      · rintro ⟨k, h1, h2, h3⟩
        refine ⟨k, ?_, h2, h3⟩
        have : k ≠ i := fun e => g (by rw [← e]; exact h2)
        omega
theorem plc_div (k : Nat) : plc ((k : Int).tdiv 3) ((k : Int) % 3) = k := by
  unfold plc
  rw [Int.tdiv_eq_ediv_of_nonneg (by omega)]
  omega
theorem setTo_pw (c : List Int) : ∀ i : Nat, (setTo c i).Pairwise fun p q => pOf p < pOf q
  | 0 => .nil
  | i + 1 => by
    unfold setTo
    split
    · rw [List.pairwise_append]
      refine ⟨setTo_pw c i, List.pairwise_singleton _ _, fun p hp q hq => ?_⟩
      obtain ⟨k, h1, h2, h3⟩ := (setTo_mem c p i).1 hp
      rw [List.mem_singleton] at hq
      subst h3 hq
      show plc _ _ < plc _ _
      rw [plc_div, plc_div]; omega
    · exact setTo_pw c i
theorem lfTo_mem (b : Book) (p : Plate) : ∀ i : Nat, p ∈ lfTo b i ↔ ∃ k : Nat, k < i ∧ 0 < remN b k ∧ p = ⟨(nth b.set (k : Int)).page, (nth b.set (k : Int)).bore, remN b k⟩
  | 0 => by simp [lfTo]
  | i + 1 => by
    have ih := lfTo_mem b p i
    unfold lfTo
    split
    · rename_i g
      rw [List.mem_append, ih, List.mem_singleton]
      constructor
      · rintro (⟨k, h1, h2, h3⟩ | h)
        · exact ⟨k, by omega, h2, h3⟩
        · exact ⟨i, by omega, g, h⟩
      · rintro ⟨k, h1, h2, h3⟩
        by_cases e : k = i
        · subst e; exact .inr h3
        · exact .inl ⟨k, by omega, h2, h3⟩
    · rename_i g
      rw [ih]
      constructor
      · rintro ⟨k, h1, h2, h3⟩; exact ⟨k, by omega, h2, h3⟩
      · rintro ⟨k, h1, h2, h3⟩
        refine ⟨k, ?_, h2, h3⟩
        have : k ≠ i := fun e => g (by rw [← e]; exact h2)
        omega
theorem lfTo_pw {b : Book} (h : isSet b.set = true) : ∀ i : Nat, i ≤ b.set.length → (lfTo b i).Pairwise fun p q => pOf p < pOf q
  | 0, _ => .nil
  | i + 1, hi => by
    unfold lfTo
    split
    · rw [List.pairwise_append]
      refine ⟨lfTo_pw h i (by omega), List.pairwise_singleton _ _, fun p hp q hq => ?_⟩
      obtain ⟨k, h1, h2, h3⟩ := (lfTo_mem b p i).1 hp
      rw [List.mem_singleton] at hq
      subst h3 hq
      exact set_lt h h1 (by omega)
    · exact lfTo_pw h i (by omega)
theorem said_append (b : Book) (l : List Int) (x k : Int) : saidTo b (l ++ [x]) k (l.length + 1) = if pOf (plateT b x) = k then saidTo b l k l.length + 1 else saidTo b l k l.length := by
  have hs : ∀ i : Nat, i ≤ l.length → saidTo b (l ++ [x]) k i = saidTo b l k i := by
    intro i
    induction i with
    | zero => intro _; rfl
    | succ i ih =>
      intro hi
      have e : nth (l ++ [x]) (i : Int) = nth l (i : Int) := by
        rw [nthG (by simp; omega), nthG (show i < l.length by omega), List.getElem_append_left]
      rw [saidTo, saidTo, ih (by omega), e]
  rw [saidTo, hs _ (Nat.le_refl _)]
  have e : nth (l ++ [x]) (l.length : Int) = x := by simp [nth, List.getD_eq_getElem?_getD]
  rw [e]
theorem br_said {b : Book} (hB : BookB b) {s : Nat} (hs : s < 256) {x y : Int} (hx : 0 ≤ x ∧ x ≤ 3) (hy : 0 ≤ y ∧ y ≤ 2) : ∀ i : Nat, i ≤ b.tals.length → (mget (brTo b s i) [x, y]).getD 0 = saidTo b (otTo (bitsL s) i) (plc x y) (otTo (bitsL s) i).length
  | 0, _ => by simp [brTo, otTo, mget, saidTo]
  | i + 1, hi => by
    have h8 := hB.t
    have h1 := hB.a (i : Int) (by omega) (by omega)
    have h3 := hB.h.b (nth b.tals (i : Int)).mach.toNat (by omega)
    rw [show (((nth b.tals (i : Int)).mach.toNat : Nat) : Int) = (nth b.tals (i : Int)).mach by omega] at h3
    have ih := br_said hB hs hx hy i (by omega)
    rw [brTo, otTo, inL_bits hs (by omega)]
    unfold bit
    rw [show ((i : Nat) : Int).toNat = i by omega]
    cases e : s.testBit i with
    | true => simpa using ih
    | false =>
      simp only [Bool.false_eq_true, if_false]
      rw [List.length_append, List.length_singleton, said_append, mget_mset, ← ih]
      have ek : b.key (i : Int) = [x, y] ↔ pOf (plateT b (i : Int)) = plc x y := by
        simp only [Book.key, pOf, plateT, plc, List.cons.injEq, and_true]
        omega
      by_cases g : b.key (i : Int) = [x, y]
      · rw [if_pos g, if_pos (ek.1 g), g]; rfl
      · rw [if_neg g, if_neg (fun g2 => g (ek.2 g2))]
def goneL (b : Book) : List Int := broughtR b (othersR b (nth (storS b) 0))
theorem left_law {b : Book} (hc : b.chk = true) (hn : b.set.length ≤ 1000) : setOf (subTo (countsR b.set) (goneL b) 12) = lfTo b b.set.length := by
  have hB := bookB hc
  have h8 := hB.t
  have h0 := (stS_len h8).1
  have hs0 : nth (storS b) 0 = bitsL (nth (stS b) 0) := storS_nth (i := 0) h0
  have hs2 : nth (stS b) 0 < 256 := stS_lt h8 0 h0
  have hP := setPls hB.p hn
  have hin := others_in b (nth (storS b) 0)
  have hv : ∀ k : Nat, k < 12 → nth (subTo (countsR b.set) (goneL b) 12) (k : Int) = manyTo b.set (k : Int) b.set.length - saidTo b (othersR b (nth (storS b) 0)) (k : Int) (othersR b (nth (storS b) 0)).length := by
    intro k hk
    rw [subTo_nth _ _ 12 k (by rw [countsR_len]; omega), if_pos hk, countsR_nth hP (by omega) (by omega)]
    unfold goneL broughtR
    rw [brR_nth hB hin _ (Nat.le_refl _) k hk]
  have hr : ∀ k : Nat, k < b.set.length → remN b k = nth (subTo (countsR b.set) (goneL b) 12) (plc (nth b.set (k : Int)).page (nth b.set (k : Int)).bore) ∧ 0 ≤ plc (nth b.set (k : Int)).page (nth b.set (k : Int)).bore ∧ plc (nth b.set (k : Int)).page (nth b.set (k : Int)).bore < 12 := by
    intro k hk
    have h1 := isSetB hB.p hk
    have h2 := plc_in (x := (nth b.set (k : Int)).page) (y := (nth b.set (k : Int)).bore) (by omega)
    refine ⟨?_, h2⟩
    have h3 := hv (plc (nth b.set (k : Int)).page (nth b.set (k : Int)).bore).toNat (by omega)
    rw [show (((plc (nth b.set (k : Int)).page (nth b.set (k : Int)).bore).toNat : Nat) : Int) = plc (nth b.set (k : Int)).page (nth b.set (k : Int)).bore by omega] at h3
    rw [h3, manyTo_one (m := k) rfl hk (fun j hj hne e => by
      rcases Nat.lt_or_gt_of_ne hne with g | g
      · have := set_lt hB.p g hk; omega
      · have := set_lt hB.p g hj; omega)]
    have h6 := br_said hB hs2 (x := (nth b.set (k : Int)).page) (y := (nth b.set (k : Int)).bore) (by omega) (by omega) b.tals.length (Nat.le_refl _)
    unfold remN brS
    rw [h6, hs0]
    rfl
  have hl : (subTo (countsR b.set) (goneL b) 12).length = 12 := by rw [subTo_len, countsR_len]
  refine eq_of_pwG (R := fun p q => pOf p < pOf q) (fun p => by omega) (fun p q r h1 h2 => by omega) (setTo_pw _ _) (lfTo_pw hB.p _ (Nat.le_refl _)) fun p => ?_
  unfold setOf
  rw [setTo_mem, lfTo_mem, hl]
  constructor
  · rintro ⟨k, h1, h2, h3⟩
    have hm : ∃ i : Nat, i < b.set.length ∧ plc (nth b.set (i : Int)).page (nth b.set (i : Int)).bore = k := by
      apply Classical.byContradiction
      intro g
      have e := manyTo_none (l := b.set) (k := (k : Int)) (i := b.set.length) fun j hj e => g ⟨j, hj, e⟩
      rw [hv k h1, e] at h2
      have := (saidTo_bnd b (othersR b (nth (storS b) 0)) (k : Int) (othersR b (nth (storS b) 0)).length).1
      omega
    obtain ⟨i, hi, e⟩ := hm
    have h4 := hr i hi
    rw [e] at h4
    have h5 := isSetB hB.p hi
    refine ⟨i, hi, by rw [h4.1]; exact h2, ?_⟩
    rw [h3, h4.1]
    have e2 := plc_div k
    rw [Int.tdiv_eq_ediv_of_nonneg (by omega)] at e2 ⊢
    unfold plc at e e2
    congr 1 <;> omega
  · rintro ⟨i, hi, h2, h3⟩
    have h4 := hr i hi
    have h5 := isSetB hB.p hi
    refine ⟨(plc (nth b.set (i : Int)).page (nth b.set (i : Int)).bore).toNat, by omega, ?_, ?_⟩
    · rw [show (((plc (nth b.set (i : Int)).page (nth b.set (i : Int)).bore).toNat : Nat) : Int) = plc (nth b.set (i : Int)).page (nth b.set (i : Int)).bore by omega, ← h4.1]; exact h2
    · rw [show (((plc (nth b.set (i : Int)).page (nth b.set (i : Int)).bore).toNat : Nat) : Int) = plc (nth b.set (i : Int)).page (nth b.set (i : Int)).bore by omega, h3, ← h4.1, Int.tdiv_eq_ediv_of_nonneg (by omega)]
      unfold plc
      congr 1 <;> omega
end Go.Flong
namespace Go.Flong
open Go Go.Eng
def endC : Int → List Int → Int
  | lo, [] => lo
  | _, y :: t => endC (y + 1) t
theorem chain_end {n : Int} : ∀ {f : List Int} {lo : Int}, chain n lo f → lo ≤ n → lo + f.length ≤ endC lo f ∧ endC lo f ≤ n
  | [], lo, _, h => by simp [endC, h]
  | y :: t, lo, ⟨h1, h2, h3⟩, h => by
    have := chain_end h3 (by omega)
    simp only [endC, List.length_cons]
    omega
theorem chain_app {n x : Int} : ∀ {f : List Int} {lo : Int}, chain n lo f → endC lo f ≤ x → x < n → chain n lo (f ++ [x])
  | [], lo, _, h1, h2 => ⟨h1, h2, trivial⟩
  | y :: t, lo, ⟨a, b, c⟩, h1, h2 => ⟨a, b, chain_app c h1 h2⟩
theorem endC_eq : ∀ (f : List Int) (lo : Int), endC lo f = if 0 < (f.length : Int) then nth f ((f.length : Int) - 1) + 1 else lo
  | [], lo => by simp [endC]
  | [y], lo => by simp [endC, nth]
  | y :: z :: t, lo => by
    rw [endC, endC_eq (z :: t), if_pos (show 0 < ((z :: t).length : Int) by simp only [List.length_cons]; omega), if_pos (show 0 < ((y :: z :: t).length : Int) by simp only [List.length_cons]; omega)]
    rw [show ((y :: z :: t).length : Int) - 1 = (((t.length) + 1 : Nat) : Int) by simp, nth_consS, show ((z :: t).length : Int) - 1 = ((t.length : Nat) : Int) by simp]
theorem fromR_end (f : List Int) : fromR f = endC 0 f := (endC_eq f 0).symm
theorem chain_bnd {n : Int} (hn : 0 ≤ n) {f : List Int} (h : chain n 0 f) : 0 ≤ fromR f ∧ fromR f ≤ n ∧ (f.length : Int) ≤ n := by
  have := chain_end h hn
  rw [fromR_end]; omega
theorem chain_snoc {n : Int} {f : List Int} (h : chain n 0 f) {x : Int} (h1 : fromR f ≤ x) (h2 : x < n) : chain n 0 ([] ++ f ++ [x]) := by
  rw [fromR_end] at h1
  exact chain_app h h1 h2
theorem listsR_len {n : Int} (hn : n ≤ 8) : ∀ (m : Nat) {f : List Int}, 0 ≤ fromR f → (listsR n m f).length ≤ 9 ^ m
  | 0, f, _ => by simp [listsR]
  | m + 1, f, h => by
    rw [listsR]
    have h1 := flatTo_len (g := fun j => listsR n m (f ++ [fromR f + (j : Int)])) (m := 9 ^ m) (n := (n - fromR f).toNat) (fun j _ => listsR_len hn m (by
      have e : fromR (f ++ [fromR f + (j : Int)]) = fromR f + (j : Int) + 1 := by
        unfold fromR
        rw [if_pos (by simp), show ((f ++ [(if 0 < (f.length : Int) then nth f ((f.length : Int) - 1) + 1 else 0) + (j : Int)]).length : Int) - 1 = f.length by simp, nth_end]
      rw [e]; omega))
    have h2 : (n - fromR f).toNat * 9 ^ m ≤ 8 * 9 ^ m := Nat.mul_le_mul_right _ (by omega)
    rw [Nat.pow_succ]; omega
theorem pow9 {k : Nat} (h : k ≤ 8) : 9 ^ k ≤ 43046721 := by
  have := Nat.pow_le_pow_right (show 0 < 9 by decide) h
  exact this
theorem flat_len {n : Int} (hn : n ≤ 8) {k : Nat} (hk : k ≤ 8) {f : List Int} (h : 0 ≤ fromR f) {j : Nat} (hj : j ≤ 8) : (flatTo (fun (j : Nat) => listsR n k (f ++ [fromR f + (j : Int)])) j).length ≤ 400000000 ∧ (listsR n k ([] ++ f ++ [fromR f + (j : Int)])).length ≤ 400000000 := by
  have hl : ∀ i : Nat, (listsR n k (f ++ [fromR f + (i : Int)])).length ≤ 9 ^ k := fun i => listsR_len hn k (by
    have e : fromR (f ++ [fromR f + (i : Int)]) = fromR f + (i : Int) + 1 := by
      rw [show fromR (f ++ [fromR f + (i : Int)]) = nth (f ++ [fromR f + (i : Int)]) (((f ++ [fromR f + (i : Int)]).length : Int) - 1) + 1 from if_pos (by simp), show ((f ++ [fromR f + (i : Int)]).length : Int) - 1 = f.length by simp, nth_end]
    rw [e]; omega)
  have h1 := flatTo_len (g := fun j => listsR n k (f ++ [fromR f + (j : Int)])) (m := 9 ^ k) (n := j) (fun i _ => hl i)
  have h2 := pow9 hk
  have h3 : j * 9 ^ k ≤ 8 * 9 ^ k := Nat.mul_le_mul_right _ hj
  have h4 := hl j
  exact ⟨by omega, by show (listsR n k (f ++ [fromR f + (j : Int)])).length ≤ _; omega⟩
theorem listsB_len {b : Book} (h8 : b.tals.length ≤ 8) {k : Nat} (hk : k ≤ b.tals.length) : (listsB b k).length ≤ 43046721 := Nat.le_trans (listsR_len (by omega) k (by simp [fromR])) (pow9 (by omega))
theorem listsB_at {b : Book} (h8 : b.tals.length ≤ 8) {k : Nat} (hk : k ≤ b.tals.length) {i : Nat} (hi : i < (listsB b k).length) : (nth (listsB b k) (i : Int)).length ≤ 8 := by
  have h := (codes_ok h8 hk).m
  have hm : nth (listsB b k) (i : Int) ∈ listsB b k := by rw [nthG hi]; exact List.getElem_mem hi
  have hm : nth (listsB b k) (i : Int) ∈ listsR (b.tals.length : Int) k [] := hm
  rw [← h] at hm
  obtain ⟨s, _, e⟩ := List.mem_map.1 hm
  rw [← e]; exact bitsL_len s
theorem storS_row {b : Book} {i : Nat} (hi : i < (storS b).length) : (nth (storS b) (i : Int)).length ≤ 8 := by
  rw [storS_len] at hi
  rw [storS_nth hi]; exact bitsL_len _
theorem storS_in {b : Book} (h8 : b.tals.length ≤ 8) {i : Nat} (hi : i < (storS b).length) {j : Nat} (hj : j < (nth (storS b) (i : Int)).length) : 0 ≤ nth (nth (storS b) (i : Int)) (j : Int) ∧ nth (nth (storS b) (i : Int)) (j : Int) < b.tals.length := by
  rw [storS_len] at hi
  rw [storS_nth hi] at hj ⊢
  exact bits_nth h8 (stS_dom h8 i hi) hj
end Go.Flong
namespace Go.Flong
open Go Go.Eng
def hugeHo (h : Hall) : Bool := (decide (40 < (h.machs.length : Int)) || decide (40 < (h.buns.length : Int))) || decide (40 < (h.trains.length : Int))
def hugeH (h : Hall) : Bool := (hugeHo h || decide (40 < (h.bores.length : Int))) || longP h.eds
def farB (b : Book) : Bool := ((hugeH b.hall || decide (40 < (b.set.length : Int))) || decide (40 < (b.walk.length : Int))) || decide (40 < (b.tals.length : Int))
theorem hugeH_small {h : Hall} (hf : hugeH h = false) : h.Small := by
  simp only [hugeH, hugeHo, Bool.or_eq_false_iff, decide_eq_false_iff_not] at hf
  have := longP_len hf.2
  exact ⟨by omega, by omega, by omega, by omega, by omega, fun i hi => this.2 i hi⟩
theorem farB_small {b : Book} (hf : farB b = false) : b.Small := by
  simp only [farB, Bool.or_eq_false_iff, decide_eq_false_iff_not] at hf
  exact ⟨hugeH_small hf.1.1.1, by omega, by omega, by omega⟩
def Book.ready (b : Book) : Bool := !farB b && b.chk
def samePlAt (a b : List Plate) (i : Nat) : Bool := decide ([(nth a (i : Int)).page, (nth a (i : Int)).bore, (nth a (i : Int)).many] = [(nth b (i : Int)).page, (nth b (i : Int)).bore, (nth b (i : Int)).many])
def samePl (a b : List Plate) : Bool := decide ((a.length : Int) = b.length) && allI (samePlAt a b) a.length
theorem samePl_refl (a : List Plate) : samePl a a = true := by
  unfold samePl
  rw [decide_eq_true rfl, Bool.true_and, allI_iff]
  intro j _
  exact decide_eq_true rfl
theorem lfV_len {b : Book} (h : b.Small) : (lfV b).length ≤ 1000000 := by
  have h1 := h.s
  unfold lfV; split
  · have := lfTo_len b b.set.length; omega
  · simp
def exK : Hall := ⟨[⟨0, 2, 1⟩, ⟨0, 2, 1⟩], [⟨0, 2, 0⟩, ⟨1, 3, 1⟩], [5, 12], 2, [0, 1], [[0, 1], [0, 2]]⟩
def exL : Hall := { exK with bores := [0, 0] }
def exB : Book := ⟨exK, [⟨0, 0, 1⟩, ⟨0, 1, 1⟩, ⟨1, 0, 1⟩, ⟨2, 1, 1⟩], [3, 5], 2, [⟨0, 0, 0, 4⟩, ⟨0, 1, 0, 8⟩, ⟨1, 0, 1, 6⟩, ⟨1, 2, 1, 16⟩, ⟨0, 0, 0, 20⟩]⟩
def exC : Book := { exB with tals := [⟨0, 0, 0, 4⟩, ⟨0, 1, 0, 8⟩, ⟨1, 0, 1, 6⟩, ⟨1, 2, 1, 16⟩] }
theorem exK_small : exK.Small := ⟨by decide, by decide, by decide, by decide, by decide, fun i hi => by
  have : i = 0 ∨ i = 1 := by simp [exK] at hi; omega
  rcases this with rfl | rfl <;> decide⟩
theorem exB_small : exB.Small := ⟨exK_small, by decide, by decide, by decide⟩
theorem exC_small : exC.Small := ⟨exK_small, by decide, by decide, by decide⟩
theorem xt_c : clashV exB 0 4 = 2 ∧ clashE exB 0 4 = 0 := by decide +kernel
theorem xt_s : nSt exC = 2 ∧ askE exC true = 0 := by decide +kernel
theorem xt_l : lieV exC 0 = 3 ∧ lieE exC 0 = 0 := by decide +kernel
theorem xt_f : (lfV exC).map (fun p => (p.page, p.bore, p.many)) = [(0, 0, 1)] := by decide +kernel
theorem xt_p : plV exC 0 = (1, 2) ∧ plE exC 0 = 0 := by decide +kernel
theorem xt_r : rdV exB 1 1 16 = 1 ∧ rdE exB 1 1 16 = 0 := by decide +kernel
theorem xt_f1 : lfV exC = [⟨0, 0, 1⟩] := by
  have h := xt_f
  cases hl : lfV exC with
  | nil => rw [hl] at h; simp at h
  | cons p t =>
    rw [hl] at h
    simp only [List.map_cons, List.cons.injEq, Prod.mk.injEq, List.map_eq_nil_iff] at h
    obtain ⟨⟨h1, h2, h3⟩, h4⟩ := h
    subst h4
    obtain ⟨a, c, d⟩ := p
    simp only at h1 h2 h3
    rw [h1, h2, h3]
end Go.Flong
namespace Go.Proofs.YtapgiededfphfaaGreatDoor
open Go Go.Eng Go.Flong Go.ChangeShapes Go.WideShapes
theorem own : ownKnob Tryz.prog.godebug = none := by kernel_rfl
theorem laidOut : laidOutB Tryz.prog = true := by kernel_rfl
theorem Y3 : Flat Tryz.prog 3 [.i] := Flat.int Tryz.underlying3 (by kernel_rfl)
theorem Y156 : Flat Tryz.prog 156 [.i, .i, .i] := Flat.struct (ls := [Leaf.i] ++ ([Leaf.i] ++ ([Leaf.i] ++ []))) Tryz.underlying156 (.cons rfl Y3 (.cons rfl Y3 (.cons rfl Y3 .nil))) (by kernel_rfl)
theorem Y95 : Flat Tryz.prog 95 [.i, .i, .i] := Flat.struct (ls := [Leaf.i] ++ ([Leaf.i] ++ ([Leaf.i] ++ []))) Tryz.underlying95 (.cons rfl Y3 (.cons rfl Y3 (.cons rfl Y3 .nil))) (by kernel_rfl)
theorem Y77 : Flat Tryz.prog 77 [.i, .i, .i] := Flat.struct (ls := [Leaf.i] ++ ([Leaf.i] ++ ([Leaf.i] ++ []))) Tryz.underlying77 (.cons rfl Y3 (.cons rfl Y3 (.cons rfl Y3 .nil))) (by kernel_rfl)
theorem Y58 : Flat Tryz.prog 58 [.i, .i, .i, .i] := Flat.struct (ls := [Leaf.i] ++ ([Leaf.i] ++ ([Leaf.i] ++ ([Leaf.i] ++ [])))) Tryz.underlying58 (.cons rfl Y3 (.cons rfl Y3 (.cons rfl Y3 (.cons rfl Y3 .nil)))) (by kernel_rfl)
theorem X156 : ReadsE Tryz.prog 156 ETm := ⟨by rw [Y156.cells]; rfl, by decide, fun enc w fuel cs x hx => by
  have h := Y156.ok enc w fuel cs x hx
  match cs, h with
  | [_, _, _], ⟨⟨a, rfl⟩, ⟨b, rfl⟩, ⟨c, rfl⟩, _⟩ => exact ⟨⟨a, b, c⟩, rfl, rfl, rfl, trivial⟩⟩
theorem X95 : ReadsE Tryz.prog 95 EBd := ⟨by rw [Y95.cells]; rfl, by decide, fun enc w fuel cs x hx => by
  have h := Y95.ok enc w fuel cs x hx
  match cs, h with
  | [_, _, _], ⟨⟨a, rfl⟩, ⟨b, rfl⟩, ⟨c, rfl⟩, _⟩ => exact ⟨⟨a, b, c⟩, rfl, rfl, rfl, trivial⟩⟩
theorem X77 : ReadsE Tryz.prog 77 EPl := ⟨by rw [Y77.cells]; rfl, by decide, fun enc w fuel cs x hx => by
  have h := Y77.ok enc w fuel cs x hx
  match cs, h with
  | [_, _, _], ⟨⟨a, rfl⟩, ⟨b, rfl⟩, ⟨c, rfl⟩, _⟩ => exact ⟨⟨a, b, c⟩, rfl, rfl, rfl, trivial⟩⟩
theorem X58 : ReadsE Tryz.prog 58 ETa := ⟨by rw [Y58.cells]; rfl, by decide, fun enc w fuel cs x hx => by
  have h := Y58.ok enc w fuel cs x hx
  match cs, h with
  | [_, _, _, _], ⟨⟨a, rfl⟩, ⟨b, rfl⟩, ⟨c, rfl⟩, ⟨d, rfl⟩, _⟩ => exact ⟨⟨a, b, c, d⟩, rfl, rfl, rfl, rfl, trivial⟩⟩
theorem X3 : ReadsE Tryz.prog 3 EP.int := ReadsE.int Tryz.underlying3 (by kernel_rfl)
theorem Y22 : Flat Tryz.prog 22 [.s ETm] := Flat.slice Tryz.underlying22 (by kernel_rfl) X156
theorem Y23 : Flat Tryz.prog 23 [.s EBd] := Flat.slice Tryz.underlying23 (by kernel_rfl) X95
theorem Y24 : Flat Tryz.prog 24 [.s EP.int] := Flat.slice Tryz.underlying24 (by kernel_rfl) X3
theorem X24 : ReadsE Tryz.prog 24 (EP.sl EP.int) := ReadsE.slice Tryz.underlying24 (by kernel_rfl) X3
theorem Y27 : Flat Tryz.prog 27 [.s (EP.sl EP.int)] := Flat.slice Tryz.underlying27 (by kernel_rfl) X24
theorem Y30 : Flat Tryz.prog 30 [.s EPl] := Flat.slice Tryz.underlying30 (by kernel_rfl) X77
theorem Y31 : Flat Tryz.prog 31 [.s ETa] := Flat.slice Tryz.underlying31 (by kernel_rfl) X58
theorem Y26 : Flat Tryz.prog 26 [.s ETm, .s EBd, .s EP.int, .i] := Flat.struct (ls := [Leaf.s ETm] ++ ([Leaf.s EBd] ++ ([Leaf.s EP.int] ++ ([Leaf.i] ++ [])))) Tryz.underlying26 (.cons rfl Y22 (.cons rfl Y23 (.cons rfl Y24 (.cons rfl Y3 .nil)))) (by kernel_rfl)
theorem Y29 : Flat Tryz.prog 29 [.s ETm, .s EBd, .s EP.int, .i, .s EP.int, .s (EP.sl EP.int)] := Flat.struct (ls := [Leaf.s ETm, .s EBd, .s EP.int, .i] ++ ([Leaf.s EP.int] ++ ([Leaf.s (EP.sl EP.int)] ++ []))) Tryz.underlying29 (.cons rfl Y26 (.cons rfl Y24 (.cons rfl Y27 .nil))) (by kernel_rfl)
theorem Y33 : Flat Tryz.prog 33 [.s ETm, .s EBd, .s EP.int, .i, .s EP.int, .s (EP.sl EP.int), .s EPl, .s EP.int, .i, .s ETa] := Flat.struct (ls := [Leaf.s ETm, .s EBd, .s EP.int, .i, .s EP.int, .s (EP.sl EP.int)] ++ ([Leaf.s EPl] ++ ([Leaf.s EP.int] ++ ([Leaf.i] ++ ([Leaf.s ETa] ++ []))))) Tryz.underlying33 (.cons rfl Y29 (.cons rfl Y30 (.cons rfl Y24 (.cons rfl Y3 (.cons rfl Y31 .nil))))) (by kernel_rfl)
structure HallOK (I : IH) (h : Hall) (a b c d e : Value) : Prop where
  m : (PL ETm h.machs).h I a
  b : (PL EBd h.buns).h I b
  t : (PL EP.int h.trains).h I c
  o : (PL EP.int h.bores).h I d
  e : (PL (EP.sl EP.int) h.eds).h I e
structure BookOK (I : IH) (k : Book) (a b c d e f g i : Value) : Prop where
  h : HallOK I k.hall a b c d e
  s : (PL EPl k.set).h I f
  w : (PL EP.int k.walk).h I g
  t : (PL ETa k.tals).h I i
theorem book_leaf {I : IH} {v : Value} {cs : Array Value} (hv : v = .agg cs) (h : LeafOK I (Value.agg cs).cells.toList [.s ETm, .s EBd, .s EP.int, .i, .s EP.int, .s (EP.sl EP.int), .s EPl, .s EP.int, .i, .s ETa]) : ∃ (k : Book) (a b c d e f g i : Value), v = .agg #[a, b, c, .int .i64 k.hall.change, d, e, f, g, .int .i64 k.boys, i] ∧ BookOK I k a b c d e f g i := by
  obtain ⟨l⟩ := cs
  have g0 : LeafOK I l _ := h
  obtain ⟨a, xa, l1, e1, ha, g1⟩ := g0.uns
  obtain ⟨b, xb, l2, e2, hb, g2⟩ := g1.uns
  obtain ⟨c, xc, l3, e3, hc, g3⟩ := g2.uns
  obtain ⟨n, l4, e4, g4⟩ := g3.uni
  obtain ⟨d, xd, l5, e5, hd, g5⟩ := g4.uns
  obtain ⟨e, xe, l6, e6, he, g6⟩ := g5.uns
  obtain ⟨f, xf, l7, e7, hf, g7⟩ := g6.uns
  obtain ⟨g, xg, l8, e8, hg, g8⟩ := g7.uns
  obtain ⟨m, l9, e9, g9⟩ := g8.uni
  obtain ⟨i, xi, l10, e10, hi, g10⟩ := g9.uns
  have e11 := g10.un0
  subst e11 e10 e9 e8 e7 e6 e5 e4 e3 e2 e1
  exact ⟨⟨⟨xa, xb, xc, n, xd, xe⟩, xf, xg, m, xi⟩, a, b, c, d, e, f, g, i, hv, ⟨ha, hb, hc, hd, he⟩, hf, hg, hi⟩
section
variable {H : Type} {enc : TypeId × Value → H} {W : World} {base : Nat} {v : Value} {d : DataW H} {p : List MemPlace}
set_option maxRecDepth 100000 in
theorem argBook (h : Value.okWide Tryz.prog W .any base 33 v) (ht : DataW.Trod enc Tryz.prog W 0 (fun _ => true) true 33 v d p) : ∃ (k : Book) (a b c d e f g i : Value), v = .agg #[a, b, c, .int .i64 k.hall.change, d, e, f, g, .int .i64 k.boys, i] ∧ BookOK (World.all W) k a b c d e f g i := by
  obtain ⟨cs, hv, _⟩ := okWide_struct Tryz.underlying33 h
  obtain ⟨fuel, hf⟩ := ht
  have h1 := Y33.ok enc W fuel _ _ hf
  rw [hv] at h1
  exact book_leaf hv h1
end
def nuL (l : List Value) (n : Nat) : Value := l.getD n undef
theorem gT64 : Tryz.prog.globalNamed "math/bits.deBruijn64tab" = some 1 := by kernel_rfl
theorem tT64 : (Tryz.prog.globals[1]?).map (·.type) = some 178 := by kernel_rfl
abbrev laid2 : List (String × DataW Unit) := [("math/bits.deBruijn32tab", Rows.laid_math_bits_deBruijn32tab), ("math/bits.deBruijn64tab", Rows.laid_math_bits_deBruijn64tab)]
theorem door_met (os : Os) (args : Array Value) : laidMetH Tryz.prog laid2 ((World.doorLaid Tryz.prog 400 os).forCall (fun _ _ => 0) ⟨#[], args, []⟩).memory :=
  laidMetH_of_parts3 (fuel := 8) (laidMet_of_run' 8 (by kernel_rfl) (by kernel_rfl)) (by kernel_rfl) (by kernel_rfl)
theorem tab_laid {W : World} (h : laidMetH Tryz.prog laid2 W) (u : Value) : (Pred.tab 1 tz64).h (World.all W) u := by
  rw [MakeChecks.laidMetH_plain _ _ _ (by kernel_rfl)] at h
  obtain ⟨ps, ⟨g0, t0, cs0, f0, p0, q0, hg0, ht0, hv0, hd0, ⟨g1, t1, cs1, f1, p1, q1, hg1, ht1, hv1, hd1, _, _⟩, _⟩, _, _⟩ := h
  obtain rfl := Option.some.inj (gT64.symm.trans hg1)
  obtain rfl := Option.some.inj (tT64.symm.trans ht1)
  exact tab_of gT64 Tryz.underlying178 Tryz.underlying5 (by kernel_rfl) hv1 hd1 (by rfl) (by rfl) u
end Go.Proofs.YtapgiededfphfaaGreatDoor
namespace Go.Flong
open Go Go.Eng Go.Proofs
theorem e26 : Enters' Tryz.prog 26 := Tryz.call26
theorem L24 : IsSl Tryz.prog 24 3 1 := ⟨Tryz.underlying24, Tryz.sizeOf3⟩
theorem S3 : TyS Tryz.prog 3 := ⟨Tryz.isAgg3, Tryz.sizeOf3⟩
theorem e79 : Enters' Tryz.prog 79 := Tryz.call79
theorem e88 : Enters' Tryz.prog 88 := Tryz.call88
theorem F26_0 : Fld Tryz.prog 26 0 0 := .mk Tryz.underlying26 rfl rfl rfl Tryz.sizeOf22 rfl
theorem S22 : TyS Tryz.prog 22 := ⟨Tryz.isAgg22, Tryz.sizeOf22⟩
theorem L22 : IsSl Tryz.prog 22 156 3 := ⟨Tryz.underlying22, Tryz.sizeOf156⟩
theorem e125 : Enters' Tryz.prog 125 := Tryz.call125
theorem F29_0 : Fld Tryz.prog 29 0 0 := .mk Tryz.underlying29 rfl rfl rfl Tryz.sizeOf26 rfl
theorem e140 : Enters' Tryz.prog 140 := Tryz.call140
theorem F26_2 : Fld Tryz.prog 26 2 2 := .mk Tryz.underlying26 rfl rfl rfl Tryz.sizeOf24 rfl
theorem S24 : TyS Tryz.prog 24 := ⟨Tryz.isAgg24, Tryz.sizeOf24⟩
theorem e164 : Enters' Tryz.prog 164 := Tryz.call164
theorem F33_4 : Fld Tryz.prog 33 4 9 := .mk Tryz.underlying33 rfl rfl rfl Tryz.sizeOf31 rfl
theorem S31 : TyS Tryz.prog 31 := ⟨Tryz.isAgg31, Tryz.sizeOf31⟩
theorem L31 : IsSl Tryz.prog 31 58 4 := ⟨Tryz.underlying31, Tryz.sizeOf58⟩
theorem F33_0 : Fld Tryz.prog 33 0 0 := .mk Tryz.underlying33 rfl rfl rfl Tryz.sizeOf29 rfl
theorem G26 : TyG Tryz.prog 26 4 := ⟨Tryz.isAgg26, Tryz.sizeOf26⟩
theorem e120 : Enters' Tryz.prog 120 := Tryz.call120
theorem F29_1 : Fld Tryz.prog 29 1 4 := .mk Tryz.underlying29 rfl rfl rfl Tryz.sizeOf24 rfl
theorem F33_3 : Fld Tryz.prog 33 3 8 := .mk Tryz.underlying33 rfl rfl rfl Tryz.sizeOf3 rfl
theorem F26_1 : Fld Tryz.prog 26 1 1 := .mk Tryz.underlying26 rfl rfl rfl Tryz.sizeOf23 rfl
theorem S23 : TyS Tryz.prog 23 := ⟨Tryz.isAgg23, Tryz.sizeOf23⟩
theorem L23 : IsSl Tryz.prog 23 95 3 := ⟨Tryz.underlying23, Tryz.sizeOf95⟩
theorem F26_3 : Fld Tryz.prog 26 3 3 := .mk Tryz.underlying26 rfl rfl rfl Tryz.sizeOf3 rfl
theorem G156 : TyG Tryz.prog 156 3 := ⟨Tryz.isAgg156, Tryz.sizeOf156⟩
theorem Z156 : Zero Tryz.prog 156 [ai (0), ai (0), ai (0)] := .mk Tryz.zeroValue156 rfl rfl
theorem F156_0 : Fld Tryz.prog 156 0 0 := .mk Tryz.underlying156 rfl rfl rfl Tryz.sizeOf3 rfl
theorem F156_1 : Fld Tryz.prog 156 1 1 := .mk Tryz.underlying156 rfl rfl rfl Tryz.sizeOf3 rfl
theorem F156_2 : Fld Tryz.prog 156 2 2 := .mk Tryz.underlying156 rfl rfl rfl Tryz.sizeOf3 rfl
theorem G95 : TyG Tryz.prog 95 3 := ⟨Tryz.isAgg95, Tryz.sizeOf95⟩
theorem Z95 : Zero Tryz.prog 95 [ai (0), ai (0), ai (0)] := .mk Tryz.zeroValue95 rfl rfl
theorem F95_0 : Fld Tryz.prog 95 0 0 := .mk Tryz.underlying95 rfl rfl rfl Tryz.sizeOf3 rfl
theorem e146 : Enters' Tryz.prog 146 := Tryz.call146
theorem F95_1 : Fld Tryz.prog 95 1 1 := .mk Tryz.underlying95 rfl rfl rfl Tryz.sizeOf3 rfl
theorem F95_2 : Fld Tryz.prog 95 2 2 := .mk Tryz.underlying95 rfl rfl rfl Tryz.sizeOf3 rfl
theorem L30 : IsSl Tryz.prog 30 77 3 := ⟨Tryz.underlying30, Tryz.sizeOf77⟩
theorem G77 : TyG Tryz.prog 77 3 := ⟨Tryz.isAgg77, Tryz.sizeOf77⟩
theorem Z77 : Zero Tryz.prog 77 [ai (0), ai (0), ai (0)] := .mk Tryz.zeroValue77 rfl rfl
theorem F77_0 : Fld Tryz.prog 77 0 0 := .mk Tryz.underlying77 rfl rfl rfl Tryz.sizeOf3 rfl
theorem e100 : Enters' Tryz.prog 100 := Tryz.call100
theorem F77_1 : Fld Tryz.prog 77 1 1 := .mk Tryz.underlying77 rfl rfl rfl Tryz.sizeOf3 rfl
theorem F77_2 : Fld Tryz.prog 77 2 2 := .mk Tryz.underlying77 rfl rfl rfl Tryz.sizeOf3 rfl
theorem e101 : Enters' Tryz.prog 101 := Tryz.call101
theorem e124 : Enters' Tryz.prog 124 := Tryz.call124
theorem F29_2 : Fld Tryz.prog 29 2 5 := .mk Tryz.underlying29 rfl rfl rfl Tryz.sizeOf27 rfl
theorem S27 : TyS Tryz.prog 27 := ⟨Tryz.isAgg27, Tryz.sizeOf27⟩
theorem L27 : IsSl Tryz.prog 27 24 1 := ⟨Tryz.underlying27, Tryz.sizeOf24⟩
theorem e119 : Enters' Tryz.prog 119 := Tryz.call119
theorem G29 : TyG Tryz.prog 29 6 := ⟨Tryz.isAgg29, Tryz.sizeOf29⟩
theorem e68 : Enters' Tryz.prog 68 := Tryz.call68
theorem F33_1 : Fld Tryz.prog 33 1 6 := .mk Tryz.underlying33 rfl rfl rfl Tryz.sizeOf30 rfl
theorem S30 : TyS Tryz.prog 30 := ⟨Tryz.isAgg30, Tryz.sizeOf30⟩
theorem e32 : Enters' Tryz.prog 32 := Tryz.call32
theorem F33_2 : Fld Tryz.prog 33 2 7 := .mk Tryz.underlying33 rfl rfl rfl Tryz.sizeOf24 rfl
theorem G58 : TyG Tryz.prog 58 4 := ⟨Tryz.isAgg58, Tryz.sizeOf58⟩
theorem Z58 : Zero Tryz.prog 58 [ai (0), ai (0), ai (0), ai (0)] := .mk Tryz.zeroValue58 rfl rfl
theorem G33 : TyG Tryz.prog 33 10 := ⟨Tryz.isAgg33, Tryz.sizeOf33⟩
theorem F58_0 : Fld Tryz.prog 58 0 0 := .mk Tryz.underlying58 rfl rfl rfl Tryz.sizeOf3 rfl
theorem e109 : Enters' Tryz.prog 109 := Tryz.call109
theorem F58_1 : Fld Tryz.prog 58 1 1 := .mk Tryz.underlying58 rfl rfl rfl Tryz.sizeOf3 rfl
theorem e110 : Enters' Tryz.prog 110 := Tryz.call110
theorem F58_2 : Fld Tryz.prog 58 2 2 := .mk Tryz.underlying58 rfl rfl rfl Tryz.sizeOf3 rfl
theorem e58 : Enters' Tryz.prog 58 := Tryz.call58
theorem F58_3 : Fld Tryz.prog 58 3 3 := .mk Tryz.underlying58 rfl rfl rfl Tryz.sizeOf3 rfl
theorem e50 : Enters' Tryz.prog 50 := Tryz.call50
theorem w26 {n lo hi : Int} : ∀ x ∈ ([.i (n), .i (lo), .i (hi)] : List SV), x.res (keys (α := Pred) []) := by simp [SV.res, El.res, At.res, keys]
theorem r26 {n lo hi : Int} : SV.res (keys (α := Pred) []) (.b (within n lo hi)) := by simp [SV.res, El.res, At.res, keys]
set_option maxHeartbeats 4000000 in
theorem c26 (n lo hi : Int)  : Sig Tryz.prog 26 [.i (n), .i (lo), .i (hi)] [] (.b (within n lo hi)) [] := by
  refine Sig.intro Tryz.func26 rfl 0 [(0, .i (n)), (1, .i (lo)), (2, .i (hi))] rfl w26 rfl rfl fun I w => ?_
  refine WP.seq (WP.region ?_)
  refine WPl.v rfl (o_assign rfl) ?_
  refine WPl.nil (EX.then (WP.seq (WP.region ?_)))
  refine WPl.v rfl (o_move rfl) ?_
  refine WPl.v rfl (o_move rfl) ?_
  refine WPl.v rfl (o_leq rfl rfl) ?_
  refine WPl.v rfl (o_move rfl) ?_
  refine WPl.bit 0 1 (decide (lo ≤ n)) rfl rfl ?_
  refine WPl.gv 0 rfl rfl (.plain rfl Iff.rfl rfl) (fun hb => o_move rfl) ?_
  refine WPl.gv 0 rfl rfl (.plain rfl Iff.rfl rfl) (fun hb => o_move rfl) ?_
  refine WPl.gv 0 rfl rfl (.plain rfl Iff.rfl rfl) (fun hb => o_leq rfl rfl) ?_
  refine WPl.v rfl (o_and rfl rfl rfl id) ?_
  refine WPl.v rfl (o_assign rfl) ?_
  refine WPl.nil (EX.then (WP.ret ?_))
  exact EX.fin id (.inl rfl) rfl (.tmp rfl .nil) rfl r26 trivial (by simp) (by simp)
theorem w125 {n lo hi : Int} : ∀ x ∈ ([.i (n), .i (lo), .i (hi)] : List SV), x.res (keys (α := Pred) []) := by simp [SV.res, El.res, At.res, keys]
theorem r125 {n lo hi : Int} : SV.res (keys (α := Pred) []) (.b (within n lo hi)) := by simp [SV.res, El.res, At.res, keys]
set_option maxHeartbeats 4000000 in
theorem c125 (n lo hi : Int)  : Sig Tryz.prog 125 [.i (n), .i (lo), .i (hi)] [] (.b (within n lo hi)) [] := by
  refine Sig.intro Tryz.func125 rfl 0 [(0, .i (n)), (1, .i (lo)), (2, .i (hi))] rfl w125 rfl rfl fun I w => ?_
  refine WP.seq (WP.region ?_)
  refine WPl.v rfl (o_assign rfl) ?_
  refine WPl.nil (EX.then (WP.seq (WP.region ?_)))
  refine WPl.v rfl (o_move rfl) ?_
  refine WPl.v rfl (o_move rfl) ?_
  refine WPl.v rfl (o_move rfl) ?_
  refine WPl.cs 0 rfl rfl rfl rfl (o_sig 0 id (c26 n lo hi) e26 rfl rfl rfl w26 trivial r26) ?_
  refine WPl.v rfl (o_assign rfl) ?_
  refine WPl.nil (EX.then (WP.ret ?_))
  exact EX.fin id (.inl rfl) rfl (.tmp rfl .nil) rfl r125 trivial (by simp) (by simp)
theorem w100 {n lo hi : Int} : ∀ x ∈ ([.i (n), .i (lo), .i (hi)] : List SV), x.res (keys (α := Pred) []) := by simp [SV.res, El.res, At.res, keys]
theorem r100 {n lo hi : Int} : SV.res (keys (α := Pred) []) (.b (within n lo hi)) := by simp [SV.res, El.res, At.res, keys]
set_option maxHeartbeats 4000000 in
theorem c100 (n lo hi : Int)  : Sig Tryz.prog 100 [.i (n), .i (lo), .i (hi)] [] (.b (within n lo hi)) [] := by
  refine Sig.intro Tryz.func100 rfl 0 [(0, .i (n)), (1, .i (lo)), (2, .i (hi))] rfl w100 rfl rfl fun I w => ?_
  refine WP.seq (WP.region ?_)
  refine WPl.v rfl (o_assign rfl) ?_
  refine WPl.nil (EX.then (WP.seq (WP.region ?_)))
  refine WPl.v rfl (o_move rfl) ?_
  refine WPl.v rfl (o_move rfl) ?_
  refine WPl.v rfl (o_move rfl) ?_
  refine WPl.cs 0 rfl rfl rfl rfl (o_sig 0 id (c26 n lo hi) e26 rfl rfl rfl w26 trivial r26) ?_
  refine WPl.v rfl (o_assign rfl) ?_
  refine WPl.nil (EX.then (WP.ret ?_))
  exact EX.fin id (.inl rfl) rfl (.tmp rfl .nil) rfl r100 trivial (by simp) (by simp)
theorem w88 {n lo hi : Int} : ∀ x ∈ ([.i (n), .i (lo), .i (hi)] : List SV), x.res (keys (α := Pred) []) := by simp [SV.res, El.res, At.res, keys]
theorem r88 {n lo hi : Int} : SV.res (keys (α := Pred) []) (.b (within n lo hi)) := by simp [SV.res, El.res, At.res, keys]
set_option maxHeartbeats 4000000 in
theorem c88 (n lo hi : Int)  : Sig Tryz.prog 88 [.i (n), .i (lo), .i (hi)] [] (.b (within n lo hi)) [] := by
  refine Sig.intro Tryz.func88 rfl 0 [(0, .i (n)), (1, .i (lo)), (2, .i (hi))] rfl w88 rfl rfl fun I w => ?_
  refine WP.seq (WP.region ?_)
  refine WPl.v rfl (o_assign rfl) ?_
  refine WPl.nil (EX.then (WP.seq (WP.region ?_)))
  refine WPl.v rfl (o_move rfl) ?_
  refine WPl.v rfl (o_move rfl) ?_
  refine WPl.v rfl (o_move rfl) ?_
  refine WPl.cs 0 rfl rfl rfl rfl (o_sig 0 id (c26 n lo hi) e26 rfl rfl rfl w26 trivial r26) ?_
  refine WPl.v rfl (o_assign rfl) ?_
  refine WPl.nil (EX.then (WP.ret ?_))
  exact EX.fin id (.inl rfl) rfl (.tmp rfl .nil) rfl r88 trivial (by simp) (by simp)
theorem w79 {n lo hi : Int} : ∀ x ∈ ([.i (n), .i (lo), .i (hi)] : List SV), x.res (keys (α := Pred) []) := by simp [SV.res, El.res, At.res, keys]
theorem r79 {n lo hi : Int} : SV.res (keys (α := Pred) []) (.b (within n lo hi)) := by simp [SV.res, El.res, At.res, keys]
set_option maxHeartbeats 4000000 in
theorem c79 (n lo hi : Int)  : Sig Tryz.prog 79 [.i (n), .i (lo), .i (hi)] [] (.b (within n lo hi)) [] := by
  refine Sig.intro Tryz.func79 rfl 0 [(0, .i (n)), (1, .i (lo)), (2, .i (hi))] rfl w79 rfl rfl fun I w => ?_
  refine WP.seq (WP.region ?_)
  refine WPl.v rfl (o_assign rfl) ?_
  refine WPl.nil (EX.then (WP.seq (WP.region ?_)))
  refine WPl.v rfl (o_move rfl) ?_
  refine WPl.v rfl (o_move rfl) ?_
  refine WPl.v rfl (o_geq rfl rfl) ?_
  refine WPl.v rfl (o_move rfl) ?_
  refine WPl.bit 0 1 (decide (lo ≤ n)) rfl rfl ?_
  refine WPl.gv 0 rfl rfl (.plain rfl Iff.rfl rfl) (fun hb => o_move rfl) ?_
  refine WPl.gv 0 rfl rfl (.plain rfl Iff.rfl rfl) (fun hb => o_move rfl) ?_
  refine WPl.gv 0 rfl rfl (.plain rfl Iff.rfl rfl) (fun hb => o_leq rfl rfl) ?_
  refine WPl.v rfl (o_and rfl rfl rfl id) ?_
  refine WPl.v rfl (o_assign rfl) ?_
  refine WPl.nil (EX.then (WP.ret ?_))
  exact EX.fin id (.inl rfl) rfl (.tmp rfl .nil) rfl r79 trivial (by simp) (by simp)
theorem w140 {n lo hi : Int} : ∀ x ∈ ([.i (n), .i (lo), .i (hi)] : List SV), x.res (keys (α := Pred) []) := by simp [SV.res, El.res, At.res, keys]
theorem r140 {n lo hi : Int} : SV.res (keys (α := Pred) []) (.b (within n lo hi)) := by simp [SV.res, El.res, At.res, keys]
set_option maxHeartbeats 4000000 in
theorem c140 (n lo hi : Int)  : Sig Tryz.prog 140 [.i (n), .i (lo), .i (hi)] [] (.b (within n lo hi)) [] := by
  refine Sig.intro Tryz.func140 rfl 0 [(0, .i (n)), (1, .i (lo)), (2, .i (hi))] rfl w140 rfl rfl fun I w => ?_
  refine WP.seq (WP.region ?_)
  refine WPl.v rfl (o_assign rfl) ?_
  refine WPl.nil (EX.then (WP.seq (WP.region ?_)))
  refine WPl.v rfl (o_move rfl) ?_
  refine WPl.v rfl (o_move rfl) ?_
  refine WPl.v rfl (o_geq rfl rfl) ?_
  refine WPl.v rfl (o_move rfl) ?_
  refine WPl.bit 0 1 (decide (lo ≤ n)) rfl rfl ?_
  refine WPl.gv 0 rfl rfl (.plain rfl Iff.rfl rfl) (fun hb => o_move rfl) ?_
  refine WPl.gv 0 rfl rfl (.plain rfl Iff.rfl rfl) (fun hb => o_move rfl) ?_
  refine WPl.gv 0 rfl rfl (.plain rfl Iff.rfl rfl) (fun hb => o_leq rfl rfl) ?_
  refine WPl.v rfl (o_and rfl rfl rfl id) ?_
  refine WPl.v rfl (o_assign rfl) ?_
  refine WPl.nil (EX.then (WP.ret ?_))
  exact EX.fin id (.inl rfl) rfl (.tmp rfl .nil) rfl r140 trivial (by simp) (by simp)
theorem w164 {n lo hi : Int} : ∀ x ∈ ([.i (n), .i (lo), .i (hi)] : List SV), x.res (keys (α := Pred) []) := by simp [SV.res, El.res, At.res, keys]
theorem r164 {n lo hi : Int} : SV.res (keys (α := Pred) []) (.b (within n lo hi)) := by simp [SV.res, El.res, At.res, keys]
set_option maxHeartbeats 4000000 in
theorem c164 (n lo hi : Int)  : Sig Tryz.prog 164 [.i (n), .i (lo), .i (hi)] [] (.b (within n lo hi)) [] := by
  refine Sig.intro Tryz.func164 rfl 0 [(0, .i (n)), (1, .i (lo)), (2, .i (hi))] rfl w164 rfl rfl fun I w => ?_
  refine WP.seq (WP.region ?_)
  refine WPl.v rfl (o_assign rfl) ?_
  refine WPl.nil (EX.then (WP.seq (WP.region ?_)))
  refine WPl.v rfl (o_move rfl) ?_
  refine WPl.v rfl (o_move rfl) ?_
  refine WPl.v rfl (o_geq rfl rfl) ?_
  refine WPl.v rfl (o_move rfl) ?_
  refine WPl.bit 0 1 (decide (lo ≤ n)) rfl rfl ?_
  refine WPl.gv 0 rfl rfl (.plain rfl Iff.rfl rfl) (fun hb => o_move rfl) ?_
  refine WPl.gv 0 rfl rfl (.plain rfl Iff.rfl rfl) (fun hb => o_move rfl) ?_
  refine WPl.gv 0 rfl rfl (.plain rfl Iff.rfl rfl) (fun hb => o_leq rfl rfl) ?_
  refine WPl.v rfl (o_and rfl rfl rfl id) ?_
  refine WPl.v rfl (o_assign rfl) ?_
  refine WPl.nil (EX.then (WP.ret ?_))
  exact EX.fin id (.inl rfl) rfl (.tmp rfl .nil) rfl r164 trivial (by simp) (by simp)
theorem w29 {l : List Int} {n : Int} : ∀ x ∈ ([.e (.a (.q 0)), .i (n)] : List SV), x.res (keys (α := Pred) [(0, PL EP.int (l))]) := by simp [SV.res, El.res, At.res, keys]
theorem r29 {l : List Int} {n : Int} : SV.res (keys (α := Pred) []) (.b (inL l n)) := by simp [SV.res, El.res, At.res, keys]
set_option maxHeartbeats 4000000 in
theorem c29 (l : List Int) (n : Int) (hl : l.length ≤ 1000000) : Sig Tryz.prog 29 [.e (.a (.q 0)), .i (n)] [(0, PL EP.int (l))] (.b (inL l n)) [] := by
  refine Sig.intro Tryz.func29 rfl 1 [(0, .e (.a (.q 0))), (1, .i (n))] rfl w29 rfl rfl fun I w => ?_
  refine WP.seq (WP.region ?_)
  refine WPl.v rfl (o_assign rfl) ?_
  refine WPl.nil (EX.then (WP.seq (WP.seq (WP.region ?_))))
  refine WPl.v rfl (o_assign rfl) ?_
  refine WPl.nil (EX.then (WP.block ?_))
  refine WP.loop (Gh := Nat) (fun i => ⟨1, [(0, .e (.a (.q 0))), (1, .i (n)), (4, .b (false)), (5, .i ((i : Int)))], [(0, PL EP.int (l))], [], [], []⟩) (fun i => i ≤ l.length ∧ allI (fun j => !decide (nth l j = n)) i = true) (fun i => l.length - i) (0) id ?_ (LeR.of ⟨rfl, rfl, rfl, rfl, trivial⟩ ⟨(lx rfl), trivial⟩ trivial rfl rfl rfl rfl rfl) ?_
  · exact ⟨by omega, rfl⟩
  intro i hφ
  have hi : i ≤ l.length := hφ.1
  have hall := hφ.2
  refine WP.seq (WP.seq (WP.region ?_))
  refine WPl.v rfl (o_move rfl) ?_
  refine WPl.v rfl (o_move rfl) ?_
  refine WPl.v rfl (o_lenq L24 rfl (lx rfl)) ?_
  refine WPl.v rfl (o_lss rfl rfl) ?_
  refine WPl.nil (EX.then ?_)
  refine WP.cond rfl (fun hc1 => ?_) (fun hc1 => ?_)
  · try simp only [cnd] at hc1
    refine WP.skip (EX.then (WP.seq (WP.block (WP.seq (WP.region ?_)))))
    refine WPl.v rfl (o_move rfl) ?_
    refine WPl.v rfl (o_move rfl) ?_
    refine WPl.x 1 2 rfl rfl rfl (o_idx L24 rfl (lx rfl) rfl (by first | omega | (simp; omega)) (by first | omega | (simp; omega))) ?_
    refine WPl.v rfl (o_ldq S3 rfl (lx rfl) intc) ?_
    refine WPl.v rfl (o_move rfl) ?_
    refine WPl.v rfl (o_eql rfl rfl) ?_
    refine WPl.nil (EX.then ?_)
    refine WP.cond rfl (fun hc2 => ?_) (fun hc2 => ?_)
    · try simp only [cnd] at hc2
      refine WP.seq (WP.region ?_)
      refine WPl.v rfl (o_assign rfl) ?_
      refine WPl.nil (EX.then (WP.ret (EX.ret_blk (EX.ret_then (EX.ret_then (EX.ret_blk (EX.ret_then ?_)))))))
      rw [show inL l n = true from by simp only [inL, Bool.not_eq_true']; exact not_allI (show i < l.length by omega) (by simpa using hc2)]
      exact EX.fin id (.inl rfl) rfl (.tmp rfl .nil) rfl (by simp [SV.res, El.res, At.res, keys]) trivial (by simp) (by simp)
    · try simp only [cnd] at hc2
      refine WP.skip (EX.blk (EX.then (WP.region ?_)))
      refine WPl.v rfl (o_move rfl) ?_
      refine WPl.v rfl (o_add rfl rfl (by first | omega | (simp; omega)) (by first | omega | (simp; omega))) ?_
      refine WPl.v rfl (o_assign rfl) ?_
      refine WPl.nil ?_
      refine EX.again (i + 1) id (by exact ⟨by omega, by simp only [allI, hall, Bool.true_and]; simpa using hc2⟩) (by omega) (LeR.of ⟨rfl, rfl, rfl, rfl, trivial⟩ ⟨(lx rfl), trivial⟩ trivial rfl rfl rfl rfl rfl)
  · try simp only [cnd] at hc1
    refine WP.exit (EX.exit_then (EX.exit_then (EX.exit_blk (EX.then (WP.seq (WP.region ?_))))))
    refine WPl.v rfl (o_assign rfl) ?_
    refine WPl.nil (EX.then (WP.ret ?_))
    have he : i = l.length := by omega
    subst he
    rw [show inL l n = false from by simp only [inL, hall]; rfl]
    exact EX.fin id (.inl rfl) rfl (.tmp rfl .nil) rfl (by simp [SV.res, El.res, At.res, keys]) trivial (by simp) (by simp)
theorem w119 {l : List Int} {a b : Int} : ∀ x ∈ ([.e (.a (.q 0)), .i (a), .i (b)] : List SV), x.res (keys (α := Pred) [(0, PL EP.int (l))]) := by simp [SV.res, El.res, At.res, keys]
theorem r119 {l : List Int} {a b : Int} : SV.res (keys (α := Pred) []) (.b (rising l a b)) := by simp [SV.res, El.res, At.res, keys]
set_option maxHeartbeats 4000000 in
theorem c119 (l : List Int) (a b : Int) (hl : l.length ≤ 1000000) : Sig Tryz.prog 119 [.e (.a (.q 0)), .i (a), .i (b)] [(0, PL EP.int (l))] (.b (rising l a b)) [] := by
  refine Sig.intro Tryz.func119 rfl 1 [(0, .e (.a (.q 0))), (1, .i (a)), (2, .i (b))] rfl w119 rfl rfl fun I w => ?_
  refine WP.seq (WP.region ?_)
  refine WPl.v rfl (o_assign rfl) ?_
  refine WPl.nil (EX.then (WP.seq (WP.seq (WP.region ?_))))
  refine WPl.v rfl (o_assign rfl) ?_
  refine WPl.nil (EX.then (WP.block ?_))
  refine WP.loop (Gh := Nat) (fun i => ⟨1, [(0, .e (.a (.q 0))), (1, .i (a)), (2, .i (b)), (6, .b (false)), (7, .i ((i : Int)))], [(0, PL EP.int (l))], [], [], []⟩) (fun i => i ≤ l.length ∧ allI (risingAt l a b) i = true) (fun i => l.length - i) (0) id ?_ (LeR.of ⟨rfl, rfl, rfl, rfl, rfl, trivial⟩ ⟨(lx rfl), trivial⟩ trivial rfl rfl rfl rfl rfl) ?_
  · exact ⟨by omega, rfl⟩
  intro i hφ
  have hi : i ≤ l.length := hφ.1
  have hall := hφ.2
  refine WP.seq (WP.seq (WP.region ?_))
  refine WPl.v rfl (o_move rfl) ?_
  refine WPl.v rfl (o_move rfl) ?_
  refine WPl.v rfl (o_lenq L24 rfl (lx rfl)) ?_
  refine WPl.v rfl (o_lss rfl rfl) ?_
  refine WPl.nil (EX.then ?_)
  refine WP.cond rfl (fun hc1 => ?_) (fun hc1 => ?_)
  · try simp only [cnd] at hc1
    refine WP.skip (EX.then (WP.seq (WP.block (WP.seq ?_))))
    refine WP.imp (Imp.bit 1 2 (!(!(within (nth l (i : Int)) a b))) rfl rfl) ?_
    refine WP.imp (Imp.bit 2 3 ((!(!(within (nth l (i : Int)) a b))) && (decide (0 < (i : Int)))) rfl rfl) ?_
    refine WP.draw (nf := 6) [⟨[15, 18, 19], [], [], [], []⟩, ⟨[14, 18, 19], [], [], [], []⟩, ⟨[18, 19], [], [3], [3], [0, 1]⟩, ⟨[18, 19], [], [], [], [0, 1, 2]⟩, ⟨[14, 15, 16, 17, 19], [3], [], [], []⟩, ⟨[14, 15, 16, 17, 18], [3], [], [], []⟩, ⟨[], [], [], [], [0, 1, 2, 3, 4, 5]⟩, ⟨[], [], [], [], [0, 1, 2, 3, 4, 5, 6]⟩, ⟨[], [], [], [], [0, 1, 2, 3, 4, 5, 6, 7]⟩, ⟨[], [], [], [], [0, 1, 2, 3, 4, 5, 6, 7, 8]⟩, ⟨[], [], [], [], [0, 1, 2, 3, 4, 5, 6, 7, 8, 9]⟩, ⟨[], [], [], [], [0, 1, 2, 3, 4, 5, 6, 7, 8, 9, 10]⟩, ⟨[27, 30, 31, 32, 33, 34], [5], [], [], [0, 1, 2, 3, 4, 5, 6, 7, 8, 9, 10, 11]⟩, ⟨[26, 30, 31, 32, 33, 34], [5], [], [], [0, 1, 2, 3, 4, 5, 6, 7, 8, 9, 10, 11]⟩, ⟨[30, 31, 32, 33, 34], [5], [4], [4], [0, 1, 2, 3, 4, 5, 6, 7, 8, 9, 10, 11, 12, 13]⟩, ⟨[30, 31, 32, 33, 34], [5], [], [], [0, 1, 2, 3, 4, 5, 6, 7, 8, 9, 10, 11, 12, 13, 14]⟩, ⟨[26, 27, 28, 29, 31, 32], [4], [], [], [0, 1, 2, 3, 4, 5, 6, 7, 8, 9, 10, 11]⟩, ⟨[26, 27, 28, 29, 30], [4], [], [], [0, 1, 2, 3, 4, 5, 6, 7, 8, 9, 10, 11]⟩, ⟨[26, 27, 28, 29, 30], [4], [], [], [0, 1, 2, 3, 4, 5, 6, 7, 8, 9, 10, 11, 17]⟩, ⟨[26, 27, 28, 29], [4], [5], [5], [0, 1, 2, 3, 4, 5, 6, 7, 8, 9, 10, 11, 16, 17, 18]⟩, ⟨[26, 27, 28, 29], [4], [], [], [0, 1, 2, 3, 4, 5, 6, 7, 8, 9, 10, 11, 16, 17, 18, 19]⟩, ⟨[], [], [], [], [0, 1, 2, 3, 4, 5, 6, 7, 8, 9, 10, 11, 12, 13, 14, 15, 16, 17, 18, 19, 20]⟩, ⟨[], [], [], [], [0, 1, 2, 3, 4, 5, 6, 7, 8, 9, 10, 11, 12, 13, 14, 15, 16, 17, 18, 19, 20, 21]⟩, ⟨[], [], [], [], [0, 1, 2, 3, 4, 5, 6, 7, 8, 9, 10, 11, 12, 13, 14, 15, 16, 17, 18, 19, 20, 21, 22]⟩] (by kernel_rfl) (by kernel_rfl) ?_
    refine DRQ.v rfl rfl rfl (o_move rfl) ?_
    refine DRQ.v rfl rfl rfl (o_move rfl) ?_
    refine DRQ.x 3 rfl rfl rfl rfl (o_idx L24 rfl (lx rfl) rfl (by first | omega | (simp; omega)) (by first | omega | (simp; omega))) ?_
    refine DRQ.v rfl rfl rfl (o_ldq S3 rfl (lx rfl) intc) ?_
    refine DRQ.v rfl rfl rfl (o_move rfl) ?_
    refine DRQ.v rfl rfl rfl (o_move rfl) ?_
    refine DRQ.cs rfl rfl rfl rfl (o_sig 4 id (c26 (nth l (i : Int)) a b) e26 rfl rfl rfl w26 trivial r26) ?_
    refine DRQ.v rfl rfl rfl (o_not rfl) ?_
    refine DRQ.v rfl rfl rfl (o_move rfl) ?_
    refine DRQ.gv 1 rfl rfl (.plain rfl (by simp) rfl) rfl (fun hb => o_move rfl) ?_
    refine DRQ.gv 1 rfl rfl (.plain rfl (by simp) rfl) rfl (fun hb => o_gtr rfl rfl) ?_
    refine DRQ.gv 1 rfl rfl (.plain rfl (by simp) rfl) rfl (fun hb => o_move rfl) ?_
    refine DRQ.gv 2 rfl rfl (.nest rfl rfl (by simp) rfl) rfl (fun hb => o_move rfl) ?_
    refine DRQ.gv 2 rfl rfl (.nest rfl rfl (by simp) rfl) rfl (fun hb => o_move rfl) ?_
    refine DRQ.gx 2 4 rfl rfl (.nest rfl rfl (by simp) rfl) rfl rfl (fun hb => o_idx L24 rfl (lx rfl) rfl (by simp at hb; omega) (by simp at hb; omega)) ?_
    refine DRQ.gv 2 rfl rfl (.nest rfl rfl (by simp) rfl) rfl (fun hb => o_ldq S3 rfl (lxi hb rfl) intc) ?_
    refine DRQ.gv 2 rfl rfl (.nest rfl rfl (by simp) rfl) rfl (fun hb => o_move rfl) ?_
    refine DRQ.gv 2 rfl rfl (.nest rfl rfl (by simp) rfl) rfl (fun hb => o_move rfl) ?_
    refine DRQ.gv 2 rfl rfl (.nest rfl rfl (by simp) rfl) rfl (fun hb => o_sub rfl rfl (by simp at hb; omega) (by simp at hb; omega)) ?_
    refine DRQ.gx 2 5 rfl rfl (.nest rfl rfl (by simp) rfl) rfl rfl (fun hb => o_idx L24 rfl (lx rfl) rfl (by simp at hb; omega) (by simp at hb; omega)) ?_
    refine DRQ.gv 2 rfl rfl (.nest rfl rfl (by simp) rfl) rfl (fun hb => o_ldq S3 rfl (lxi hb rfl) intc) ?_
    refine DRQ.gv 2 rfl rfl (.nest rfl rfl (by simp) rfl) rfl (fun hb => o_leq rfl rfl) ?_
    refine DRQ.gv 1 rfl rfl (.plain rfl (by simp) rfl) rfl (fun hb => o_and rfl rfl rfl (by first | (simp; done) | exact fun h => Bool.and_eq_true_iff.2 ⟨hb, h⟩ | simp_all)) ?_
    refine DRQ.v rfl rfl rfl (o_or rfl rfl rfl (by first | (simp; done) | simp_all)) ?_
    refine DRQ.nil' ?_
    refine EX.then ?_
    refine WP.cond rfl (fun hc2 => ?_) (fun hc2 => ?_)
    · try simp only [cnd] at hc2
      refine WP.seq (WP.region ?_)
      refine WPl.v rfl (o_assign rfl) ?_
      refine WPl.nil (EX.then (WP.ret (EX.ret_blk (EX.ret_then (EX.ret_then (EX.ret_blk (EX.ret_then ?_)))))))
      rw [show rising l a b = false from by refine not_allI (show i < l.length by omega) ?_; simp only [risingAt, Bool.and_eq_false_iff, Bool.not_eq_false', Bool.and_eq_true, decide_eq_true_eq]; exact hc2]
      exact EX.fin id (.inl rfl) rfl (.tmp rfl .nil) rfl (by simp [SV.res, El.res, At.res, keys]) trivial (by simp) (by simp)
    · try simp only [cnd] at hc2
      refine WP.skip (EX.blk (EX.then (WP.region ?_)))
      refine WPl.v rfl (o_move rfl) ?_
      refine WPl.v rfl (o_add rfl rfl (by first | omega | (simp; omega)) (by first | omega | (simp; omega))) ?_
      refine WPl.v rfl (o_assign rfl) ?_
      refine WPl.nil ?_
      refine EX.again (i + 1) id (by exact ⟨by omega, by simp only [allI, hall, Bool.true_and, risingAt, Bool.and_eq_true, Bool.not_eq_true', Bool.and_eq_false_iff, decide_eq_false_iff_not]; exact hc2⟩) (by omega) (LeR.of ⟨rfl, rfl, rfl, rfl, rfl, trivial⟩ ⟨(lx rfl), trivial⟩ trivial rfl rfl rfl rfl rfl)
  · try simp only [cnd] at hc1
    refine WP.exit (EX.exit_then (EX.exit_then (EX.exit_blk (EX.then (WP.seq (WP.region ?_))))))
    refine WPl.v rfl (o_assign rfl) ?_
    refine WPl.nil (EX.then (WP.ret ?_))
    have he : i = l.length := by omega
    subst he
    rw [show rising l a b = true from hall]
    exact EX.fin id (.inl rfl) rfl (.tmp rfl .nil) rfl (by simp [SV.res, El.res, At.res, keys]) trivial (by simp) (by simp)
theorem w51 {a b : List Int} : ∀ x ∈ ([.e (.a (.q 0)), .e (.a (.q 1))] : List SV), x.res (keys (α := Pred) [(0, PL EP.int (a)), (1, PL EP.int (b))]) := by simp [SV.res, El.res, At.res, keys]
theorem r51 {a b : List Int} : SV.res (keys (α := Pred) []) (.b (sameInts a b)) := by simp [SV.res, El.res, At.res, keys]
set_option maxHeartbeats 4000000 in
theorem c51 (a b : List Int) (hl : a.length ≤ 1000000) : Sig Tryz.prog 51 [.e (.a (.q 0)), .e (.a (.q 1))] [(0, PL EP.int (a)), (1, PL EP.int (b))] (.b (sameInts a b)) [] := by
  refine Sig.intro Tryz.func51 rfl 2 [(0, .e (.a (.q 0))), (1, .e (.a (.q 1)))] rfl w51 rfl rfl fun I w => ?_
  refine WP.seq (WP.region ?_)
  refine WPl.v rfl (o_assign rfl) ?_
  refine WPl.nil (EX.then (WP.seq (WP.seq (WP.region ?_))))
  refine WPl.v rfl (o_move rfl) ?_
  refine WPl.v rfl (o_lenq L24 rfl (lx rfl)) ?_
  refine WPl.v rfl (o_move rfl) ?_
  refine WPl.v rfl (o_lenq L24 rfl (lx rfl)) ?_
  refine WPl.v rfl (o_neq rfl rfl) ?_
  refine WPl.nil (EX.then ?_)
  refine WP.cond rfl (fun hc1 => ?_) (fun hc1 => ?_)
  · try simp only [cnd] at hc1
    refine WP.seq (WP.region ?_)
    refine WPl.v rfl (o_assign rfl) ?_
    refine WPl.nil (EX.then (WP.ret (EX.ret_then ?_)))
    rw [show sameInts a b = false from by simp [sameInts]; (try simp at hc1); grind]
    exact EX.fin id (.inl rfl) rfl (.tmp rfl .nil) rfl (by simp [SV.res, El.res, At.res, keys]) trivial (by simp) (by simp)
  · try simp only [cnd] at hc1
    refine WP.skip (EX.then (WP.seq (WP.seq (WP.region ?_))))
    refine WPl.v rfl (o_assign rfl) ?_
    refine WPl.nil (EX.then (WP.block ?_))
    refine WP.loop (Gh := Nat) (fun i => ⟨2, [(0, .e (.a (.q 0))), (1, .e (.a (.q 1))), (4, .b (false)), (5, .i ((i : Int)))], [(0, PL EP.int (a)), (1, PL EP.int (b))], [], [], []⟩) (fun i => i ≤ a.length ∧ allI (sameAt a b) i = true) (fun i => a.length - i) (0) id ?_ (LeR.of ⟨rfl, rfl, rfl, rfl, trivial⟩ ⟨(lx rfl), (lx rfl), trivial⟩ trivial rfl rfl rfl rfl rfl) ?_
    · exact ⟨by omega, rfl⟩
    intro i hφ
    obtain ⟨hi, hall⟩ := hφ; have hlen : (a.length : Int) = b.length := by simpa using hc1
    refine WP.seq (WP.seq (WP.region ?_))
    refine WPl.v rfl (o_move rfl) ?_
    refine WPl.v rfl (o_move rfl) ?_
    refine WPl.v rfl (o_lenq L24 rfl (lx rfl)) ?_
    refine WPl.v rfl (o_lss rfl rfl) ?_
    refine WPl.nil (EX.then ?_)
    refine WP.cond rfl (fun hc2 => ?_) (fun hc2 => ?_)
    · try simp only [cnd] at hc2
      refine WP.skip (EX.then (WP.seq (WP.block (WP.seq ?_))))
      refine WP.draw (nf := 4) [⟨[18, 21, 22, 23, 24], [3], [], [], []⟩, ⟨[17, 21, 22, 23, 24], [3], [], [], []⟩, ⟨[21, 22, 23, 24], [3], [2], [2], [0, 1]⟩, ⟨[21, 22, 23, 24], [3], [], [], [0, 1, 2]⟩, ⟨[17, 18, 19, 20, 22], [2], [], [], []⟩, ⟨[17, 18, 19, 20, 21], [2], [], [], []⟩, ⟨[17, 18, 19, 20], [2], [3], [3], [4, 5]⟩, ⟨[17, 18, 19, 20], [2], [], [], [4, 5, 6]⟩, ⟨[], [], [], [], [0, 1, 2, 3, 4, 5, 6, 7]⟩] (by kernel_rfl) (by kernel_rfl) ?_
      refine DRQ.v rfl rfl rfl (o_move rfl) ?_
      refine DRQ.v rfl rfl rfl (o_move rfl) ?_
      refine DRQ.x 2 rfl rfl rfl rfl (o_idx L24 rfl (lx rfl) rfl (by first | omega | (simp; omega)) (by first | omega | (simp; omega))) ?_
      refine DRQ.v rfl rfl rfl (o_ldq S3 rfl (lx rfl) intc) ?_
      refine DRQ.v rfl rfl rfl (o_move rfl) ?_
      refine DRQ.v rfl rfl rfl (o_move rfl) ?_
      refine DRQ.x 3 rfl rfl rfl rfl (o_idx L24 rfl (lx rfl) rfl (by first | omega | (simp; omega)) (by first | omega | (simp; omega))) ?_
      refine DRQ.v rfl rfl rfl (o_ldq S3 rfl (lx rfl) intc) ?_
      refine DRQ.v rfl rfl rfl (o_neq rfl rfl) ?_
      refine DRQ.nil' ?_
      refine EX.then ?_
      refine WP.cond rfl (fun hc3 => ?_) (fun hc3 => ?_)
      · try simp only [cnd] at hc3
        refine WP.seq (WP.region ?_)
        refine WPl.v rfl (o_assign rfl) ?_
        refine WPl.nil (EX.then (WP.ret (EX.ret_blk (EX.ret_then (EX.ret_then (EX.ret_blk (EX.ret_then ?_)))))))
        rw [show sameInts a b = false from by simp [sameInts, allI_false (show i < a.length by omega) (show sameAt a b i = false by simpa [sameAt] using hc3)]]
        exact EX.fin id (.inl rfl) rfl (.tmp rfl .nil) rfl (by simp [SV.res, El.res, At.res, keys]) trivial (by simp) (by simp)
      · try simp only [cnd] at hc3
        refine WP.skip (EX.blk (EX.then (WP.region ?_)))
        refine WPl.v rfl (o_move rfl) ?_
        refine WPl.v rfl (o_add rfl rfl (by first | omega | (simp; omega)) (by first | omega | (simp; omega))) ?_
        refine WPl.v rfl (o_assign rfl) ?_
        refine WPl.nil ?_
        refine EX.again (i + 1) id (by exact ⟨by omega, by simp [allI, hall, sameAt]; simpa using hc3⟩) (by omega) (LeR.of ⟨rfl, rfl, rfl, rfl, trivial⟩ ⟨(lx rfl), (lx rfl), trivial⟩ trivial rfl rfl rfl rfl rfl)
    · try simp only [cnd] at hc2
      refine WP.exit (EX.exit_then (EX.exit_then (EX.exit_blk (EX.then (WP.seq (WP.region ?_))))))
      refine WPl.v rfl (o_assign rfl) ?_
      refine WPl.nil (EX.then (WP.ret ?_))
      have hi2 : i = a.length := by omega
      subst hi2
      rw [show sameInts a b = true from by simp [sameInts, hall, hlen]]
      exact EX.fin id (.inl rfl) rfl (.tmp rfl .nil) rfl (by simp [SV.res, El.res, At.res, keys]) trivial (by simp) (by simp)
theorem w91 {a b : Int} : ∀ x ∈ ([.i (a), .i (b)] : List SV), x.res (keys (α := Pred) []) := by simp [SV.res, El.res, At.res, keys]
theorem r91 {a b : Int} : SV.res (keys (α := Pred) []) (.i (knOf a b)) := by simp [SV.res, El.res, At.res, keys]
set_option maxHeartbeats 4000000 in
theorem c91 (a b : Int)  : Sig Tryz.prog 91 [.i (a), .i (b)] [] (.i (knOf a b)) [] := by
  refine Sig.intro Tryz.func91 rfl 0 [(0, .i (a)), (1, .i (b))] rfl w91 rfl rfl fun I w => ?_
  refine WP.seq (WP.region ?_)
  refine WPl.v rfl (o_assign rfl) ?_
  refine WPl.nil (EX.then (WP.seq (WP.seq (WP.region ?_))))
  refine WPl.v rfl (o_move rfl) ?_
  refine WPl.nil (EX.then (WP.block (WP.seq (WP.region ?_))))
  refine WPl.v rfl (o_eql rfl rfl) ?_
  refine WPl.v rfl (o_assign rfl) ?_
  refine WPl.nil (EX.then ?_)
  refine WP.cond rfl (fun hc1 => ?_) (fun hc1 => ?_)
  · try simp only [cnd] at hc1
    refine WP.seq (WP.region ?_)
    refine WPl.v rfl (o_assign rfl) ?_
    refine WPl.nil (EX.then (WP.ret (EX.ret_blk (EX.ret_then ?_))))
    rw [show knOf a b = 2 from if_pos hc1]
    exact EX.fin id (.inl rfl) rfl (.tmp rfl .nil) rfl (by simp [SV.res, El.res, At.res, keys]) trivial (by simp) (by simp)
  · try simp only [cnd] at hc1
    refine WP.seq (WP.region ?_)
    refine WPl.v rfl (o_move rfl) ?_
    refine WPl.v rfl (o_eql rfl rfl) ?_
    refine WPl.v rfl (o_assign rfl) ?_
    refine WPl.nil (EX.then ?_)
    refine WP.cond rfl (fun hc2 => ?_) (fun hc2 => ?_)
    · try simp only [cnd] at hc2
      refine WP.seq (WP.region ?_)
      refine WPl.v rfl (o_assign rfl) ?_
      refine WPl.nil (EX.then (WP.ret (EX.ret_blk (EX.ret_then ?_))))
      rw [show knOf a b = 1 from by unfold knOf; rw [if_neg hc1, if_pos hc2]]
      exact EX.fin id (.inl rfl) rfl (.tmp rfl .nil) rfl (by simp [SV.res, El.res, At.res, keys]) trivial (by simp) (by simp)
    · try simp only [cnd] at hc2
      refine WP.skip (EX.blk (EX.then (WP.seq (WP.region ?_))))
      refine WPl.v rfl (o_assign rfl) ?_
      refine WPl.nil (EX.then (WP.ret ?_))
      rw [show knOf a b = 3 from by unfold knOf; rw [if_neg hc1, if_neg hc2]]
      exact EX.fin id (.inl rfl) rfl (.tmp rfl .nil) rfl (by simp [SV.res, El.res, At.res, keys]) trivial (by simp) (by simp)
theorem w103 {n : Int} : ∀ x ∈ ([.i (n)] : List SV), x.res (keys (α := Pred) []) := by simp [SV.res, El.res, At.res, keys]
theorem r103 {n : Int} : SV.res (keys (α := Pred) []) (.b (within n 0 3)) := by simp [SV.res, El.res, At.res, keys]
set_option maxHeartbeats 4000000 in
theorem c103 (n : Int)  : Sig Tryz.prog 103 [.i (n)] [] (.b (within n 0 3)) [] := by
  refine Sig.intro Tryz.func103 rfl 0 [(0, .i (n))] rfl w103 rfl rfl fun I w => ?_
  refine WP.seq (WP.region ?_)
  refine WPl.v rfl (o_assign rfl) ?_
  refine WPl.nil (EX.then (WP.seq (WP.region ?_)))
  refine WPl.v rfl (o_move rfl) ?_
  refine WPl.cs 0 rfl rfl rfl rfl (o_sig 0 id (c79 n 0 3) e79 rfl rfl rfl w79 trivial r79) ?_
  refine WPl.v rfl (o_assign rfl) ?_
  refine WPl.nil (EX.then (WP.ret ?_))
  exact EX.fin id (.inl rfl) rfl (.tmp rfl .nil) rfl r103 trivial (by simp) (by simp)
theorem w110 {n : Int} : ∀ x ∈ ([.i (n)] : List SV), x.res (keys (α := Pred) []) := by simp [SV.res, El.res, At.res, keys]
theorem r110 {n : Int} : SV.res (keys (α := Pred) []) (.b (within n 0 3)) := by simp [SV.res, El.res, At.res, keys]
set_option maxHeartbeats 4000000 in
theorem c110 (n : Int)  : Sig Tryz.prog 110 [.i (n)] [] (.b (within n 0 3)) [] := by
  refine Sig.intro Tryz.func110 rfl 0 [(0, .i (n))] rfl w110 rfl rfl fun I w => ?_
  refine WP.seq (WP.region ?_)
  refine WPl.v rfl (o_assign rfl) ?_
  refine WPl.nil (EX.then (WP.seq (WP.region ?_)))
  refine WPl.v rfl (o_move rfl) ?_
  refine WPl.cs 0 rfl rfl rfl rfl (o_sig 0 id (c88 n 0 3) e88 rfl rfl rfl w88 trivial r88) ?_
  refine WPl.v rfl (o_assign rfl) ?_
  refine WPl.nil (EX.then (WP.ret ?_))
  exact EX.fin id (.inl rfl) rfl (.tmp rfl .nil) rfl r110 trivial (by simp) (by simp)
theorem w80 {n : Int} : ∀ x ∈ ([.i (n)] : List SV), x.res (keys (α := Pred) []) := by simp [SV.res, El.res, At.res, keys]
theorem r80 {n : Int} : SV.res (keys (α := Pred) []) (.b (within n 0 99)) := by simp [SV.res, El.res, At.res, keys]
set_option maxHeartbeats 4000000 in
theorem c80 (n : Int)  : Sig Tryz.prog 80 [.i (n)] [] (.b (within n 0 99)) [] := by
  refine Sig.intro Tryz.func80 rfl 0 [(0, .i (n))] rfl w80 rfl rfl fun I w => ?_
  refine WP.seq (WP.region ?_)
  refine WPl.v rfl (o_assign rfl) ?_
  refine WPl.nil (EX.then (WP.seq (WP.region ?_)))
  refine WPl.v rfl (o_move rfl) ?_
  refine WPl.cs 0 rfl rfl rfl rfl (o_sig 0 id (c79 n 0 99) e79 rfl rfl rfl w79 trivial r79) ?_
  refine WPl.v rfl (o_assign rfl) ?_
  refine WPl.nil (EX.then (WP.ret ?_))
  exact EX.fin id (.inl rfl) rfl (.tmp rfl .nil) rfl r80 trivial (by simp) (by simp)
theorem w120 {h : Hall} {n : Int} : ∀ x ∈ ([.e (.g [.q 0, .q 1, .q 2, ai (h.change)]), .i (n)] : List SV), x.res (keys (α := Pred) [(0, PL ETm (h.machs)), (1, PL EBd (h.buns)), (2, PL EP.int (h.trains))]) := by simp [SV.res, El.res, At.res, keys]
theorem r120 {h : Hall} {n : Int} : SV.res (keys (α := Pred) []) (.b (within n 0 ((h.machs.length : Int) - 1))) := by simp [SV.res, El.res, At.res, keys]
set_option maxHeartbeats 4000000 in
theorem c120 (h : Hall) (n : Int) (hl : h.machs.length ≤ 1000) : Sig Tryz.prog 120 [.e (.g [.q 0, .q 1, .q 2, ai (h.change)]), .i (n)] [(0, PL ETm (h.machs)), (1, PL EBd (h.buns)), (2, PL EP.int (h.trains))] (.b (within n 0 ((h.machs.length : Int) - 1))) [] := by
  refine Sig.intro Tryz.func120 rfl 3 [(0, .e (.g [.q 0, .q 1, .q 2, ai (h.change)])), (1, .i (n))] rfl w120 rfl rfl fun I w => ?_
  refine WP.seq (WP.region ?_)
  refine WPl.l 3 4 rfl rfl rfl (o_boxg rfl) ?_
  refine WPl.v rfl (o_assign rfl) ?_
  refine WPl.nil (EX.then (WP.seq (WP.region ?_)))
  refine WPl.v rfl (o_move rfl) ?_
  refine WPl.v rfl (o_fldp F26_0 rfl) ?_
  refine WPl.v rfl (o_ldp S22 rfl rfl rfl) ?_
  refine WPl.v rfl (o_lenq L22 rfl (lx rfl)) ?_
  refine WPl.v rfl (o_sub rfl rfl (by first | omega | (simp; omega)) (by first | omega | (simp; omega))) ?_
  refine WPl.cs 4 rfl rfl rfl rfl (o_sig 4 id (c125 n 0 ((h.machs.length : Int) - 1)) e125 rfl rfl rfl w125 trivial r125) ?_
  refine WPl.v rfl (o_assign rfl) ?_
  refine WPl.nil (EX.then (WP.ret ?_))
  exact EX.fin id (.inl rfl) rfl (.tmp rfl .nil) rfl r120 trivial (by simp) (by simp)
theorem w94 {h : Hall} {n : Int} : ∀ x ∈ ([.e (.g [.q 0, .q 1, .q 2, ai (h.change), .q 3, .q 4]), .i (n)] : List SV), x.res (keys (α := Pred) [(0, PL ETm (h.machs)), (1, PL EBd (h.buns)), (2, PL EP.int (h.trains)), (3, PL EP.int (h.bores)), (4, PL (EP.sl EP.int) (h.eds))]) := by simp [SV.res, El.res, At.res, keys]
theorem r94 {h : Hall} {n : Int} : SV.res (keys (α := Pred) []) (.b (within n 0 ((h.machs.length : Int) - 1))) := by simp [SV.res, El.res, At.res, keys]
set_option maxHeartbeats 4000000 in
theorem c94 (h : Hall) (n : Int) (hl : h.machs.length ≤ 1000) : Sig Tryz.prog 94 [.e (.g [.q 0, .q 1, .q 2, ai (h.change), .q 3, .q 4]), .i (n)] [(0, PL ETm (h.machs)), (1, PL EBd (h.buns)), (2, PL EP.int (h.trains)), (3, PL EP.int (h.bores)), (4, PL (EP.sl EP.int) (h.eds))] (.b (within n 0 ((h.machs.length : Int) - 1))) [] := by
  refine Sig.intro Tryz.func94 rfl 5 [(0, .e (.g [.q 0, .q 1, .q 2, ai (h.change), .q 3, .q 4])), (1, .i (n))] rfl w94 rfl rfl fun I w => ?_
  refine WP.seq (WP.region ?_)
  refine WPl.l 5 6 rfl rfl rfl (o_boxg rfl) ?_
  refine WPl.v rfl (o_assign rfl) ?_
  refine WPl.nil (EX.then (WP.seq (WP.region ?_)))
  refine WPl.v rfl (o_move rfl) ?_
  refine WPl.v rfl (o_fldp F29_0 rfl) ?_
  refine WPl.v rfl (o_fldp F26_0 rfl) ?_
  refine WPl.v rfl (o_ldp S22 rfl rfl rfl) ?_
  refine WPl.v rfl (o_lenq L22 rfl (lx rfl)) ?_
  refine WPl.v rfl (o_sub rfl rfl (by first | omega | (simp; omega)) (by first | omega | (simp; omega))) ?_
  refine WPl.cs 6 rfl rfl rfl rfl (o_sig 6 id (c140 n 0 ((h.machs.length : Int) - 1)) e140 rfl rfl rfl w140 trivial r140) ?_
  refine WPl.v rfl (o_assign rfl) ?_
  refine WPl.nil (EX.then (WP.ret ?_))
  exact EX.fin id (.inl rfl) rfl (.tmp rfl .nil) rfl r94 trivial (by simp) (by simp)
theorem w146 {h : Hall} {n : Int} : ∀ x ∈ ([.e (.g [.q 0, .q 1, .q 2, ai (h.change)]), .i (n)] : List SV), x.res (keys (α := Pred) [(0, PL ETm (h.machs)), (1, PL EBd (h.buns)), (2, PL EP.int (h.trains))]) := by simp [SV.res, El.res, At.res, keys]
theorem r146 {h : Hall} {n : Int} : SV.res (keys (α := Pred) []) (.b (within n 0 ((h.trains.length : Int) - 1))) := by simp [SV.res, El.res, At.res, keys]
set_option maxHeartbeats 4000000 in
theorem c146 (h : Hall) (n : Int) (hl : h.trains.length ≤ 1000) : Sig Tryz.prog 146 [.e (.g [.q 0, .q 1, .q 2, ai (h.change)]), .i (n)] [(0, PL ETm (h.machs)), (1, PL EBd (h.buns)), (2, PL EP.int (h.trains))] (.b (within n 0 ((h.trains.length : Int) - 1))) [] := by
  refine Sig.intro Tryz.func146 rfl 3 [(0, .e (.g [.q 0, .q 1, .q 2, ai (h.change)])), (1, .i (n))] rfl w146 rfl rfl fun I w => ?_
  refine WP.seq (WP.region ?_)
  refine WPl.l 3 4 rfl rfl rfl (o_boxg rfl) ?_
  refine WPl.v rfl (o_assign rfl) ?_
  refine WPl.nil (EX.then (WP.seq (WP.region ?_)))
  refine WPl.v rfl (o_move rfl) ?_
  refine WPl.v rfl (o_fldp F26_2 rfl) ?_
  refine WPl.v rfl (o_ldp S24 rfl rfl rfl) ?_
  refine WPl.v rfl (o_lenq L24 rfl (lx rfl)) ?_
  refine WPl.v rfl (o_sub rfl rfl (by first | omega | (simp; omega)) (by first | omega | (simp; omega))) ?_
  refine WPl.cs 4 rfl rfl rfl rfl (o_sig 4 id (c125 n 0 ((h.trains.length : Int) - 1)) e125 rfl rfl rfl w125 trivial r125) ?_
  refine WPl.v rfl (o_assign rfl) ?_
  refine WPl.nil (EX.then (WP.ret ?_))
  exact EX.fin id (.inl rfl) rfl (.tmp rfl .nil) rfl r146 trivial (by simp) (by simp)
theorem w169 {h : Hall} {n : Int} : ∀ x ∈ ([.e (.g [.q 0, .q 1, .q 2, ai (h.change)]), .i (n)] : List SV), x.res (keys (α := Pred) [(0, PL ETm (h.machs)), (1, PL EBd (h.buns)), (2, PL EP.int (h.trains))]) := by simp [SV.res, El.res, At.res, keys]
theorem r169 {h : Hall} {n : Int} : SV.res (keys (α := Pred) []) (.b (within n 0 ((h.trains.length : Int) - 1))) := by simp [SV.res, El.res, At.res, keys]
set_option maxHeartbeats 4000000 in
theorem c169 (h : Hall) (n : Int) (hl : h.trains.length ≤ 1000) : Sig Tryz.prog 169 [.e (.g [.q 0, .q 1, .q 2, ai (h.change)]), .i (n)] [(0, PL ETm (h.machs)), (1, PL EBd (h.buns)), (2, PL EP.int (h.trains))] (.b (within n 0 ((h.trains.length : Int) - 1))) [] := by
  refine Sig.intro Tryz.func169 rfl 3 [(0, .e (.g [.q 0, .q 1, .q 2, ai (h.change)])), (1, .i (n))] rfl w169 rfl rfl fun I w => ?_
  refine WP.seq (WP.region ?_)
  refine WPl.l 3 4 rfl rfl rfl (o_boxg rfl) ?_
  refine WPl.v rfl (o_assign rfl) ?_
  refine WPl.nil (EX.then (WP.seq (WP.region ?_)))
  refine WPl.v rfl (o_move rfl) ?_
  refine WPl.v rfl (o_fldp F26_2 rfl) ?_
  refine WPl.v rfl (o_ldp S24 rfl rfl rfl) ?_
  refine WPl.v rfl (o_lenq L24 rfl (lx rfl)) ?_
  refine WPl.v rfl (o_sub rfl rfl (by first | omega | (simp; omega)) (by first | omega | (simp; omega))) ?_
  refine WPl.cs 4 rfl rfl rfl rfl (o_sig 4 id (c164 n 0 ((h.trains.length : Int) - 1)) e164 rfl rfl rfl w164 trivial r164) ?_
  refine WPl.v rfl (o_assign rfl) ?_
  refine WPl.nil (EX.then (WP.ret ?_))
  exact EX.fin id (.inl rfl) rfl (.tmp rfl .nil) rfl r169 trivial (by simp) (by simp)
theorem w56 {b : Book} {n : Int} : ∀ x ∈ ([.e (.g [.q 0, .q 1, .q 2, ai (b.hall.change), .q 3, .q 4, .q 5, .q 6, ai (b.boys), .q 7]), .i (n)] : List SV), x.res (keys (α := Pred) [(0, PL ETm (b.hall.machs)), (1, PL EBd (b.hall.buns)), (2, PL EP.int (b.hall.trains)), (3, PL EP.int (b.hall.bores)), (4, PL (EP.sl EP.int) (b.hall.eds)), (5, PL EPl (b.set)), (6, PL EP.int (b.walk)), (7, PL ETa (b.tals))]) := by simp [SV.res, El.res, At.res, keys]
theorem r56 {b : Book} {n : Int} : SV.res (keys (α := Pred) []) (.b (within n 0 ((b.tals.length : Int) - 1))) := by simp [SV.res, El.res, At.res, keys]
set_option maxHeartbeats 4000000 in
theorem c56 (b : Book) (n : Int) (hl : b.tals.length ≤ 1000) : Sig Tryz.prog 56 [.e (.g [.q 0, .q 1, .q 2, ai (b.hall.change), .q 3, .q 4, .q 5, .q 6, ai (b.boys), .q 7]), .i (n)] [(0, PL ETm (b.hall.machs)), (1, PL EBd (b.hall.buns)), (2, PL EP.int (b.hall.trains)), (3, PL EP.int (b.hall.bores)), (4, PL (EP.sl EP.int) (b.hall.eds)), (5, PL EPl (b.set)), (6, PL EP.int (b.walk)), (7, PL ETa (b.tals))] (.b (within n 0 ((b.tals.length : Int) - 1))) [] := by
  refine Sig.intro Tryz.func56 rfl 8 [(0, .e (.g [.q 0, .q 1, .q 2, ai (b.hall.change), .q 3, .q 4, .q 5, .q 6, ai (b.boys), .q 7])), (1, .i (n))] rfl w56 rfl rfl fun I w => ?_
  refine WP.seq (WP.region ?_)
  refine WPl.l 8 9 rfl rfl rfl (o_boxg rfl) ?_
  refine WPl.v rfl (o_assign rfl) ?_
  refine WPl.nil (EX.then (WP.seq (WP.region ?_)))
  refine WPl.v rfl (o_move rfl) ?_
  refine WPl.v rfl (o_fldp F33_4 rfl) ?_
  refine WPl.v rfl (o_ldp S31 rfl rfl rfl) ?_
  refine WPl.v rfl (o_lenq L31 rfl (lx rfl)) ?_
  refine WPl.v rfl (o_sub rfl rfl (by first | omega | (simp; omega)) (by first | omega | (simp; omega))) ?_
  refine WPl.cs 9 rfl rfl rfl rfl (o_sig 9 id (c88 n 0 ((b.tals.length : Int) - 1)) e88 rfl rfl rfl w88 trivial r88) ?_
  refine WPl.v rfl (o_assign rfl) ?_
  refine WPl.nil (EX.then (WP.ret ?_))
  exact EX.fin id (.inl rfl) rfl (.tmp rfl .nil) rfl r56 trivial (by simp) (by simp)
theorem w104 {b : Book} {n : Int} : ∀ x ∈ ([.e (.g [.q 0, .q 1, .q 2, ai (b.hall.change), .q 3, .q 4, .q 5, .q 6, ai (b.boys), .q 7]), .i (n)] : List SV), x.res (keys (α := Pred) [(0, PL ETm (b.hall.machs)), (1, PL EBd (b.hall.buns)), (2, PL EP.int (b.hall.trains)), (3, PL EP.int (b.hall.bores)), (4, PL (EP.sl EP.int) (b.hall.eds)), (5, PL EPl (b.set)), (6, PL EP.int (b.walk)), (7, PL ETa (b.tals))]) := by simp [SV.res, El.res, At.res, keys]
theorem r104 {b : Book} {n : Int} : SV.res (keys (α := Pred) []) (.b (within n 0 ((b.tals.length : Int) - 1))) := by simp [SV.res, El.res, At.res, keys]
set_option maxHeartbeats 4000000 in
theorem c104 (b : Book) (n : Int) (hl : b.tals.length ≤ 1000) : Sig Tryz.prog 104 [.e (.g [.q 0, .q 1, .q 2, ai (b.hall.change), .q 3, .q 4, .q 5, .q 6, ai (b.boys), .q 7]), .i (n)] [(0, PL ETm (b.hall.machs)), (1, PL EBd (b.hall.buns)), (2, PL EP.int (b.hall.trains)), (3, PL EP.int (b.hall.bores)), (4, PL (EP.sl EP.int) (b.hall.eds)), (5, PL EPl (b.set)), (6, PL EP.int (b.walk)), (7, PL ETa (b.tals))] (.b (within n 0 ((b.tals.length : Int) - 1))) [] := by
  refine Sig.intro Tryz.func104 rfl 8 [(0, .e (.g [.q 0, .q 1, .q 2, ai (b.hall.change), .q 3, .q 4, .q 5, .q 6, ai (b.boys), .q 7])), (1, .i (n))] rfl w104 rfl rfl fun I w => ?_
  refine WP.seq (WP.region ?_)
  refine WPl.l 8 9 rfl rfl rfl (o_boxg rfl) ?_
  refine WPl.v rfl (o_assign rfl) ?_
  refine WPl.nil (EX.then (WP.seq (WP.region ?_)))
  refine WPl.v rfl (o_move rfl) ?_
  refine WPl.v rfl (o_fldp F33_4 rfl) ?_
  refine WPl.v rfl (o_ldp S31 rfl rfl rfl) ?_
  refine WPl.v rfl (o_lenq L31 rfl (lx rfl)) ?_
  refine WPl.v rfl (o_sub rfl rfl (by first | omega | (simp; omega)) (by first | omega | (simp; omega))) ?_
  refine WPl.cs 9 rfl rfl rfl rfl (o_sig 9 id (c79 n 0 ((b.tals.length : Int) - 1)) e79 rfl rfl rfl w79 trivial r79) ?_
  refine WPl.v rfl (o_assign rfl) ?_
  refine WPl.nil (EX.then (WP.ret ?_))
  exact EX.fin id (.inl rfl) rfl (.tmp rfl .nil) rfl r104 trivial (by simp) (by simp)
theorem w58 {b : Book} {n : Int} : ∀ x ∈ ([.e (.g [.q 0, .q 1, .q 2, ai (b.hall.change), .q 3, .q 4, .q 5, .q 6, ai (b.boys), .q 7]), .i (n)] : List SV), x.res (keys (α := Pred) [(0, PL ETm (b.hall.machs)), (1, PL EBd (b.hall.buns)), (2, PL EP.int (b.hall.trains)), (3, PL EP.int (b.hall.bores)), (4, PL (EP.sl EP.int) (b.hall.eds)), (5, PL EPl (b.set)), (6, PL EP.int (b.walk)), (7, PL ETa (b.tals))]) := by simp [SV.res, El.res, At.res, keys]
theorem r58 {b : Book} {n : Int} : SV.res (keys (α := Pred) []) (.b (within n 0 ((b.hall.machs.length : Int) - 1))) := by simp [SV.res, El.res, At.res, keys]
set_option maxHeartbeats 4000000 in
theorem c58 (b : Book) (n : Int) (hl : b.hall.machs.length ≤ 1000) : Sig Tryz.prog 58 [.e (.g [.q 0, .q 1, .q 2, ai (b.hall.change), .q 3, .q 4, .q 5, .q 6, ai (b.boys), .q 7]), .i (n)] [(0, PL ETm (b.hall.machs)), (1, PL EBd (b.hall.buns)), (2, PL EP.int (b.hall.trains)), (3, PL EP.int (b.hall.bores)), (4, PL (EP.sl EP.int) (b.hall.eds)), (5, PL EPl (b.set)), (6, PL EP.int (b.walk)), (7, PL ETa (b.tals))] (.b (within n 0 ((b.hall.machs.length : Int) - 1))) [] := by
  refine Sig.intro Tryz.func58 rfl 8 [(0, .e (.g [.q 0, .q 1, .q 2, ai (b.hall.change), .q 3, .q 4, .q 5, .q 6, ai (b.boys), .q 7])), (1, .i (n))] rfl w58 rfl rfl fun I w => ?_
  refine WP.seq (WP.region ?_)
  refine WPl.l 8 9 rfl rfl rfl (o_boxg rfl) ?_
  refine WPl.v rfl (o_assign rfl) ?_
  refine WPl.nil (EX.then (WP.seq (WP.region ?_)))
  refine WPl.v rfl (o_fldp F33_0 rfl) ?_
  refine WPl.v rfl (o_fldp F29_0 rfl) ?_
  refine WPl.v rfl (o_ldpg G26 rfl rfl rfl) ?_
  refine WPl.v rfl (o_move rfl) ?_
  refine WPl.cs 9 rfl rfl rfl rfl (o_sig 9 (ren [(0, 0), (1, 1), (2, 2)]) (c120 b.hall n (by omega)) e120 rfl rfl rfl w120 ⟨(lx rfl), (lx rfl), (lx rfl), trivial⟩ r120) ?_
  refine WPl.v rfl (o_assign rfl) ?_
  refine WPl.nil (EX.then (WP.ret ?_))
  exact EX.fin id (.inl rfl) rfl (.tmp rfl .nil) rfl r58 trivial (by simp) (by simp)
theorem w78 {b : Book} {n : Int} : ∀ x ∈ ([.e (.g [.q 0, .q 1, .q 2, ai (b.hall.change), .q 3, .q 4, .q 5, .q 6, ai (b.boys), .q 7]), .i (n)] : List SV), x.res (keys (α := Pred) [(0, PL ETm (b.hall.machs)), (1, PL EBd (b.hall.buns)), (2, PL EP.int (b.hall.trains)), (3, PL EP.int (b.hall.bores)), (4, PL (EP.sl EP.int) (b.hall.eds)), (5, PL EPl (b.set)), (6, PL EP.int (b.walk)), (7, PL ETa (b.tals))]) := by simp [SV.res, El.res, At.res, keys]
theorem r78 {b : Book} {n : Int} : SV.res (keys (α := Pred) []) (.b (within n 0 ((b.hall.bores.length : Int) - 1))) := by simp [SV.res, El.res, At.res, keys]
set_option maxHeartbeats 4000000 in
theorem c78 (b : Book) (n : Int) (hl : b.hall.bores.length ≤ 1000) : Sig Tryz.prog 78 [.e (.g [.q 0, .q 1, .q 2, ai (b.hall.change), .q 3, .q 4, .q 5, .q 6, ai (b.boys), .q 7]), .i (n)] [(0, PL ETm (b.hall.machs)), (1, PL EBd (b.hall.buns)), (2, PL EP.int (b.hall.trains)), (3, PL EP.int (b.hall.bores)), (4, PL (EP.sl EP.int) (b.hall.eds)), (5, PL EPl (b.set)), (6, PL EP.int (b.walk)), (7, PL ETa (b.tals))] (.b (within n 0 ((b.hall.bores.length : Int) - 1))) [] := by
  refine Sig.intro Tryz.func78 rfl 8 [(0, .e (.g [.q 0, .q 1, .q 2, ai (b.hall.change), .q 3, .q 4, .q 5, .q 6, ai (b.boys), .q 7])), (1, .i (n))] rfl w78 rfl rfl fun I w => ?_
  refine WP.seq (WP.region ?_)
  refine WPl.l 8 9 rfl rfl rfl (o_boxg rfl) ?_
  refine WPl.v rfl (o_assign rfl) ?_
  refine WPl.nil (EX.then (WP.seq (WP.region ?_)))
  refine WPl.v rfl (o_move rfl) ?_
  refine WPl.v rfl (o_fldp F33_0 rfl) ?_
  refine WPl.v rfl (o_fldp F29_1 rfl) ?_
  refine WPl.v rfl (o_ldp S24 rfl rfl rfl) ?_
  refine WPl.v rfl (o_lenq L24 rfl (lx rfl)) ?_
  refine WPl.v rfl (o_sub rfl rfl (by first | omega | (simp; omega)) (by first | omega | (simp; omega))) ?_
  refine WPl.cs 9 rfl rfl rfl rfl (o_sig 9 id (c79 n 0 ((b.hall.bores.length : Int) - 1)) e79 rfl rfl rfl w79 trivial r79) ?_
  refine WPl.v rfl (o_assign rfl) ?_
  refine WPl.nil (EX.then (WP.ret ?_))
  exact EX.fin id (.inl rfl) rfl (.tmp rfl .nil) rfl r78 trivial (by simp) (by simp)
theorem w109 {b : Book} {n : Int} : ∀ x ∈ ([.e (.g [.q 0, .q 1, .q 2, ai (b.hall.change), .q 3, .q 4, .q 5, .q 6, ai (b.boys), .q 7]), .i (n)] : List SV), x.res (keys (α := Pred) [(0, PL ETm (b.hall.machs)), (1, PL EBd (b.hall.buns)), (2, PL EP.int (b.hall.trains)), (3, PL EP.int (b.hall.bores)), (4, PL (EP.sl EP.int) (b.hall.eds)), (5, PL EPl (b.set)), (6, PL EP.int (b.walk)), (7, PL ETa (b.tals))]) := by simp [SV.res, El.res, At.res, keys]
theorem r109 {b : Book} {n : Int} : SV.res (keys (α := Pred) []) (.b (within n 0 (b.boys - 1))) := by simp [SV.res, El.res, At.res, keys]
set_option maxHeartbeats 4000000 in
theorem c109 (b : Book) (n : Int) (hl : -1000 ≤ b.boys ∧ b.boys ≤ 1000) : Sig Tryz.prog 109 [.e (.g [.q 0, .q 1, .q 2, ai (b.hall.change), .q 3, .q 4, .q 5, .q 6, ai (b.boys), .q 7]), .i (n)] [(0, PL ETm (b.hall.machs)), (1, PL EBd (b.hall.buns)), (2, PL EP.int (b.hall.trains)), (3, PL EP.int (b.hall.bores)), (4, PL (EP.sl EP.int) (b.hall.eds)), (5, PL EPl (b.set)), (6, PL EP.int (b.walk)), (7, PL ETa (b.tals))] (.b (within n 0 (b.boys - 1))) [] := by
  refine Sig.intro Tryz.func109 rfl 8 [(0, .e (.g [.q 0, .q 1, .q 2, ai (b.hall.change), .q 3, .q 4, .q 5, .q 6, ai (b.boys), .q 7])), (1, .i (n))] rfl w109 rfl rfl fun I w => ?_
  refine WP.seq (WP.region ?_)
  refine WPl.l 8 9 rfl rfl rfl (o_boxg rfl) ?_
  refine WPl.v rfl (o_assign rfl) ?_
  refine WPl.nil (EX.then (WP.seq (WP.region ?_)))
  refine WPl.v rfl (o_move rfl) ?_
  refine WPl.v rfl (o_fldp F33_3 rfl) ?_
  refine WPl.v rfl (o_ldp S3 rfl rfl rfl) ?_
  refine WPl.v rfl (o_sub rfl rfl (by first | omega | (simp; omega)) (by first | omega | (simp; omega))) ?_
  refine WPl.cs 9 rfl rfl rfl rfl (o_sig 9 id (c88 n 0 (b.boys - 1)) e88 rfl rfl rfl w88 trivial r88) ?_
  refine WPl.v rfl (o_assign rfl) ?_
  refine WPl.nil (EX.then (WP.ret ?_))
  exact EX.fin id (.inl rfl) rfl (.tmp rfl .nil) rfl r109 trivial (by simp) (by simp)
theorem w101 {p q : Int} : ∀ x ∈ ([.i (p), .i (q)] : List SV), x.res (keys (α := Pred) []) := by simp [SV.res, El.res, At.res, keys]
theorem r101 {p q : Int} : SV.res (keys (α := Pred) []) (.i (plc p q)) := by simp [SV.res, El.res, At.res, keys]
set_option maxHeartbeats 4000000 in
theorem c101 (p q : Int) (hp : -1000000 ≤ p ∧ p ≤ 1000000) (hq : -1000000 ≤ q ∧ q ≤ 1000000) : Sig Tryz.prog 101 [.i (p), .i (q)] [] (.i (plc p q)) [] := by
  refine Sig.intro Tryz.func101 rfl 0 [(0, .i (p)), (1, .i (q))] rfl w101 rfl rfl fun I w => ?_
  refine WP.seq (WP.region ?_)
  refine WPl.v rfl (o_assign rfl) ?_
  refine WPl.nil (EX.then (WP.seq (WP.region ?_)))
  refine WPl.v rfl (o_move rfl) ?_
  refine WPl.v rfl (o_mul rfl rfl (by first | omega | (simp; omega)) (by first | omega | (simp; omega))) ?_
  refine WPl.v rfl (o_move rfl) ?_
  refine WPl.v rfl (o_add rfl rfl (by first | omega | (simp; omega)) (by first | omega | (simp; omega))) ?_
  refine WPl.v rfl (o_assign rfl) ?_
  refine WPl.nil (EX.then (WP.ret ?_))
  exact EX.fin id (.inl rfl) rfl (.tmp rfl .nil) rfl r101 trivial (by simp) (by simp)
theorem w124 {h : Hall} : ∀ x ∈ ([.e (.g [.q 0, .q 1, .q 2, ai (h.change)])] : List SV), x.res (keys (α := Pred) [(0, PL ETm (h.machs)), (1, PL EBd (h.buns)), (2, PL EP.int (h.trains))]) := by simp [SV.res, El.res, At.res, keys]
theorem r124 {h : Hall} : SV.res (keys (α := Pred) []) (.i (errH h.house)) := by simp [SV.res, El.res, At.res, keys]
set_option maxHeartbeats 4000000 in
theorem c124 (h : Hall) (hm : h.Small) : Sig Tryz.prog 124 [.e (.g [.q 0, .q 1, .q 2, ai (h.change)])] [(0, PL ETm (h.machs)), (1, PL EBd (h.buns)), (2, PL EP.int (h.trains))] (.i (errH h.house)) [] := by
  have hm1 := hm.m
  have hm2 := hm.b
  have hm3 := hm.t
  refine Sig.intro Tryz.func124 rfl 3 [(0, .e (.g [.q 0, .q 1, .q 2, ai (h.change)]))] rfl w124 rfl rfl fun I w => ?_
  refine WP.seq (WP.region ?_)
  refine WPl.l 3 4 rfl rfl rfl (o_boxg rfl) ?_
  refine WPl.v rfl (o_assign rfl) ?_
  refine WPl.nil (EX.then (WP.seq (WP.seq (WP.region ?_))))
  refine WPl.v rfl (o_fldp F26_0 rfl) ?_
  refine WPl.v rfl (o_ldp S22 rfl rfl rfl) ?_
  refine WPl.v rfl (o_lenq L22 rfl (lx rfl)) ?_
  refine WPl.cs 4 rfl rfl rfl rfl (o_sig 4 id (c125 (h.machs.length : Int) 1 3) e125 rfl rfl rfl w125 trivial r125) ?_
  refine WPl.v rfl (o_not rfl) ?_
  refine WPl.v rfl (o_move rfl) ?_
  refine WPl.bit 4 5 (!(!(within (h.machs.length : Int) 1 3))) rfl rfl ?_
  refine WPl.gv 4 rfl rfl (.plain rfl (by first | (simp; done) | simp only [Bool.not_eq_true']) rfl) (fun hb => o_fldp F26_2 rfl) ?_
  refine WPl.gv 4 rfl rfl (.plain rfl (by first | (simp; done) | simp only [Bool.not_eq_true']) rfl) (fun hb => o_ldp S24 rfl rfl rfl) ?_
  refine WPl.gv 4 rfl rfl (.plain rfl (by first | (simp; done) | simp only [Bool.not_eq_true']) rfl) (fun hb => o_lenq L24 rfl (lx rfl)) ?_
  refine WPl.gv 4 rfl rfl (.plain rfl (by first | (simp; done) | simp only [Bool.not_eq_true']) rfl) (fun hb => o_gtr rfl rfl) ?_
  refine WPl.v rfl (o_or rfl rfl rfl (by first | (simp; done) | exact fun h => by rw [h]; rfl | exact fun h => Bool.and_eq_true_iff.2 ⟨hb, by rw [h]; rfl⟩ | simp_all)) ?_
  refine WPl.v rfl (o_move rfl) ?_
  refine WPl.bit 5 6 (!((!(within (h.machs.length : Int) 1 3)) || (decide (4 < (h.trains.length : Int))))) rfl rfl ?_
  refine WPl.gv 5 rfl rfl (.plain rfl (by first | (simp; done) | simp only [Bool.not_eq_true']) rfl) (fun hb => o_fldp F26_1 rfl) ?_
  refine WPl.gv 5 rfl rfl (.plain rfl (by first | (simp; done) | simp only [Bool.not_eq_true']) rfl) (fun hb => o_ldp S23 rfl rfl rfl) ?_
  refine WPl.gv 5 rfl rfl (.plain rfl (by first | (simp; done) | simp only [Bool.not_eq_true']) rfl) (fun hb => o_lenq L23 rfl (lx rfl)) ?_
  refine WPl.gv 5 rfl rfl (.plain rfl (by first | (simp; done) | simp only [Bool.not_eq_true']) rfl) (fun hb => o_gtr rfl rfl) ?_
  refine WPl.v rfl (o_or rfl rfl rfl (by first | (simp; done) | exact fun h => by rw [h]; rfl | exact fun h => Bool.and_eq_true_iff.2 ⟨hb, by rw [h]; rfl⟩ | simp_all)) ?_
  refine WPl.v rfl (o_move rfl) ?_
  refine WPl.bit 6 7 (!(((!(within (h.machs.length : Int) 1 3)) || (decide (4 < (h.trains.length : Int)))) || (decide (5 < (h.buns.length : Int))))) rfl rfl ?_
  refine WPl.gv 6 rfl rfl (.plain rfl (by first | (simp; done) | simp only [Bool.not_eq_true']) rfl) (fun hb => o_fldp F26_3 rfl) ?_
  refine WPl.gv 6 rfl rfl (.plain rfl (by first | (simp; done) | simp only [Bool.not_eq_true']) rfl) (fun hb => o_ldp S3 rfl rfl rfl) ?_
  refine WPl.gc0 6 rfl rfl (.plain rfl (by first | (simp; done) | simp only [Bool.not_eq_true']) rfl) (fun hb => o_sig 7 id (c125 h.change 0 9) e125 rfl rfl rfl w125 trivial r125) ?_
  refine WPl.gv 6 rfl rfl (.plain rfl (by first | (simp; done) | simp only [Bool.not_eq_true']) rfl) (fun hb => o_not rfl) ?_
  refine WPl.v rfl (o_or rfl rfl rfl (by first | (simp; done) | exact fun h => by rw [h]; rfl | exact fun h => Bool.and_eq_true_iff.2 ⟨hb, by rw [h]; rfl⟩ | simp_all)) ?_
  refine WPl.nil (EX.then ?_)
  refine WP.cond rfl (fun hc1 => ?_) (fun hc1 => ?_)
  · try simp only [cnd] at hc1
    refine WP.seq (WP.region ?_)
    refine WPl.v rfl (o_assign rfl) ?_
    refine WPl.nil (EX.then (WP.ret (EX.ret_then ?_)))
    rw [show errH h.house = 40 from by rw [show h.house = false from by unfold Hall.house; rw [show h.houseHd = false from by simp [Hall.houseHd, within] at hc1 ⊢; omega]; simp]; rfl]
    exact EX.fin id (.inl rfl) rfl (.tmp rfl .nil) rfl (by simp [SV.res, El.res, At.res, keys]) trivial (by simp) (by simp)
  · try simp only [cnd] at hc1
    have hhd : h.houseHd = true := by simp [Hall.houseHd, within] at hc1 ⊢; omega
    refine WP.skip (EX.then (WP.seq (WP.seq (WP.region ?_))))
    refine WPl.v rfl (o_assign rfl) ?_
    refine WPl.nil (EX.then (WP.block ?_))
    refine WP.loop (Gh := Nat) (fun i => ⟨7, [(1, .e (.a (.p 3 (0)))), (2, .i (0)), (3, .i ((i : Int)))], [(0, PL ETm (h.machs)), (1, PL EBd (h.buns)), (2, PL EP.int (h.trains))], [(3, .blk [.q 0, .q 1, .q 2, ai (h.change)] 26)], [], []⟩) (fun i => i ≤ h.machs.length ∧ allI h.macOK i = true) (fun i => h.machs.length - i) (0) id ?_ (LeR.of ⟨rfl, rfl, rfl, trivial⟩ ⟨(lx rfl), (lx rfl), (lx rfl), trivial⟩ ⟨rfl, trivial⟩ rfl rfl rfl rfl rfl) ?_
    · exact ⟨by omega, rfl⟩
    intro i hφ
    have hi : i ≤ h.machs.length := hφ.1
    have hall := hφ.2
    refine WP.seq (WP.seq (WP.region ?_))
    refine WPl.v rfl (o_move rfl) ?_
    refine WPl.v rfl (o_fldp F26_0 rfl) ?_
    refine WPl.v rfl (o_ldp S22 rfl rfl rfl) ?_
    refine WPl.v rfl (o_lenq L22 rfl (lx rfl)) ?_
    refine WPl.v rfl (o_lss rfl rfl) ?_
    refine WPl.nil (EX.then ?_)
    refine WP.cond rfl (fun hc2 => ?_) (fun hc2 => ?_)
    · try simp only [cnd] at hc2
      refine WP.skip (EX.then (WP.seq (WP.block (WP.seq (WP.region ?_)))))
      refine WPl.v rfl (o_fldp F26_0 rfl) ?_
      refine WPl.v rfl (o_ldp S22 rfl rfl rfl) ?_
      refine WPl.v rfl (o_move rfl) ?_
      refine WPl.x 7 8 rfl rfl rfl (o_idx L22 rfl (lx rfl) rfl (by first | omega | (simp; omega)) (by first | omega | (simp; omega))) ?_
      refine WPl.v rfl (o_ldqg G156 rfl (lx rfl) (strG rfl) rfl rfl) ?_
      refine WPl.l 8 9 rfl rfl rfl (o_alloc Z156) ?_
      refine WPl.s1 (o_stag G156 rfl rfl rfl ⟨rfl, rfl, rfl, trivial⟩ rfl rfl) ?_
      refine WPl.nil (EX.then (WP.seq (WP.region ?_)))
      refine WPl.v rfl (o_fldp F156_0 rfl) ?_
      refine WPl.v rfl (o_ldp S3 rfl rfl rfl) ?_
      refine WPl.cs 9 rfl rfl rfl rfl (o_sig 9 id (c125 ((nth h.machs (i : Int)).ready) 0 99) e125 rfl rfl rfl w125 trivial r125) ?_
      refine WPl.v rfl (o_not rfl) ?_
      refine WPl.v rfl (o_move rfl) ?_
      refine WPl.bit 9 10 (!(!(within ((nth h.machs (i : Int)).ready) 0 99))) rfl rfl ?_
      refine WPl.gv 9 rfl rfl (.plain rfl (by first | (simp; done) | simp only [Bool.not_eq_true']) rfl) (fun hb => o_fldp F156_1 rfl) ?_
      refine WPl.gv 9 rfl rfl (.plain rfl (by first | (simp; done) | simp only [Bool.not_eq_true']) rfl) (fun hb => o_ldp S3 rfl rfl rfl) ?_
      refine WPl.gc0 9 rfl rfl (.plain rfl (by first | (simp; done) | simp only [Bool.not_eq_true']) rfl) (fun hb => o_sig 10 id (c125 ((nth h.machs (i : Int)).pace) 1 9) e125 rfl rfl rfl w125 trivial r125) ?_
      refine WPl.gv 9 rfl rfl (.plain rfl (by first | (simp; done) | simp only [Bool.not_eq_true']) rfl) (fun hb => o_not rfl) ?_
      refine WPl.v rfl (o_or rfl rfl rfl (by first | (simp; done) | exact fun h => by rw [h]; rfl | exact fun h => Bool.and_eq_true_iff.2 ⟨hb, by rw [h]; rfl⟩ | simp_all)) ?_
      refine WPl.v rfl (o_move rfl) ?_
      refine WPl.bit 10 11 (!((!(within ((nth h.machs (i : Int)).ready) 0 99)) || (!(within ((nth h.machs (i : Int)).pace) 1 9)))) rfl rfl ?_
      refine WPl.gv 10 rfl rfl (.plain rfl (by first | (simp; done) | simp only [Bool.not_eq_true']) rfl) (fun hb => o_fldp F156_2 rfl) ?_
      refine WPl.gv 10 rfl rfl (.plain rfl (by first | (simp; done) | simp only [Bool.not_eq_true']) rfl) (fun hb => o_ldp S3 rfl rfl rfl) ?_
      refine WPl.gc0 10 rfl rfl (.plain rfl (by first | (simp; done) | simp only [Bool.not_eq_true']) rfl) (fun hb => o_sig 11 id (c125 ((nth h.machs (i : Int)).stops) 0 1) e125 rfl rfl rfl w125 trivial r125) ?_
      refine WPl.gv 10 rfl rfl (.plain rfl (by first | (simp; done) | simp only [Bool.not_eq_true']) rfl) (fun hb => o_not rfl) ?_
      refine WPl.v rfl (o_or rfl rfl rfl (by first | (simp; done) | exact fun h => by rw [h]; rfl | exact fun h => Bool.and_eq_true_iff.2 ⟨hb, by rw [h]; rfl⟩ | simp_all)) ?_
      refine WPl.nil (EX.then ?_)
      refine WP.cond rfl (fun hc3 => ?_) (fun hc3 => ?_)
      · try simp only [cnd] at hc3
        refine WP.seq (WP.region ?_)
        refine WPl.v rfl (o_assign rfl) ?_
        refine WPl.nil (EX.then (WP.ret (EX.ret_blk (EX.ret_then (EX.ret_then (EX.ret_blk (EX.ret_then ?_)))))))
        rw [show errH h.house = 40 from by rw [show h.house = false from by unfold Hall.house; rw [show allI h.macOK h.machs.length = false from not_allI (show i < h.machs.length by omega) (by unfold Hall.macOK TM.chk; simp only [Bool.and_eq_false_iff]; exact hc3)]; simp]; rfl]
        exact EX.fin id (.inl rfl) rfl (.tmp rfl .nil) rfl (by simp [SV.res, El.res, At.res, keys]) trivial (by simp) (by simp)
      · try simp only [cnd] at hc3
        refine WP.skip (EX.blk (EX.then (WP.region ?_)))
        refine WPl.v rfl (o_move rfl) ?_
        refine WPl.v rfl (o_add rfl rfl (by first | omega | (simp; omega)) (by first | omega | (simp; omega))) ?_
        refine WPl.v rfl (o_assign rfl) ?_
        refine WPl.nil ?_
        refine EX.again (i + 1) id (by exact ⟨by omega, by simp only [allI, hall, Bool.true_and]; simpa [Hall.macOK, TM.chk, and_assoc] using hc3⟩) (by omega) (LeR.of ⟨rfl, rfl, rfl, trivial⟩ ⟨(lx rfl), (lx rfl), (lx rfl), trivial⟩ ⟨rfl, trivial⟩ rfl rfl rfl rfl rfl)
    · try simp only [cnd] at hc2
      have ha1 : allI h.macOK h.machs.length = true := by rw [show h.machs.length = i by omega]; exact hall
      refine WP.exit (EX.exit_then (EX.exit_then (EX.exit_blk (EX.then (WP.seq (WP.seq (WP.region ?_)))))))
      refine WPl.v rfl (o_assign rfl) ?_
      refine WPl.nil (EX.then (WP.block ?_))
      refine WP.loop (Gh := Nat) (fun i => ⟨7, [(1, .e (.a (.p 3 (0)))), (2, .i (0)), (5, .i ((i : Int)))], [(0, PL ETm (h.machs)), (1, PL EBd (h.buns)), (2, PL EP.int (h.trains))], [(3, .blk [.q 0, .q 1, .q 2, ai (h.change)] 26)], [], []⟩) (fun i => i ≤ h.trains.length ∧ allI h.minOK i = true) (fun i => h.trains.length - i) (0) id ?_ (LeR.of ⟨rfl, rfl, rfl, trivial⟩ ⟨(lx rfl), (lx rfl), (lx rfl), trivial⟩ ⟨rfl, trivial⟩ rfl rfl rfl rfl rfl) ?_
      · exact ⟨by omega, rfl⟩
      intro i hφ
      have hi : i ≤ h.trains.length := hφ.1
      have hall := hφ.2
      refine WP.seq (WP.seq (WP.region ?_))
      refine WPl.v rfl (o_move rfl) ?_
      refine WPl.v rfl (o_fldp F26_2 rfl) ?_
      refine WPl.v rfl (o_ldp S24 rfl rfl rfl) ?_
      refine WPl.v rfl (o_lenq L24 rfl (lx rfl)) ?_
      refine WPl.v rfl (o_lss rfl rfl) ?_
      refine WPl.nil (EX.then ?_)
      refine WP.cond rfl (fun hc4 => ?_) (fun hc4 => ?_)
      · try simp only [cnd] at hc4
        refine WP.skip (EX.then (WP.seq (WP.block (WP.seq (WP.region ?_)))))
        refine WPl.v rfl (o_fldp F26_2 rfl) ?_
        refine WPl.v rfl (o_ldp S24 rfl rfl rfl) ?_
        refine WPl.v rfl (o_move rfl) ?_
        refine WPl.x 7 8 rfl rfl rfl (o_idx L24 rfl (lx rfl) rfl (by first | omega | (simp; omega)) (by first | omega | (simp; omega))) ?_
        refine WPl.v rfl (o_ldq S3 rfl (lx rfl) intc) ?_
        refine WPl.cs 8 rfl rfl rfl rfl (o_sig 8 id (c125 (nth h.trains (i : Int)) 0 99) e125 rfl rfl rfl w125 trivial r125) ?_
        refine WPl.v rfl (o_not rfl) ?_
        refine WPl.nil (EX.then ?_)
        refine WP.cond rfl (fun hc5 => ?_) (fun hc5 => ?_)
        · try simp only [cnd] at hc5
          refine WP.seq (WP.region ?_)
          refine WPl.v rfl (o_assign rfl) ?_
          refine WPl.nil (EX.then (WP.ret (EX.ret_blk (EX.ret_then (EX.ret_then (EX.ret_blk (EX.ret_then ?_)))))))
          rw [show errH h.house = 40 from by rw [show h.house = false from by unfold Hall.house; rw [show allI h.minOK h.trains.length = false from not_allI (show i < h.trains.length by omega) (by unfold Hall.minOK; exact hc5)]; simp]; rfl]
          exact EX.fin id (.inl rfl) rfl (.tmp rfl .nil) rfl (by simp [SV.res, El.res, At.res, keys]) trivial (by simp) (by simp)
        · try simp only [cnd] at hc5
          refine WP.skip (EX.blk (EX.then (WP.region ?_)))
          refine WPl.v rfl (o_move rfl) ?_
          refine WPl.v rfl (o_add rfl rfl (by first | omega | (simp; omega)) (by first | omega | (simp; omega))) ?_
          refine WPl.v rfl (o_assign rfl) ?_
          refine WPl.nil ?_
          refine EX.again (i + 1) id (by exact ⟨by omega, by simp only [allI, hall, Bool.true_and]; simpa [Hall.minOK] using hc5⟩) (by omega) (LeR.of ⟨rfl, rfl, rfl, trivial⟩ ⟨(lx rfl), (lx rfl), (lx rfl), trivial⟩ ⟨rfl, trivial⟩ rfl rfl rfl rfl rfl)
      · try simp only [cnd] at hc4
        have ha2 : allI h.minOK h.trains.length = true := by rw [show h.trains.length = i by omega]; exact hall
        refine WP.exit (EX.exit_then (EX.exit_then (EX.exit_blk (EX.then (WP.seq (WP.seq (WP.region ?_)))))))
        refine WPl.v rfl (o_assign rfl) ?_
        refine WPl.nil (EX.then (WP.block ?_))
        refine WP.loop (Gh := Nat) (fun i => ⟨7, [(1, .e (.a (.p 3 (0)))), (2, .i (0)), (6, .i ((i : Int)))], [(0, PL ETm (h.machs)), (1, PL EBd (h.buns)), (2, PL EP.int (h.trains))], [(3, .blk [.q 0, .q 1, .q 2, ai (h.change)] 26)], [], []⟩) (fun i => i ≤ h.buns.length ∧ allI h.bunOK i = true) (fun i => h.buns.length - i) (0) id ?_ (LeR.of ⟨rfl, rfl, rfl, trivial⟩ ⟨(lx rfl), (lx rfl), (lx rfl), trivial⟩ ⟨rfl, trivial⟩ rfl rfl rfl rfl rfl) ?_
        · exact ⟨by omega, rfl⟩
        intro i hφ
        have hi : i ≤ h.buns.length := hφ.1
        have hall := hφ.2
        refine WP.seq (WP.seq (WP.region ?_))
        refine WPl.v rfl (o_move rfl) ?_
        refine WPl.v rfl (o_fldp F26_1 rfl) ?_
        refine WPl.v rfl (o_ldp S23 rfl rfl rfl) ?_
        refine WPl.v rfl (o_lenq L23 rfl (lx rfl)) ?_
        refine WPl.v rfl (o_lss rfl rfl) ?_
        refine WPl.nil (EX.then ?_)
        refine WP.cond rfl (fun hc6 => ?_) (fun hc6 => ?_)
        · try simp only [cnd] at hc6
          refine WP.skip (EX.then (WP.seq (WP.block (WP.seq (WP.region ?_)))))
          refine WPl.v rfl (o_fldp F26_1 rfl) ?_
          refine WPl.v rfl (o_ldp S23 rfl rfl rfl) ?_
          refine WPl.v rfl (o_move rfl) ?_
          refine WPl.x 7 8 rfl rfl rfl (o_idx L23 rfl (lx rfl) rfl (by first | omega | (simp; omega)) (by first | omega | (simp; omega))) ?_
          refine WPl.v rfl (o_ldqg G95 rfl (lx rfl) (strG rfl) rfl rfl) ?_
          refine WPl.l 8 9 rfl rfl rfl (o_alloc Z95) ?_
          refine WPl.s1 (o_stag G95 rfl rfl rfl ⟨rfl, rfl, rfl, trivial⟩ rfl rfl) ?_
          refine WPl.nil (EX.then (WP.seq (WP.region ?_)))
          refine WPl.v rfl (o_ldpa G26 rfl rfl rfl) ?_
          refine WPl.v rfl (o_fldp F95_0 rfl) ?_
          refine WPl.v rfl (o_ldp S3 rfl rfl rfl) ?_
          refine WPl.cs 9 rfl rfl rfl rfl (o_sig 9 (ren [(0, 0), (1, 1), (2, 2)]) (c146 h ((nth h.buns (i : Int)).train) (by omega)) e146 rfl rfl rfl w146 ⟨(lx rfl), (lx rfl), (lx rfl), trivial⟩ r146) ?_
          refine WPl.v rfl (o_not rfl) ?_
          refine WPl.v rfl (o_move rfl) ?_
          refine WPl.bit 9 10 (!(!(within ((nth h.buns (i : Int)).train) 0 ((h.trains.length : Int) - 1)))) rfl rfl ?_
          refine WPl.gv 9 rfl rfl (.plain rfl (by first | (simp; done) | simp only [Bool.not_eq_true']) rfl) (fun hb => o_fldp F95_1 rfl) ?_
          refine WPl.gv 9 rfl rfl (.plain rfl (by first | (simp; done) | simp only [Bool.not_eq_true']) rfl) (fun hb => o_ldp S3 rfl rfl rfl) ?_
          refine WPl.gc0 9 rfl rfl (.plain rfl (by first | (simp; done) | simp only [Bool.not_eq_true']) rfl) (fun hb => o_sig 10 id (c125 ((nth h.buns (i : Int)).hundreds) 1 9) e125 rfl rfl rfl w125 trivial r125) ?_
          refine WPl.gv 9 rfl rfl (.plain rfl (by first | (simp; done) | simp only [Bool.not_eq_true']) rfl) (fun hb => o_not rfl) ?_
          refine WPl.v rfl (o_or rfl rfl rfl (by first | (simp; done) | exact fun h => by rw [h]; rfl | exact fun h => Bool.and_eq_true_iff.2 ⟨hb, by rw [h]; rfl⟩ | simp_all)) ?_
          refine WPl.v rfl (o_move rfl) ?_
          refine WPl.bit 10 11 (!((!(within ((nth h.buns (i : Int)).train) 0 ((h.trains.length : Int) - 1))) || (!(within ((nth h.buns (i : Int)).hundreds) 1 9)))) rfl rfl ?_
          refine WPl.gv 10 rfl rfl (.plain rfl (by first | (simp; done) | simp only [Bool.not_eq_true']) rfl) (fun hb => o_fldp F95_2 rfl) ?_
          refine WPl.gv 10 rfl rfl (.plain rfl (by first | (simp; done) | simp only [Bool.not_eq_true']) rfl) (fun hb => o_ldp S3 rfl rfl rfl) ?_
          refine WPl.gc0 10 rfl rfl (.plain rfl (by first | (simp; done) | simp only [Bool.not_eq_true']) rfl) (fun hb => o_sig 11 id (c125 ((nth h.buns (i : Int)).edition) 0 3) e125 rfl rfl rfl w125 trivial r125) ?_
          refine WPl.gv 10 rfl rfl (.plain rfl (by first | (simp; done) | simp only [Bool.not_eq_true']) rfl) (fun hb => o_not rfl) ?_
          refine WPl.v rfl (o_or rfl rfl rfl (by first | (simp; done) | exact fun h => by rw [h]; rfl | exact fun h => Bool.and_eq_true_iff.2 ⟨hb, by rw [h]; rfl⟩ | simp_all)) ?_
          refine WPl.nil (EX.then ?_)
          refine WP.cond rfl (fun hc7 => ?_) (fun hc7 => ?_)
          · try simp only [cnd] at hc7
            refine WP.seq (WP.region ?_)
            refine WPl.v rfl (o_assign rfl) ?_
            refine WPl.nil (EX.then (WP.ret (EX.ret_blk (EX.ret_then (EX.ret_then (EX.ret_blk (EX.ret_then ?_)))))))
            rw [show errH h.house = 40 from by rw [show h.house = false from by unfold Hall.house; rw [show allI h.bunOK h.buns.length = false from not_allI (show i < h.buns.length by omega) (by unfold Hall.bunOK TBd.chk; simp only [Bool.and_eq_false_iff]; exact hc7)]; simp]; rfl]
            exact EX.fin id (.inl rfl) rfl (.tmp rfl .nil) rfl (by simp [SV.res, El.res, At.res, keys]) trivial (by simp) (by simp)
          · try simp only [cnd] at hc7
            refine WP.skip (EX.blk (EX.then (WP.region ?_)))
            refine WPl.v rfl (o_move rfl) ?_
            refine WPl.v rfl (o_add rfl rfl (by first | omega | (simp; omega)) (by first | omega | (simp; omega))) ?_
            refine WPl.v rfl (o_assign rfl) ?_
            refine WPl.nil ?_
            refine EX.again (i + 1) id (by exact ⟨by omega, by simp only [allI, hall, Bool.true_and]; simpa [Hall.bunOK, TBd.chk, and_assoc] using hc7⟩) (by omega) (LeR.of ⟨rfl, rfl, rfl, trivial⟩ ⟨(lx rfl), (lx rfl), (lx rfl), trivial⟩ ⟨rfl, trivial⟩ rfl rfl rfl rfl rfl)
        · try simp only [cnd] at hc6
          refine WP.exit (EX.exit_then (EX.exit_then (EX.exit_blk (EX.then (WP.seq (WP.region ?_))))))
          refine WPl.v rfl (o_assign rfl) ?_
          refine WPl.nil (EX.then (WP.ret ?_))
          rw [show errH h.house = 0 from errH_eq.2 (by unfold Hall.house; rw [hhd, ha1, ha2, show allI h.bunOK h.buns.length = true from by rw [show h.buns.length = i by omega]; exact hall]; rfl)]
          exact EX.fin id (.inl rfl) rfl (.tmp rfl .nil) rfl (by simp [SV.res, El.res, At.res, keys]) trivial (by simp) (by simp)
theorem w32 {l : List Plate} : ∀ x ∈ ([.e (.a (.q 0))] : List SV), x.res (keys (α := Pred) [(0, PL EPl (l))]) := by simp [SV.res, El.res, At.res, keys]
theorem r32 {l : List Plate} : SV.res (keys (α := Pred) []) (.b (isSet l)) := by simp [SV.res, El.res, At.res, keys]
set_option maxHeartbeats 4000000 in
theorem c32 (l : List Plate) (hl : l.length ≤ 1000) : Sig Tryz.prog 32 [.e (.a (.q 0))] [(0, PL EPl (l))] (.b (isSet l)) [] := by
  refine Sig.intro Tryz.func32 rfl 1 [(0, .e (.a (.q 0)))] rfl w32 rfl rfl fun I w => ?_
  refine WP.seq (WP.region ?_)
  refine WPl.v rfl (o_assign rfl) ?_
  refine WPl.nil (EX.then (WP.seq (WP.seq (WP.region ?_))))
  refine WPl.v rfl (o_assign rfl) ?_
  refine WPl.nil (EX.then (WP.block ?_))
  refine WP.loop (Gh := Nat) (fun i => ⟨1, [(0, .e (.a (.q 0))), (2, .b (false)), (3, .i ((i : Int)))], [(0, PL EPl (l))], [], [], []⟩) (fun i => i ≤ l.length ∧ allI (setAt l) i = true) (fun i => l.length - i) (0) id ?_ (LeR.of ⟨rfl, rfl, rfl, trivial⟩ ⟨(lx rfl), trivial⟩ trivial rfl rfl rfl rfl rfl) ?_
  · exact ⟨by omega, rfl⟩
  intro i hφ
  have hi : i ≤ l.length := hφ.1
  have hall := hφ.2
  refine WP.seq (WP.seq (WP.region ?_))
  refine WPl.v rfl (o_move rfl) ?_
  refine WPl.v rfl (o_move rfl) ?_
  refine WPl.v rfl (o_lenq L30 rfl (lx rfl)) ?_
  refine WPl.v rfl (o_lss rfl rfl) ?_
  refine WPl.nil (EX.then ?_)
  refine WP.cond rfl (fun hc1 => ?_) (fun hc1 => ?_)
  · try simp only [cnd] at hc1
    refine WP.skip (EX.then (WP.seq (WP.block (WP.seq (WP.region ?_)))))
    refine WPl.v rfl (o_move rfl) ?_
    refine WPl.v rfl (o_move rfl) ?_
    refine WPl.x 1 2 rfl rfl rfl (o_idx L30 rfl (lx rfl) rfl (by first | omega | (simp; omega)) (by first | omega | (simp; omega))) ?_
    refine WPl.v rfl (o_ldqg G77 rfl (lx rfl) (strG rfl) rfl rfl) ?_
    refine WPl.l 2 3 rfl rfl rfl (o_alloc Z77) ?_
    refine WPl.s1 (o_stag G77 rfl rfl rfl ⟨rfl, rfl, rfl, trivial⟩ rfl rfl) ?_
    refine WPl.nil (EX.then (WP.seq (WP.seq (WP.region ?_))))
    refine WPl.v rfl (o_fldp F77_0 rfl) ?_
    refine WPl.v rfl (o_ldp S3 rfl rfl rfl) ?_
    refine WPl.cs 3 rfl rfl rfl rfl (o_sig 3 id (c100 ((nth l (i : Int)).page) 0 3) e100 rfl rfl rfl w100 trivial r100) ?_
    refine WPl.v rfl (o_not rfl) ?_
    refine WPl.v rfl (o_move rfl) ?_
    refine WPl.bit 3 4 (!(!(within ((nth l (i : Int)).page) 0 3))) rfl rfl ?_
    refine WPl.gv 3 rfl rfl (.plain rfl (by first | (simp; done) | simp only [Bool.not_eq_true']) rfl) (fun hb => o_fldp F77_1 rfl) ?_
    refine WPl.gv 3 rfl rfl (.plain rfl (by first | (simp; done) | simp only [Bool.not_eq_true']) rfl) (fun hb => o_ldp S3 rfl rfl rfl) ?_
    refine WPl.gc0 3 rfl rfl (.plain rfl (by first | (simp; done) | simp only [Bool.not_eq_true']) rfl) (fun hb => o_sig 4 id (c100 ((nth l (i : Int)).bore) 0 2) e100 rfl rfl rfl w100 trivial r100) ?_
    refine WPl.gv 3 rfl rfl (.plain rfl (by first | (simp; done) | simp only [Bool.not_eq_true']) rfl) (fun hb => o_not rfl) ?_
    refine WPl.v rfl (o_or rfl rfl rfl (by first | (simp; done) | exact fun h => by rw [h]; rfl | exact fun h => Bool.and_eq_true_iff.2 ⟨hb, by rw [h]; rfl⟩ | simp_all)) ?_
    refine WPl.v rfl (o_move rfl) ?_
    refine WPl.bit 4 5 (!((!(within ((nth l (i : Int)).page) 0 3)) || (!(within ((nth l (i : Int)).bore) 0 2)))) rfl rfl ?_
    refine WPl.gv 4 rfl rfl (.plain rfl (by first | (simp; done) | simp only [Bool.not_eq_true']) rfl) (fun hb => o_fldp F77_2 rfl) ?_
    refine WPl.gv 4 rfl rfl (.plain rfl (by first | (simp; done) | simp only [Bool.not_eq_true']) rfl) (fun hb => o_ldp S3 rfl rfl rfl) ?_
    refine WPl.gc0 4 rfl rfl (.plain rfl (by first | (simp; done) | simp only [Bool.not_eq_true']) rfl) (fun hb => o_sig 5 id (c100 ((nth l (i : Int)).many) 1 9) e100 rfl rfl rfl w100 trivial r100) ?_
    refine WPl.gv 4 rfl rfl (.plain rfl (by first | (simp; done) | simp only [Bool.not_eq_true']) rfl) (fun hb => o_not rfl) ?_
    refine WPl.v rfl (o_or rfl rfl rfl (by first | (simp; done) | exact fun h => by rw [h]; rfl | exact fun h => Bool.and_eq_true_iff.2 ⟨hb, by rw [h]; rfl⟩ | simp_all)) ?_
    refine WPl.nil (EX.then ?_)
    refine WP.cond rfl (fun hc2 => ?_) (fun hc2 => ?_)
    · try simp only [cnd] at hc2
      refine WP.seq (WP.region ?_)
      refine WPl.v rfl (o_assign rfl) ?_
      refine WPl.nil (EX.then (WP.ret (EX.ret_then (EX.ret_blk (EX.ret_then (EX.ret_then (EX.ret_blk (EX.ret_then ?_))))))))
      rw [show isSet l = false from not_allI (show i < l.length by omega) (by unfold setAt; rw [show (nth l (i : Int)).chk = false from by unfold Plate.chk; simp only [Bool.and_eq_false_iff]; exact hc2]; rfl)]
      exact EX.fin id (.inl rfl) rfl (.tmp rfl .nil) rfl (by simp [SV.res, El.res, At.res, keys]) trivial (by simp) (by simp)
    · try simp only [cnd] at hc2
      have hpk : (nth l (i : Int)).chk = true := by simp only [Plate.chk, Bool.and_eq_true]; exact hc2
      have hpb := Plate.bnds hpk
      refine WP.skip (EX.then (WP.seq ?_))
      refine WP.imp (Imp.bit 5 6 (decide (0 < (i : Int))) rfl rfl) ?_
      refine WP.draw (nf := 8) [⟨[], [], [], [], []⟩, ⟨[], [], [], [], [0]⟩, ⟨[], [], [], [], [0, 1]⟩, ⟨[36, 37, 39, 40, 41, 42, 43, 44, 45, 46, 47, 48, 49, 50], [6, 7], [], [], [0, 1, 2]⟩, ⟨[36, 37, 39, 40, 41, 42, 43, 44, 45, 46, 47, 48, 49, 50], [6, 7], [], [], [0, 1, 2, 3]⟩, ⟨[34, 35, 39, 40, 41, 42, 43, 44, 45, 46, 47, 48, 49, 50], [6, 7], [], [], [0, 1, 2]⟩, ⟨[34, 35, 39, 40, 41, 42, 43, 44, 45, 46, 47, 48, 49, 50], [6, 7], [], [], [0, 1, 2, 5]⟩, ⟨[39, 40, 41, 42, 43, 44, 45, 46, 47, 48, 49, 50], [6, 7], [], [], [0, 1, 2, 3, 4, 5, 6]⟩, ⟨[34, 35, 36, 37, 38, 40, 41, 45, 46, 47, 48, 49, 50], [7], [], [], [0, 1, 2]⟩, ⟨[34, 35, 36, 37, 38, 39, 45, 46, 47, 48, 49, 50], [7], [], [], [0, 1, 2]⟩, ⟨[34, 35, 36, 37, 38, 39, 45, 46, 47, 48, 49, 50], [7], [], [], [0, 1, 2, 9]⟩, ⟨[34, 35, 36, 37, 38, 45, 46, 47, 48, 49, 50], [7], [6], [6], [0, 1, 2, 8, 9, 10]⟩, ⟨[34, 35, 36, 37, 38, 45, 46, 47, 48, 49, 50], [7], [], [], [0, 1, 2, 8, 9, 10, 11]⟩, ⟨[34, 35, 36, 37, 38, 45, 46, 47, 48, 49, 50], [7], [], [], [0, 1, 2, 8, 9, 10, 11, 12]⟩, ⟨[34, 35, 36, 37, 38, 39, 40, 41, 42, 43, 44, 46, 47], [6], [], [], [0, 1, 2]⟩, ⟨[34, 35, 36, 37, 38, 39, 40, 41, 42, 43, 44, 45], [6], [], [], [0, 1, 2]⟩, ⟨[34, 35, 36, 37, 38, 39, 40, 41, 42, 43, 44, 45], [6], [], [], [0, 1, 2, 15]⟩, ⟨[34, 35, 36, 37, 38, 39, 40, 41, 42, 43, 44], [6], [7], [7], [0, 1, 2, 14, 15, 16]⟩, ⟨[34, 35, 36, 37, 38, 39, 40, 41, 42, 43, 44], [6], [], [], [0, 1, 2, 14, 15, 16, 17]⟩, ⟨[34, 35, 36, 37, 38, 39, 40, 41, 42, 43, 44], [6], [], [], [0, 1, 2, 14, 15, 16, 17, 18]⟩, ⟨[], [], [], [], [0, 1, 2, 3, 4, 5, 6, 7, 8, 9, 10, 11, 12, 13, 14, 15, 16, 17, 18, 19]⟩, ⟨[], [], [], [], [0, 1, 2, 3, 4, 5, 6, 7, 8, 9, 10, 11, 12, 13, 14, 15, 16, 17, 18, 19, 20]⟩, ⟨[], [], [], [], [0, 1, 2, 3, 4, 5, 6, 7, 8, 9, 10, 11, 12, 13, 14, 15, 16, 17, 18, 19, 20, 21]⟩] (by kernel_rfl) (by kernel_rfl) ?_
      have hprev : 0 < (i : Int) → -1000000 ≤ (nth l ((i : Int) - 1)).page ∧ (nth l ((i : Int) - 1)).page ≤ 1000000 ∧ -1000000 ≤ (nth l ((i : Int) - 1)).bore ∧ (nth l ((i : Int) - 1)).bore ≤ 1000000 := fun h0 => by
        have := setAt_chk hall (show i - 1 < i by omega)
        rw [show ((i - 1 : Nat) : Int) = (i : Int) - 1 by omega] at this
        have := Plate.bnds this
        omega
      refine DRQ.v rfl rfl rfl (o_move rfl) ?_
      refine DRQ.v rfl rfl rfl (o_gtr rfl rfl) ?_
      refine DRQ.v rfl rfl rfl (o_move rfl) ?_
      refine DRQ.gv 5 rfl rfl (.plain rfl Iff.rfl rfl) rfl (fun hb => o_fldp F77_0 rfl) ?_
      refine DRQ.gv 5 rfl rfl (.plain rfl Iff.rfl rfl) rfl (fun hb => o_ldp S3 rfl rfl rfl) ?_
      refine DRQ.gv 5 rfl rfl (.plain rfl Iff.rfl rfl) rfl (fun hb => o_fldp F77_1 rfl) ?_
      refine DRQ.gv 5 rfl rfl (.plain rfl Iff.rfl rfl) rfl (fun hb => o_ldp S3 rfl rfl rfl) ?_
      refine DRQ.gv 5 rfl rfl (.plain rfl Iff.rfl rfl) rfl (fun hb => o_sig 6 id (c101 ((nth l (i : Int)).page) ((nth l (i : Int)).bore) (by omega) (by omega)) e101 rfl rfl rfl w101 trivial r101) ?_
      refine DRQ.gv 5 rfl rfl (.plain rfl Iff.rfl rfl) rfl (fun hb => o_move rfl) ?_
      refine DRQ.gv 5 rfl rfl (.plain rfl Iff.rfl rfl) rfl (fun hb => o_move rfl) ?_
      refine DRQ.gv 5 rfl rfl (.plain rfl Iff.rfl rfl) rfl (fun hb => o_sub rfl rfl (by simp at hb; omega) (by simp at hb; omega)) ?_
      refine DRQ.gx 5 6 rfl rfl (.plain rfl Iff.rfl rfl) rfl rfl (fun hb => o_idx L30 rfl (lx rfl) rfl (by simp at hb; omega) (by simp at hb; omega)) ?_
      refine DRQ.gv 5 rfl rfl (.plain rfl Iff.rfl rfl) rfl (fun hb => o_fldq F77_0 rfl (lxi hb rfl)) ?_
      refine DRQ.gv 5 rfl rfl (.plain rfl Iff.rfl rfl) rfl (fun hb => o_lde S3 rfl (lxi hb rfl) (strI rfl)) ?_
      refine DRQ.gv 5 rfl rfl (.plain rfl Iff.rfl rfl) rfl (fun hb => o_move rfl) ?_
      refine DRQ.gv 5 rfl rfl (.plain rfl Iff.rfl rfl) rfl (fun hb => o_move rfl) ?_
      refine DRQ.gv 5 rfl rfl (.plain rfl Iff.rfl rfl) rfl (fun hb => o_sub rfl rfl (by simp at hb; omega) (by simp at hb; omega)) ?_
      refine DRQ.gx 5 7 rfl rfl (.plain rfl Iff.rfl rfl) rfl rfl (fun hb => o_idx L30 rfl (lx rfl) rfl (by simp at hb; omega) (by simp at hb; omega)) ?_
      refine DRQ.gv 5 rfl rfl (.plain rfl Iff.rfl rfl) rfl (fun hb => o_fldq F77_1 rfl (lxi hb rfl)) ?_
      refine DRQ.gv 5 rfl rfl (.plain rfl Iff.rfl rfl) rfl (fun hb => o_lde S3 rfl (lxi hb rfl) (strI rfl)) ?_
      refine DRQ.gv 5 rfl rfl (.plain rfl Iff.rfl rfl) rfl (fun hb => o_sig 8 id (c101 ((nth l ((i : Int) - 1)).page) ((nth l ((i : Int) - 1)).bore) (by have := hprev (by simpa using hb); omega) (by have := hprev (by simpa using hb); omega)) e101 rfl rfl rfl w101 trivial r101) ?_
      refine DRQ.gv 5 rfl rfl (.plain rfl Iff.rfl rfl) rfl (fun hb => o_leq rfl rfl) ?_
      refine DRQ.v rfl rfl rfl (o_and rfl rfl rfl id) ?_
      refine DRQ.nil' ?_
      refine EX.then ?_
      refine WP.cond rfl (fun hc3 => ?_) (fun hc3 => ?_)
      · try simp only [cnd] at hc3
        refine WP.seq (WP.region ?_)
        refine WPl.v rfl (o_assign rfl) ?_
        refine WPl.nil (EX.then (WP.ret (EX.ret_blk (EX.ret_then (EX.ret_then (EX.ret_blk (EX.ret_then ?_)))))))
        rw [show isSet l = false from not_allI (show i < l.length by omega) (by unfold setAt; rw [hpk, Bool.true_and]; simp only [Bool.not_eq_false', Bool.and_eq_true, decide_eq_true_eq]; exact hc3)]
        exact EX.fin id (.inl rfl) rfl (.tmp rfl .nil) rfl (by simp [SV.res, El.res, At.res, keys]) trivial (by simp) (by simp)
      · try simp only [cnd] at hc3
        refine WP.skip (EX.blk (EX.then (WP.region ?_)))
        refine WPl.v rfl (o_move rfl) ?_
        refine WPl.v rfl (o_add rfl rfl (by first | omega | (simp; omega)) (by first | omega | (simp; omega))) ?_
        refine WPl.v rfl (o_assign rfl) ?_
        refine WPl.nil ?_
        refine EX.again (i + 1) id (by exact ⟨by omega, by simp only [allI, hall, Bool.true_and]; unfold setAt; rw [hpk, Bool.true_and]; simp only [Bool.not_eq_true', Bool.and_eq_false_iff, decide_eq_false_iff_not]; exact hc3⟩) (by omega) (LeR.of ⟨rfl, rfl, rfl, trivial⟩ ⟨(lx rfl), trivial⟩ trivial rfl rfl rfl rfl rfl)
  · try simp only [cnd] at hc1
    refine WP.exit (EX.exit_then (EX.exit_then (EX.exit_blk (EX.then (WP.seq (WP.region ?_))))))
    refine WPl.v rfl (o_assign rfl) ?_
    refine WPl.nil (EX.then (WP.ret ?_))
    have he : i = l.length := by omega
    subst he
    rw [show isSet l = true from hall]
    exact EX.fin id (.inl rfl) rfl (.tmp rfl .nil) rfl (by simp [SV.res, El.res, At.res, keys]) trivial (by simp) (by simp)
theorem w68 {h : Hall} : ∀ x ∈ ([.e (.g [.q 0, .q 1, .q 2, ai (h.change), .q 3, .q 4])] : List SV), x.res (keys (α := Pred) [(0, PL ETm (h.machs)), (1, PL EBd (h.buns)), (2, PL EP.int (h.trains)), (3, PL EP.int (h.bores)), (4, PL (EP.sl EP.int) (h.eds))]) := by simp [SV.res, El.res, At.res, keys]
theorem r68 {h : Hall} : SV.res (keys (α := Pred) []) (.i (errL h.chk)) := by simp [SV.res, El.res, At.res, keys]
set_option maxHeartbeats 4000000 in
theorem c68 (h : Hall) (hm : h.Small) : Sig Tryz.prog 68 [.e (.g [.q 0, .q 1, .q 2, ai (h.change), .q 3, .q 4])] [(0, PL ETm (h.machs)), (1, PL EBd (h.buns)), (2, PL EP.int (h.trains)), (3, PL EP.int (h.bores)), (4, PL (EP.sl EP.int) (h.eds))] (.i (errL h.chk)) [] := by
  have hm1 := hm.m
  have hm2 := hm.b
  have hm3 := hm.t
  have hm4 := hm.o
  have hm5 := hm.e
  have hm6 := hm.p
  refine Sig.intro Tryz.func68 rfl 5 [(0, .e (.g [.q 0, .q 1, .q 2, ai (h.change), .q 3, .q 4]))] rfl w68 rfl rfl fun I w => ?_
  refine WP.seq (WP.region ?_)
  refine WPl.l 5 6 rfl rfl rfl (o_boxg rfl) ?_
  refine WPl.v rfl (o_assign rfl) ?_
  refine WPl.nil (EX.then (WP.seq (WP.seq (WP.region ?_))))
  refine WPl.v rfl (o_fldp F29_0 rfl) ?_
  refine WPl.v rfl (o_ldpg G26 rfl rfl rfl) ?_
  refine WPl.cs 6 rfl rfl rfl rfl (o_sig 6 (ren [(0, 0), (1, 1), (2, 2)]) (c124 h hm) e124 rfl rfl rfl w124 ⟨(lx rfl), (lx rfl), (lx rfl), trivial⟩ r124) ?_
  refine WPl.v rfl (o_neq rfl rfl) ?_
  refine WPl.v rfl (o_move rfl) ?_
  refine WPl.bit 6 7 (!(decide ((errH h.house) ≠ 0))) rfl rfl ?_
  refine WPl.gv 6 rfl rfl (.plain rfl (by first | (simp; done) | simp only [Bool.not_eq_true']) rfl) (fun hb => o_fldp F29_1 rfl) ?_
  refine WPl.gv 6 rfl rfl (.plain rfl (by first | (simp; done) | simp only [Bool.not_eq_true']) rfl) (fun hb => o_ldp S24 rfl rfl rfl) ?_
  refine WPl.gv 6 rfl rfl (.plain rfl (by first | (simp; done) | simp only [Bool.not_eq_true']) rfl) (fun hb => o_lenq L24 rfl (lx rfl)) ?_
  refine WPl.gv 6 rfl rfl (.plain rfl (by first | (simp; done) | simp only [Bool.not_eq_true']) rfl) (fun hb => o_fldp F29_0 rfl) ?_
  refine WPl.gv 6 rfl rfl (.plain rfl (by first | (simp; done) | simp only [Bool.not_eq_true']) rfl) (fun hb => o_fldp F26_0 rfl) ?_
  refine WPl.gv 6 rfl rfl (.plain rfl (by first | (simp; done) | simp only [Bool.not_eq_true']) rfl) (fun hb => o_ldp S22 rfl rfl rfl) ?_
  refine WPl.gv 6 rfl rfl (.plain rfl (by first | (simp; done) | simp only [Bool.not_eq_true']) rfl) (fun hb => o_lenq L22 rfl (lx rfl)) ?_
  refine WPl.gv 6 rfl rfl (.plain rfl (by first | (simp; done) | simp only [Bool.not_eq_true']) rfl) (fun hb => o_neq rfl rfl) ?_
  refine WPl.v rfl (o_or rfl rfl rfl (by first | (simp; done) | exact fun h => by rw [h]; rfl | exact fun h => Bool.and_eq_true_iff.2 ⟨hb, by rw [h]; rfl⟩ | simp_all)) ?_
  refine WPl.v rfl (o_move rfl) ?_
  refine WPl.bit 7 8 (!((decide ((errH h.house) ≠ 0)) || (decide ((h.bores.length : Int) ≠ (h.machs.length : Int))))) rfl rfl ?_
  refine WPl.gv 7 rfl rfl (.plain rfl (by first | (simp; done) | simp only [Bool.not_eq_true']) rfl) (fun hb => o_fldp F29_2 rfl) ?_
  refine WPl.gv 7 rfl rfl (.plain rfl (by first | (simp; done) | simp only [Bool.not_eq_true']) rfl) (fun hb => o_ldp S27 rfl rfl rfl) ?_
  refine WPl.gv 7 rfl rfl (.plain rfl (by first | (simp; done) | simp only [Bool.not_eq_true']) rfl) (fun hb => o_lenq L27 rfl (lx rfl)) ?_
  refine WPl.gv 7 rfl rfl (.plain rfl (by first | (simp; done) | simp only [Bool.not_eq_true']) rfl) (fun hb => o_gtr rfl rfl) ?_
  refine WPl.v rfl (o_or rfl rfl rfl (by first | (simp; done) | exact fun h => by rw [h]; rfl | exact fun h => Bool.and_eq_true_iff.2 ⟨hb, by rw [h]; rfl⟩ | simp_all)) ?_
  refine WPl.nil (EX.then ?_)
  refine WP.cond rfl (fun hc1 => ?_) (fun hc1 => ?_)
  · try simp only [cnd] at hc1
    refine WP.seq (WP.region ?_)
    refine WPl.v rfl (o_assign rfl) ?_
    refine WPl.nil (EX.then (WP.ret (EX.ret_then ?_)))
    rw [show errL h.chk = 90 from by rw [show h.chk = false from by unfold Hall.chk; rw [show h.hallHd = false from hallHd_false hc1]; simp]; rfl]
    exact EX.fin id (.inl rfl) rfl (.tmp rfl .nil) rfl (by simp [SV.res, El.res, At.res, keys]) trivial (by simp) (by simp)
  · try simp only [cnd] at hc1
    have hhd : h.hallHd = true := by
      unfold Hall.hallHd
      have he := errH_eq.1 hc1.1.1
      rw [he]
      simp
      omega
    refine WP.skip (EX.then (WP.seq (WP.seq (WP.region ?_))))
    refine WPl.v rfl (o_assign rfl) ?_
    refine WPl.nil (EX.then (WP.block ?_))
    refine WP.loop (Gh := Nat) (fun i => ⟨8, [(1, .e (.a (.p 5 (0)))), (2, .i (0)), (3, .i ((i : Int)))], [(0, PL ETm (h.machs)), (1, PL EBd (h.buns)), (2, PL EP.int (h.trains)), (3, PL EP.int (h.bores)), (4, PL (EP.sl EP.int) (h.eds))], [(5, .blk [.q 0, .q 1, .q 2, ai (h.change), .q 3, .q 4] 29)], [], []⟩) (fun i => i ≤ h.bores.length ∧ allI h.borOK i = true) (fun i => h.bores.length - i) (0) id ?_ (LeR.of ⟨rfl, rfl, rfl, trivial⟩ ⟨(lx rfl), (lx rfl), (lx rfl), (lx rfl), (lx rfl), trivial⟩ ⟨rfl, trivial⟩ rfl rfl rfl rfl rfl) ?_
    · exact ⟨by omega, rfl⟩
    intro i hφ
    have hi : i ≤ h.bores.length := hφ.1
    have hall := hφ.2
    refine WP.seq (WP.seq (WP.region ?_))
    refine WPl.v rfl (o_move rfl) ?_
    refine WPl.v rfl (o_fldp F29_1 rfl) ?_
    refine WPl.v rfl (o_ldp S24 rfl rfl rfl) ?_
    refine WPl.v rfl (o_lenq L24 rfl (lx rfl)) ?_
    refine WPl.v rfl (o_lss rfl rfl) ?_
    refine WPl.nil (EX.then ?_)
    refine WP.cond rfl (fun hc2 => ?_) (fun hc2 => ?_)
    · try simp only [cnd] at hc2
      refine WP.skip (EX.then (WP.seq (WP.block (WP.seq (WP.region ?_)))))
      refine WPl.v rfl (o_fldp F29_1 rfl) ?_
      refine WPl.v rfl (o_ldp S24 rfl rfl rfl) ?_
      refine WPl.v rfl (o_move rfl) ?_
      refine WPl.x 8 9 rfl rfl rfl (o_idx L24 rfl (lx rfl) rfl (by first | omega | (simp; omega)) (by first | omega | (simp; omega))) ?_
      refine WPl.v rfl (o_ldq S3 rfl (lx rfl) intc) ?_
      refine WPl.cs 9 rfl rfl rfl rfl (o_sig 9 id (c100 (nth h.bores (i : Int)) 0 2) e100 rfl rfl rfl w100 trivial r100) ?_
      refine WPl.v rfl (o_not rfl) ?_
      refine WPl.nil (EX.then ?_)
      refine WP.cond rfl (fun hc3 => ?_) (fun hc3 => ?_)
      · try simp only [cnd] at hc3
        refine WP.seq (WP.region ?_)
        refine WPl.v rfl (o_assign rfl) ?_
        refine WPl.nil (EX.then (WP.ret (EX.ret_blk (EX.ret_then (EX.ret_then (EX.ret_blk (EX.ret_then ?_)))))))
        rw [show errL h.chk = 90 from by rw [show h.chk = false from by unfold Hall.chk; rw [show allI h.borOK h.bores.length = false from not_allI (show i < h.bores.length by omega) (by unfold Hall.borOK; exact hc3)]; simp]; rfl]
        exact EX.fin id (.inl rfl) rfl (.tmp rfl .nil) rfl (by simp [SV.res, El.res, At.res, keys]) trivial (by simp) (by simp)
      · try simp only [cnd] at hc3
        refine WP.skip (EX.blk (EX.then (WP.region ?_)))
        refine WPl.v rfl (o_move rfl) ?_
        refine WPl.v rfl (o_add rfl rfl (by first | omega | (simp; omega)) (by first | omega | (simp; omega))) ?_
        refine WPl.v rfl (o_assign rfl) ?_
        refine WPl.nil ?_
        refine EX.again (i + 1) id (by exact ⟨by omega, by simp only [allI, hall, Bool.true_and]; simpa [Hall.borOK] using hc3⟩) (by omega) (LeR.of ⟨rfl, rfl, rfl, trivial⟩ ⟨(lx rfl), (lx rfl), (lx rfl), (lx rfl), (lx rfl), trivial⟩ ⟨rfl, trivial⟩ rfl rfl rfl rfl rfl)
    · try simp only [cnd] at hc2
      have ha1 : allI h.borOK h.bores.length = true := by rw [show h.bores.length = i by omega]; exact hall
      refine WP.exit (EX.exit_then (EX.exit_then (EX.exit_blk (EX.then (WP.seq (WP.seq (WP.region ?_)))))))
      refine WPl.v rfl (o_assign rfl) ?_
      refine WPl.nil (EX.then (WP.block ?_))
      refine WP.loop (Gh := Nat) (fun i => ⟨8, [(1, .e (.a (.p 5 (0)))), (2, .i (0)), (4, .i ((i : Int)))], [(0, PL ETm (h.machs)), (1, PL EBd (h.buns)), (2, PL EP.int (h.trains)), (3, PL EP.int (h.bores)), (4, PL (EP.sl EP.int) (h.eds))], [(5, .blk [.q 0, .q 1, .q 2, ai (h.change), .q 3, .q 4] 29)], [], []⟩) (fun i => i ≤ h.eds.length ∧ allI h.edOK i = true) (fun i => h.eds.length - i) (0) id ?_ (LeR.of ⟨rfl, rfl, rfl, trivial⟩ ⟨(lx rfl), (lx rfl), (lx rfl), (lx rfl), (lx rfl), trivial⟩ ⟨rfl, trivial⟩ rfl rfl rfl rfl rfl) ?_
      · exact ⟨by omega, rfl⟩
      intro i hφ
      have hi : i ≤ h.eds.length := hφ.1
      have hall := hφ.2
      refine WP.seq (WP.seq (WP.region ?_))
      refine WPl.v rfl (o_move rfl) ?_
      refine WPl.v rfl (o_fldp F29_2 rfl) ?_
      refine WPl.v rfl (o_ldp S27 rfl rfl rfl) ?_
      refine WPl.v rfl (o_lenq L27 rfl (lx rfl)) ?_
      refine WPl.v rfl (o_lss rfl rfl) ?_
      refine WPl.nil (EX.then ?_)
      refine WP.cond rfl (fun hc4 => ?_) (fun hc4 => ?_)
      · try simp only [cnd] at hc4
        refine WP.skip (EX.then (WP.seq (WP.block (WP.seq (WP.region ?_)))))
        refine WPl.v rfl (o_fldp F29_2 rfl) ?_
        refine WPl.v rfl (o_ldp S27 rfl rfl rfl) ?_
        refine WPl.v rfl (o_move rfl) ?_
        refine WPl.x 8 9 rfl rfl rfl (o_idx L27 rfl (lx rfl) rfl (by first | omega | (simp; omega)) (by first | omega | (simp; omega))) ?_
        refine WPl.x 9 10 rfl rfl rfl (o_ldqx S24 rfl (lx rfl) slx) ?_
        refine WPl.cs 10 rfl rfl rfl rfl (o_sig 10 (ren [(0, 9)]) (c119 (nth h.eds (i : Int)) 0 3 (by have := hm6 i (by omega); omega)) e119 rfl rfl rfl w119 ⟨(lx rfl), trivial⟩ r119) ?_
        refine WPl.v rfl (o_not rfl) ?_
        refine WPl.nil (EX.then ?_)
        refine WP.cond rfl (fun hc5 => ?_) (fun hc5 => ?_)
        · try simp only [cnd] at hc5
          refine WP.seq (WP.region ?_)
          refine WPl.v rfl (o_assign rfl) ?_
          refine WPl.nil (EX.then (WP.ret (EX.ret_blk (EX.ret_then (EX.ret_then (EX.ret_blk (EX.ret_then ?_)))))))
          rw [show errL h.chk = 90 from by rw [show h.chk = false from by unfold Hall.chk; rw [show allI h.edOK h.eds.length = false from not_allI (show i < h.eds.length by omega) (by unfold Hall.edOK; exact hc5)]; simp]; rfl]
          exact EX.fin id (.inl rfl) rfl (.tmp rfl .nil) rfl (by simp [SV.res, El.res, At.res, keys]) trivial (by simp) (by simp)
        · try simp only [cnd] at hc5
          refine WP.skip (EX.blk (EX.then (WP.region ?_)))
          refine WPl.v rfl (o_move rfl) ?_
          refine WPl.v rfl (o_add rfl rfl (by first | omega | (simp; omega)) (by first | omega | (simp; omega))) ?_
          refine WPl.v rfl (o_assign rfl) ?_
          refine WPl.nil ?_
          refine EX.again (i + 1) id (by exact ⟨by omega, by simp only [allI, hall, Bool.true_and]; simpa [Hall.edOK] using hc5⟩) (by omega) (LeR.of ⟨rfl, rfl, rfl, trivial⟩ ⟨(lx rfl), (lx rfl), (lx rfl), (lx rfl), (lx rfl), trivial⟩ ⟨rfl, trivial⟩ rfl rfl rfl rfl rfl)
      · try simp only [cnd] at hc4
        have ha2 : allI h.edOK h.eds.length = true := by rw [show h.eds.length = i by omega]; exact hall
        refine WP.exit (EX.exit_then (EX.exit_then (EX.exit_blk (EX.then (WP.seq (WP.seq (WP.region ?_)))))))
        refine WPl.v rfl (o_assign rfl) ?_
        refine WPl.nil (EX.then (WP.block ?_))
        refine WP.loop (Gh := Nat) (fun i => ⟨8, [(1, .e (.a (.p 5 (0)))), (2, .i (0)), (5, .i ((i : Int)))], [(0, PL ETm (h.machs)), (1, PL EBd (h.buns)), (2, PL EP.int (h.trains)), (3, PL EP.int (h.bores)), (4, PL (EP.sl EP.int) (h.eds))], [(5, .blk [.q 0, .q 1, .q 2, ai (h.change), .q 3, .q 4] 29)], [], []⟩) (fun i => i ≤ h.buns.length ∧ allI h.beOK i = true) (fun i => h.buns.length - i) (0) id ?_ (LeR.of ⟨rfl, rfl, rfl, trivial⟩ ⟨(lx rfl), (lx rfl), (lx rfl), (lx rfl), (lx rfl), trivial⟩ ⟨rfl, trivial⟩ rfl rfl rfl rfl rfl) ?_
        · exact ⟨by omega, rfl⟩
        intro i hφ
        have hi : i ≤ h.buns.length := hφ.1
        have hall := hφ.2
        refine WP.seq (WP.seq (WP.region ?_))
        refine WPl.v rfl (o_move rfl) ?_
        refine WPl.v rfl (o_fldp F29_0 rfl) ?_
        refine WPl.v rfl (o_fldp F26_1 rfl) ?_
        refine WPl.v rfl (o_ldp S23 rfl rfl rfl) ?_
        refine WPl.v rfl (o_lenq L23 rfl (lx rfl)) ?_
        refine WPl.v rfl (o_lss rfl rfl) ?_
        refine WPl.nil (EX.then ?_)
        refine WP.cond rfl (fun hc6 => ?_) (fun hc6 => ?_)
        · try simp only [cnd] at hc6
          refine WP.skip (EX.then (WP.seq (WP.block (WP.seq ?_))))
          refine WP.draw (nf := 9) [⟨[65, 69, 70, 71], [], [], [], []⟩, ⟨[65, 69, 70, 71], [], [], [], [0]⟩, ⟨[65, 69, 70, 71], [], [], [], [0, 1]⟩, ⟨[62, 63, 64, 69, 70, 71], [], [], [], []⟩, ⟨[69, 70, 71], [], [8], [8], [0, 1, 2, 3]⟩, ⟨[69, 70, 71], [], [], [], [0, 1, 2, 3, 4]⟩, ⟨[69, 70, 71], [], [], [], [0, 1, 2, 3, 4, 5]⟩, ⟨[62, 63, 64, 65, 66, 67, 68], [8], [], [], []⟩, ⟨[62, 63, 64, 65, 66, 67, 68], [8], [], [], [7]⟩, ⟨[62, 63, 64, 65, 66, 67, 68], [8], [], [], [7, 8]⟩, ⟨[], [], [], [], [0, 1, 2, 3, 4, 5, 6, 7, 8, 9]⟩] (by kernel_rfl) (by kernel_rfl) ?_
          refine DRQ.v rfl rfl rfl (o_fldp F29_0 rfl) ?_
          refine DRQ.v rfl rfl rfl (o_fldp F26_1 rfl) ?_
          refine DRQ.v rfl rfl rfl (o_ldp S23 rfl rfl rfl) ?_
          refine DRQ.v rfl rfl rfl (o_move rfl) ?_
          refine DRQ.x 8 rfl rfl rfl rfl (o_idx L23 rfl (lx rfl) rfl (by first | omega | (simp; omega)) (by first | omega | (simp; omega))) ?_
          refine DRQ.v rfl rfl rfl (o_fldq F95_2 rfl (lx rfl)) ?_
          refine DRQ.v rfl rfl rfl (o_lde S3 rfl (lx rfl) (strI rfl)) ?_
          refine DRQ.v rfl rfl rfl (o_fldp F29_2 rfl) ?_
          refine DRQ.v rfl rfl rfl (o_ldp S27 rfl rfl rfl) ?_
          refine DRQ.v rfl rfl rfl (o_lenq L27 rfl (lx rfl)) ?_
          refine DRQ.v rfl rfl rfl (o_geq rfl rfl) ?_
          refine DRQ.nil' ?_
          refine EX.then ?_
          refine WP.cond rfl (fun hc7 => ?_) (fun hc7 => ?_)
          · try simp only [cnd] at hc7
            refine WP.seq (WP.region ?_)
            refine WPl.v rfl (o_assign rfl) ?_
            refine WPl.nil (EX.then (WP.ret (EX.ret_blk (EX.ret_then (EX.ret_then (EX.ret_blk (EX.ret_then ?_)))))))
            rw [show errL h.chk = 90 from by rw [show h.chk = false from by unfold Hall.chk; rw [show allI h.beOK h.buns.length = false from not_allI (show i < h.buns.length by omega) (by unfold Hall.beOK; exact decide_eq_false (by omega))]; simp]; rfl]
            exact EX.fin id (.inl rfl) rfl (.tmp rfl .nil) rfl (by simp [SV.res, El.res, At.res, keys]) trivial (by simp) (by simp)
          · try simp only [cnd] at hc7
            refine WP.skip (EX.blk (EX.then (WP.region ?_)))
            refine WPl.v rfl (o_move rfl) ?_
            refine WPl.v rfl (o_add rfl rfl (by first | omega | (simp; omega)) (by first | omega | (simp; omega))) ?_
            refine WPl.v rfl (o_assign rfl) ?_
            refine WPl.nil ?_
            refine EX.again (i + 1) id (by exact ⟨by omega, by simp only [allI, hall, Bool.true_and]; simpa [Hall.beOK] using hc7⟩) (by omega) (LeR.of ⟨rfl, rfl, rfl, trivial⟩ ⟨(lx rfl), (lx rfl), (lx rfl), (lx rfl), (lx rfl), trivial⟩ ⟨rfl, trivial⟩ rfl rfl rfl rfl rfl)
        · try simp only [cnd] at hc6
          refine WP.exit (EX.exit_then (EX.exit_then (EX.exit_blk (EX.then (WP.seq (WP.region ?_))))))
          refine WPl.v rfl (o_assign rfl) ?_
          refine WPl.nil (EX.then (WP.ret ?_))
          rw [show errL h.chk = 0 from errL_eq.2 (by unfold Hall.chk; rw [hhd, ha1, ha2, show allI h.beOK h.buns.length = true from by rw [show h.buns.length = i by omega]; exact hall]; rfl)]
          exact EX.fin id (.inl rfl) rfl (.tmp rfl .nil) rfl (by simp [SV.res, El.res, At.res, keys]) trivial (by simp) (by simp)
theorem w50 {b : Book} : ∀ x ∈ ([.e (.g [.q 0, .q 1, .q 2, ai (b.hall.change), .q 3, .q 4, .q 5, .q 6, ai (b.boys), .q 7])] : List SV), x.res (keys (α := Pred) [(0, PL ETm (b.hall.machs)), (1, PL EBd (b.hall.buns)), (2, PL EP.int (b.hall.trains)), (3, PL EP.int (b.hall.bores)), (4, PL (EP.sl EP.int) (b.hall.eds)), (5, PL EPl (b.set)), (6, PL EP.int (b.walk)), (7, PL ETa (b.tals))]) := by simp [SV.res, El.res, At.res, keys]
theorem r50 {b : Book} : SV.res (keys (α := Pred) []) (.i (errT b.chk)) := by simp [SV.res, El.res, At.res, keys]
set_option maxHeartbeats 4000000 in
theorem c50 (b : Book) (hm : b.Small) : Sig Tryz.prog 50 [.e (.g [.q 0, .q 1, .q 2, ai (b.hall.change), .q 3, .q 4, .q 5, .q 6, ai (b.boys), .q 7])] [(0, PL ETm (b.hall.machs)), (1, PL EBd (b.hall.buns)), (2, PL EP.int (b.hall.trains)), (3, PL EP.int (b.hall.bores)), (4, PL (EP.sl EP.int) (b.hall.eds)), (5, PL EPl (b.set)), (6, PL EP.int (b.walk)), (7, PL ETa (b.tals))] (.i (errT b.chk)) [] := by
  have hm1 := hm.h.m
  have hm2 := hm.h.b
  have hm3 := hm.h.t
  have hm4 := hm.h.o
  have hm5 := hm.h.e
  have hm6 := hm.s
  have hm7 := hm.w
  have hm8 := hm.t
  refine Sig.intro Tryz.func50 rfl 8 [(0, .e (.g [.q 0, .q 1, .q 2, ai (b.hall.change), .q 3, .q 4, .q 5, .q 6, ai (b.boys), .q 7]))] rfl w50 rfl rfl fun I w => ?_
  refine WP.seq (WP.region ?_)
  refine WPl.l 8 9 rfl rfl rfl (o_boxg rfl) ?_
  refine WPl.v rfl (o_assign rfl) ?_
  refine WPl.nil (EX.then (WP.seq (WP.seq (WP.region ?_))))
  refine WPl.v rfl (o_fldp F33_0 rfl) ?_
  refine WPl.v rfl (o_ldpg G29 rfl rfl rfl) ?_
  refine WPl.cs 9 rfl rfl rfl rfl (o_sig 9 (ren [(0, 0), (1, 1), (2, 2), (3, 3), (4, 4)]) (c68 b.hall hm.h) e68 rfl rfl rfl w68 ⟨(lx rfl), (lx rfl), (lx rfl), (lx rfl), (lx rfl), trivial⟩ r68) ?_
  refine WPl.v rfl (o_neq rfl rfl) ?_
  refine WPl.v rfl (o_move rfl) ?_
  refine WPl.bit 9 10 (!(decide ((errL b.hall.chk) ≠ 0))) rfl rfl ?_
  refine WPl.gv 9 rfl rfl (.plain rfl (by first | (simp; done) | simp only [Bool.not_eq_true']) rfl) (fun hb => o_fldp F33_1 rfl) ?_
  refine WPl.gv 9 rfl rfl (.plain rfl (by first | (simp; done) | simp only [Bool.not_eq_true']) rfl) (fun hb => o_ldp S30 rfl rfl rfl) ?_
  refine WPl.gc0 9 rfl rfl (.plain rfl (by first | (simp; done) | simp only [Bool.not_eq_true']) rfl) (fun hb => o_sig 10 (ren [(0, 5)]) (c32 b.set (by omega)) e32 rfl rfl rfl w32 ⟨(lx rfl), trivial⟩ r32) ?_
  refine WPl.gv 9 rfl rfl (.plain rfl (by first | (simp; done) | simp only [Bool.not_eq_true']) rfl) (fun hb => o_not rfl) ?_
  refine WPl.v rfl (o_or rfl rfl rfl (by first | (simp; done) | exact fun h => by rw [h]; rfl | exact fun h => Bool.and_eq_true_iff.2 ⟨hb, by rw [h]; rfl⟩ | simp_all)) ?_
  refine WPl.v rfl (o_move rfl) ?_
  refine WPl.bit 10 11 (!((decide ((errL b.hall.chk) ≠ 0)) || (!(isSet b.set)))) rfl rfl ?_
  refine WPl.gv 10 rfl rfl (.plain rfl (by first | (simp; done) | simp only [Bool.not_eq_true']) rfl) (fun hb => o_fldp F33_2 rfl) ?_
  refine WPl.gv 10 rfl rfl (.plain rfl (by first | (simp; done) | simp only [Bool.not_eq_true']) rfl) (fun hb => o_ldp S24 rfl rfl rfl) ?_
  refine WPl.gv 10 rfl rfl (.plain rfl (by first | (simp; done) | simp only [Bool.not_eq_true']) rfl) (fun hb => o_lenq L24 rfl (lx rfl)) ?_
  refine WPl.gv 10 rfl rfl (.plain rfl (by first | (simp; done) | simp only [Bool.not_eq_true']) rfl) (fun hb => o_fldp F33_0 rfl) ?_
  refine WPl.gv 10 rfl rfl (.plain rfl (by first | (simp; done) | simp only [Bool.not_eq_true']) rfl) (fun hb => o_fldp F29_0 rfl) ?_
  refine WPl.gv 10 rfl rfl (.plain rfl (by first | (simp; done) | simp only [Bool.not_eq_true']) rfl) (fun hb => o_fldp F26_0 rfl) ?_
  refine WPl.gv 10 rfl rfl (.plain rfl (by first | (simp; done) | simp only [Bool.not_eq_true']) rfl) (fun hb => o_ldp S22 rfl rfl rfl) ?_
  refine WPl.gv 10 rfl rfl (.plain rfl (by first | (simp; done) | simp only [Bool.not_eq_true']) rfl) (fun hb => o_lenq L22 rfl (lx rfl)) ?_
  refine WPl.gv 10 rfl rfl (.plain rfl (by first | (simp; done) | simp only [Bool.not_eq_true']) rfl) (fun hb => o_neq rfl rfl) ?_
  refine WPl.v rfl (o_or rfl rfl rfl (by first | (simp; done) | exact fun h => by rw [h]; rfl | exact fun h => Bool.and_eq_true_iff.2 ⟨hb, by rw [h]; rfl⟩ | simp_all)) ?_
  refine WPl.v rfl (o_move rfl) ?_
  refine WPl.bit 11 12 (!(((decide ((errL b.hall.chk) ≠ 0)) || (!(isSet b.set))) || (decide ((b.walk.length : Int) ≠ (b.hall.machs.length : Int))))) rfl rfl ?_
  refine WPl.gv 11 rfl rfl (.plain rfl (by first | (simp; done) | simp only [Bool.not_eq_true']) rfl) (fun hb => o_fldp F33_3 rfl) ?_
  refine WPl.gv 11 rfl rfl (.plain rfl (by first | (simp; done) | simp only [Bool.not_eq_true']) rfl) (fun hb => o_ldp S3 rfl rfl rfl) ?_
  refine WPl.gc0 11 rfl rfl (.plain rfl (by first | (simp; done) | simp only [Bool.not_eq_true']) rfl) (fun hb => o_sig 12 id (c88 b.boys 0 4) e88 rfl rfl rfl w88 trivial r88) ?_
  refine WPl.gv 11 rfl rfl (.plain rfl (by first | (simp; done) | simp only [Bool.not_eq_true']) rfl) (fun hb => o_not rfl) ?_
  refine WPl.v rfl (o_or rfl rfl rfl (by first | (simp; done) | exact fun h => by rw [h]; rfl | exact fun h => Bool.and_eq_true_iff.2 ⟨hb, by rw [h]; rfl⟩ | simp_all)) ?_
  refine WPl.v rfl (o_move rfl) ?_
  refine WPl.bit 12 13 (!((((decide ((errL b.hall.chk) ≠ 0)) || (!(isSet b.set))) || (decide ((b.walk.length : Int) ≠ (b.hall.machs.length : Int)))) || (!(within b.boys 0 4)))) rfl rfl ?_
  refine WPl.gv 12 rfl rfl (.plain rfl (by first | (simp; done) | simp only [Bool.not_eq_true']) rfl) (fun hb => o_fldp F33_4 rfl) ?_
  refine WPl.gv 12 rfl rfl (.plain rfl (by first | (simp; done) | simp only [Bool.not_eq_true']) rfl) (fun hb => o_ldp S31 rfl rfl rfl) ?_
  refine WPl.gv 12 rfl rfl (.plain rfl (by first | (simp; done) | simp only [Bool.not_eq_true']) rfl) (fun hb => o_lenq L31 rfl (lx rfl)) ?_
  refine WPl.gv 12 rfl rfl (.plain rfl (by first | (simp; done) | simp only [Bool.not_eq_true']) rfl) (fun hb => o_gtr rfl rfl) ?_
  refine WPl.v rfl (o_or rfl rfl rfl (by first | (simp; done) | exact fun h => by rw [h]; rfl | exact fun h => Bool.and_eq_true_iff.2 ⟨hb, by rw [h]; rfl⟩ | simp_all)) ?_
  refine WPl.nil (EX.then ?_)
  refine WP.cond rfl (fun hc1 => ?_) (fun hc1 => ?_)
  · try simp only [cnd] at hc1
    refine WP.seq (WP.region ?_)
    refine WPl.v rfl (o_assign rfl) ?_
    refine WPl.nil (EX.then (WP.ret (EX.ret_then ?_)))
    rw [show errT b.chk = 110 from by rw [show b.chk = false from by unfold Book.chk; rw [show b.head = false from head_false hc1]; simp]; rfl]
    exact EX.fin id (.inl rfl) rfl (.tmp rfl .nil) rfl (by simp [SV.res, El.res, At.res, keys]) trivial (by simp) (by simp)
  · try simp only [cnd] at hc1
    have hhd : b.head = true := head_true hc1
    have hbb := head_boys hhd
    refine WP.skip (EX.then (WP.seq (WP.seq (WP.region ?_))))
    refine WPl.v rfl (o_assign rfl) ?_
    refine WPl.nil (EX.then (WP.block ?_))
    refine WP.loop (Gh := Nat) (fun i => ⟨13, [(1, .e (.a (.p 8 (0)))), (2, .i (0)), (3, .i ((i : Int)))], [(0, PL ETm (b.hall.machs)), (1, PL EBd (b.hall.buns)), (2, PL EP.int (b.hall.trains)), (3, PL EP.int (b.hall.bores)), (4, PL (EP.sl EP.int) (b.hall.eds)), (5, PL EPl (b.set)), (6, PL EP.int (b.walk)), (7, PL ETa (b.tals))], [(8, .blk [.q 0, .q 1, .q 2, ai (b.hall.change), .q 3, .q 4, .q 5, .q 6, ai (b.boys), .q 7] 33)], [], []⟩) (fun i => i ≤ b.walk.length ∧ allI b.walkOK i = true) (fun i => b.walk.length - i) (0) id ?_ (LeR.of ⟨rfl, rfl, rfl, trivial⟩ ⟨(lx rfl), (lx rfl), (lx rfl), (lx rfl), (lx rfl), (lx rfl), (lx rfl), (lx rfl), trivial⟩ ⟨rfl, trivial⟩ rfl rfl rfl rfl rfl) ?_
    · exact ⟨by omega, rfl⟩
    intro i hφ
    have hi : i ≤ b.walk.length := hφ.1
    have hall := hφ.2
    refine WP.seq (WP.seq (WP.region ?_))
    refine WPl.v rfl (o_move rfl) ?_
    refine WPl.v rfl (o_fldp F33_2 rfl) ?_
    refine WPl.v rfl (o_ldp S24 rfl rfl rfl) ?_
    refine WPl.v rfl (o_lenq L24 rfl (lx rfl)) ?_
    refine WPl.v rfl (o_lss rfl rfl) ?_
    refine WPl.nil (EX.then ?_)
    refine WP.cond rfl (fun hc2 => ?_) (fun hc2 => ?_)
    · try simp only [cnd] at hc2
      refine WP.skip (EX.then (WP.seq (WP.block (WP.seq (WP.region ?_)))))
      refine WPl.v rfl (o_fldp F33_2 rfl) ?_
      refine WPl.v rfl (o_ldp S24 rfl rfl rfl) ?_
      refine WPl.v rfl (o_move rfl) ?_
      refine WPl.x 13 14 rfl rfl rfl (o_idx L24 rfl (lx rfl) rfl (by first | omega | (simp; omega)) (by first | omega | (simp; omega))) ?_
      refine WPl.v rfl (o_ldq S3 rfl (lx rfl) intc) ?_
      refine WPl.cs 14 rfl rfl rfl rfl (o_sig 14 id (c88 (nth b.walk (i : Int)) 0 20) e88 rfl rfl rfl w88 trivial r88) ?_
      refine WPl.v rfl (o_not rfl) ?_
      refine WPl.nil (EX.then ?_)
      refine WP.cond rfl (fun hc3 => ?_) (fun hc3 => ?_)
      · try simp only [cnd] at hc3
        refine WP.seq (WP.region ?_)
        refine WPl.v rfl (o_assign rfl) ?_
        refine WPl.nil (EX.then (WP.ret (EX.ret_blk (EX.ret_then (EX.ret_then (EX.ret_blk (EX.ret_then ?_)))))))
        rw [show errT b.chk = 110 from by rw [show b.chk = false from by unfold Book.chk; rw [show allI b.walkOK b.walk.length = false from not_allI (show i < b.walk.length by omega) (by unfold Book.walkOK; exact hc3)]; simp]; rfl]
        exact EX.fin id (.inl rfl) rfl (.tmp rfl .nil) rfl (by simp [SV.res, El.res, At.res, keys]) trivial (by simp) (by simp)
      · try simp only [cnd] at hc3
        refine WP.skip (EX.blk (EX.then (WP.region ?_)))
        refine WPl.v rfl (o_move rfl) ?_
        refine WPl.v rfl (o_add rfl rfl (by first | omega | (simp; omega)) (by first | omega | (simp; omega))) ?_
        refine WPl.v rfl (o_assign rfl) ?_
        refine WPl.nil ?_
        refine EX.again (i + 1) id (by exact ⟨by omega, by simp only [allI, hall, Bool.true_and]; simpa [Book.walkOK] using hc3⟩) (by omega) (LeR.of ⟨rfl, rfl, rfl, trivial⟩ ⟨(lx rfl), (lx rfl), (lx rfl), (lx rfl), (lx rfl), (lx rfl), (lx rfl), (lx rfl), trivial⟩ ⟨rfl, trivial⟩ rfl rfl rfl rfl rfl)
    · try simp only [cnd] at hc2
      have ha1 : allI b.walkOK b.walk.length = true := by rw [show b.walk.length = i by omega]; exact hall
      refine WP.exit (EX.exit_then (EX.exit_then (EX.exit_blk (EX.then (WP.seq (WP.seq (WP.region ?_)))))))
      refine WPl.v rfl (o_assign rfl) ?_
      refine WPl.nil (EX.then (WP.block ?_))
      refine WP.loop (Gh := Nat) (fun i => ⟨13, [(1, .e (.a (.p 8 (0)))), (2, .i (0)), (4, .i ((i : Int)))], [(0, PL ETm (b.hall.machs)), (1, PL EBd (b.hall.buns)), (2, PL EP.int (b.hall.trains)), (3, PL EP.int (b.hall.bores)), (4, PL (EP.sl EP.int) (b.hall.eds)), (5, PL EPl (b.set)), (6, PL EP.int (b.walk)), (7, PL ETa (b.tals))], [(8, .blk [.q 0, .q 1, .q 2, ai (b.hall.change), .q 3, .q 4, .q 5, .q 6, ai (b.boys), .q 7] 33)], [], []⟩) (fun i => i ≤ b.tals.length ∧ allI b.talOK i = true) (fun i => b.tals.length - i) (0) id ?_ (LeR.of ⟨rfl, rfl, rfl, trivial⟩ ⟨(lx rfl), (lx rfl), (lx rfl), (lx rfl), (lx rfl), (lx rfl), (lx rfl), (lx rfl), trivial⟩ ⟨rfl, trivial⟩ rfl rfl rfl rfl rfl) ?_
      · exact ⟨by omega, rfl⟩
      intro i hφ
      have hi : i ≤ b.tals.length := hφ.1
      have hall := hφ.2
      refine WP.seq (WP.seq (WP.region ?_))
      refine WPl.v rfl (o_move rfl) ?_
      refine WPl.v rfl (o_fldp F33_4 rfl) ?_
      refine WPl.v rfl (o_ldp S31 rfl rfl rfl) ?_
      refine WPl.v rfl (o_lenq L31 rfl (lx rfl)) ?_
      refine WPl.v rfl (o_lss rfl rfl) ?_
      refine WPl.nil (EX.then ?_)
      refine WP.cond rfl (fun hc4 => ?_) (fun hc4 => ?_)
      · try simp only [cnd] at hc4
        refine WP.skip (EX.then (WP.seq (WP.block (WP.seq (WP.region ?_)))))
        refine WPl.v rfl (o_fldp F33_4 rfl) ?_
        refine WPl.v rfl (o_ldp S31 rfl rfl rfl) ?_
        refine WPl.v rfl (o_move rfl) ?_
        refine WPl.x 13 14 rfl rfl rfl (o_idx L31 rfl (lx rfl) rfl (by first | omega | (simp; omega)) (by first | omega | (simp; omega))) ?_
        refine WPl.v rfl (o_ldqg G58 rfl (lx rfl) (strG rfl) rfl rfl) ?_
        refine WPl.l 14 15 rfl rfl rfl (o_alloc Z58) ?_
        refine WPl.s1 (o_stag G58 rfl rfl rfl ⟨rfl, rfl, rfl, rfl, trivial⟩ rfl rfl) ?_
        refine WPl.nil (EX.then (WP.seq (WP.region ?_)))
        refine WPl.v rfl (o_ldpa G33 rfl rfl rfl) ?_
        refine WPl.v rfl (o_fldp F58_0 rfl) ?_
        refine WPl.v rfl (o_ldp S3 rfl rfl rfl) ?_
        refine WPl.cs 15 rfl rfl rfl rfl (o_sig 15 (ren [(0, 0), (1, 1), (2, 2), (3, 3), (4, 4), (5, 5), (6, 6), (7, 7)]) (c109 b ((nth b.tals (i : Int)).boy) (by omega)) e109 rfl rfl rfl w109 ⟨(lx rfl), (lx rfl), (lx rfl), (lx rfl), (lx rfl), (lx rfl), (lx rfl), (lx rfl), trivial⟩ r109) ?_
        refine WPl.v rfl (o_not rfl) ?_
        refine WPl.v rfl (o_move rfl) ?_
        refine WPl.bit 15 16 (!(!(within ((nth b.tals (i : Int)).boy) 0 (b.boys - 1)))) rfl rfl ?_
        refine WPl.gv 15 rfl rfl (.plain rfl (by first | (simp; done) | simp only [Bool.not_eq_true']) rfl) (fun hb => o_fldp F58_1 rfl) ?_
        refine WPl.gv 15 rfl rfl (.plain rfl (by first | (simp; done) | simp only [Bool.not_eq_true']) rfl) (fun hb => o_ldp S3 rfl rfl rfl) ?_
        refine WPl.gc0 15 rfl rfl (.plain rfl (by first | (simp; done) | simp only [Bool.not_eq_true']) rfl) (fun hb => o_sig 16 id (c110 ((nth b.tals (i : Int)).page)) e110 rfl rfl rfl w110 trivial r110) ?_
        refine WPl.gv 15 rfl rfl (.plain rfl (by first | (simp; done) | simp only [Bool.not_eq_true']) rfl) (fun hb => o_not rfl) ?_
        refine WPl.v rfl (o_or rfl rfl rfl (by first | (simp; done) | exact fun h => by rw [h]; rfl | exact fun h => Bool.and_eq_true_iff.2 ⟨hb, by rw [h]; rfl⟩ | simp_all)) ?_
        refine WPl.v rfl (o_move rfl) ?_
        refine WPl.bit 16 17 (!((!(within ((nth b.tals (i : Int)).boy) 0 (b.boys - 1))) || (!(within ((nth b.tals (i : Int)).page) 0 3)))) rfl rfl ?_
        refine WPl.gv 16 rfl rfl (.plain rfl (by first | (simp; done) | simp only [Bool.not_eq_true']) rfl) (fun hb => o_ldpa G33 rfl rfl rfl) ?_
        refine WPl.gv 16 rfl rfl (.plain rfl (by first | (simp; done) | simp only [Bool.not_eq_true']) rfl) (fun hb => o_fldp F58_2 rfl) ?_
        refine WPl.gv 16 rfl rfl (.plain rfl (by first | (simp; done) | simp only [Bool.not_eq_true']) rfl) (fun hb => o_ldp S3 rfl rfl rfl) ?_
        refine WPl.gc0 16 rfl rfl (.plain rfl (by first | (simp; done) | simp only [Bool.not_eq_true']) rfl) (fun hb => o_sig 17 (ren [(0, 0), (1, 1), (2, 2), (3, 3), (4, 4), (5, 5), (6, 6), (7, 7)]) (c58 b ((nth b.tals (i : Int)).mach) (by omega)) e58 rfl rfl rfl w58 ⟨(lx rfl), (lx rfl), (lx rfl), (lx rfl), (lx rfl), (lx rfl), (lx rfl), (lx rfl), trivial⟩ r58) ?_
        refine WPl.gv 16 rfl rfl (.plain rfl (by first | (simp; done) | simp only [Bool.not_eq_true']) rfl) (fun hb => o_not rfl) ?_
        refine WPl.v rfl (o_or rfl rfl rfl (by first | (simp; done) | exact fun h => by rw [h]; rfl | exact fun h => Bool.and_eq_true_iff.2 ⟨hb, by rw [h]; rfl⟩ | simp_all)) ?_
        refine WPl.v rfl (o_move rfl) ?_
        refine WPl.bit 17 18 (!(((!(within ((nth b.tals (i : Int)).boy) 0 (b.boys - 1))) || (!(within ((nth b.tals (i : Int)).page) 0 3))) || (!(within ((nth b.tals (i : Int)).mach) 0 ((b.hall.machs.length : Int) - 1))))) rfl rfl ?_
        refine WPl.gv 17 rfl rfl (.plain rfl (by first | (simp; done) | simp only [Bool.not_eq_true']) rfl) (fun hb => o_fldp F58_3 rfl) ?_
        refine WPl.gv 17 rfl rfl (.plain rfl (by first | (simp; done) | simp only [Bool.not_eq_true']) rfl) (fun hb => o_ldp S3 rfl rfl rfl) ?_
        refine WPl.gc0 17 rfl rfl (.plain rfl (by first | (simp; done) | simp only [Bool.not_eq_true']) rfl) (fun hb => o_sig 18 id (c88 ((nth b.tals (i : Int)).min) 0 99) e88 rfl rfl rfl w88 trivial r88) ?_
        refine WPl.gv 17 rfl rfl (.plain rfl (by first | (simp; done) | simp only [Bool.not_eq_true']) rfl) (fun hb => o_not rfl) ?_
        refine WPl.v rfl (o_or rfl rfl rfl (by first | (simp; done) | exact fun h => by rw [h]; rfl | exact fun h => Bool.and_eq_true_iff.2 ⟨hb, by rw [h]; rfl⟩ | simp_all)) ?_
        refine WPl.nil (EX.then ?_)
        refine WP.cond rfl (fun hc5 => ?_) (fun hc5 => ?_)
        · try simp only [cnd] at hc5
          refine WP.seq (WP.region ?_)
          refine WPl.v rfl (o_assign rfl) ?_
          refine WPl.nil (EX.then (WP.ret (EX.ret_blk (EX.ret_then (EX.ret_then (EX.ret_blk (EX.ret_then ?_)))))))
          rw [show errT b.chk = 110 from by rw [show b.chk = false from by unfold Book.chk; rw [show allI b.talOK b.tals.length = false from not_allI (show i < b.tals.length by omega) (by unfold Book.talOK Tal.chk; simp only [Bool.and_eq_false_iff]; exact hc5)]; simp]; rfl]
          exact EX.fin id (.inl rfl) rfl (.tmp rfl .nil) rfl (by simp [SV.res, El.res, At.res, keys]) trivial (by simp) (by simp)
        · try simp only [cnd] at hc5
          refine WP.skip (EX.blk (EX.then (WP.region ?_)))
          refine WPl.v rfl (o_move rfl) ?_
          refine WPl.v rfl (o_add rfl rfl (by first | omega | (simp; omega)) (by first | omega | (simp; omega))) ?_
          refine WPl.v rfl (o_assign rfl) ?_
          refine WPl.nil ?_
          refine EX.again (i + 1) id (by exact ⟨by omega, by simp only [allI, hall, Bool.true_and]; simpa [Book.talOK, Tal.chk, and_assoc] using hc5⟩) (by omega) (LeR.of ⟨rfl, rfl, rfl, trivial⟩ ⟨(lx rfl), (lx rfl), (lx rfl), (lx rfl), (lx rfl), (lx rfl), (lx rfl), (lx rfl), trivial⟩ ⟨rfl, trivial⟩ rfl rfl rfl rfl rfl)
      · try simp only [cnd] at hc4
        refine WP.exit (EX.exit_then (EX.exit_then (EX.exit_blk (EX.then (WP.seq (WP.region ?_))))))
        refine WPl.v rfl (o_assign rfl) ?_
        refine WPl.nil (EX.then (WP.ret ?_))
        rw [show errT b.chk = 0 from errT_eq.2 (by unfold Book.chk; rw [hhd, ha1, show allI b.talOK b.tals.length = true from by rw [show b.tals.length = i by omega]; exact hall]; rfl)]
        exact EX.fin id (.inl rfl) rfl (.tmp rfl .nil) rfl (by simp [SV.res, El.res, At.res, keys]) trivial (by simp) (by simp)
theorem w86 {b : Book} {v : Bool} : ∀ x ∈ ([.e (.g [.q 0, .q 1, .q 2, ai (b.hall.change), .q 3, .q 4, .q 5, .q 6, ai (b.boys), .q 7]), .b (v)] : List SV), x.res (keys (α := Pred) [(0, PL ETm (b.hall.machs)), (1, PL EBd (b.hall.buns)), (2, PL EP.int (b.hall.trains)), (3, PL EP.int (b.hall.bores)), (4, PL (EP.sl EP.int) (b.hall.eds)), (5, PL EPl (b.set)), (6, PL EP.int (b.walk)), (7, PL ETa (b.tals))]) := by simp [SV.res, El.res, At.res, keys]
theorem r86 {b : Book} {v : Bool} : SV.res (keys (α := Pred) []) (.i (askE b v)) := by simp [SV.res, El.res, At.res, keys]
set_option maxHeartbeats 4000000 in
theorem c86 (b : Book) (v : Bool) (hm : b.Small) : Sig Tryz.prog 86 [.e (.g [.q 0, .q 1, .q 2, ai (b.hall.change), .q 3, .q 4, .q 5, .q 6, ai (b.boys), .q 7]), .b (v)] [(0, PL ETm (b.hall.machs)), (1, PL EBd (b.hall.buns)), (2, PL EP.int (b.hall.trains)), (3, PL EP.int (b.hall.bores)), (4, PL (EP.sl EP.int) (b.hall.eds)), (5, PL EPl (b.set)), (6, PL EP.int (b.walk)), (7, PL ETa (b.tals))] (.i (askE b v)) [] := by
  refine Sig.intro Tryz.func86 rfl 8 [(0, .e (.g [.q 0, .q 1, .q 2, ai (b.hall.change), .q 3, .q 4, .q 5, .q 6, ai (b.boys), .q 7])), (1, .b (v))] rfl w86 rfl rfl fun I w => ?_
  refine WP.seq (WP.region ?_)
  refine WPl.l 8 9 rfl rfl rfl (o_boxg rfl) ?_
  refine WPl.v rfl (o_assign rfl) ?_
  refine WPl.nil (EX.then (WP.seq (WP.seq (WP.region ?_))))
  refine WPl.v rfl (o_ldpa G33 rfl rfl rfl) ?_
  refine WPl.cs 9 rfl rfl rfl rfl (o_sig 9 (ren [(0, 0), (1, 1), (2, 2), (3, 3), (4, 4), (5, 5), (6, 6), (7, 7)]) (c50 b hm) e50 rfl rfl rfl w50 ⟨(lx rfl), (lx rfl), (lx rfl), (lx rfl), (lx rfl), (lx rfl), (lx rfl), (lx rfl), trivial⟩ r50) ?_
  refine WPl.v rfl (o_assign rfl) ?_
  refine WPl.nil (EX.then (WP.seq (WP.region ?_)))
  refine WPl.v rfl (o_move rfl) ?_
  refine WPl.v rfl (o_neq rfl rfl) ?_
  refine WPl.nil (EX.then ?_)
  refine WP.cond rfl (fun hc1 => ?_) (fun hc1 => ?_)
  · try simp only [cnd] at hc1
    refine WP.seq (WP.region ?_)
    refine WPl.v rfl (o_move rfl) ?_
    refine WPl.v rfl (o_assign rfl) ?_
    refine WPl.nil (EX.then (WP.ret (EX.ret_then ?_)))
    rw [show askE b v = errT b.chk from ask0 (by simpa using hc1)]
    exact EX.fin id (.inl rfl) rfl (.tmp rfl .nil) rfl (by simp [SV.res, El.res, At.res, keys]) trivial (by simp) (by simp)
  · try simp only [cnd] at hc1
    refine WP.skip (EX.then (WP.seq (WP.seq (WP.region ?_))))
    refine WPl.v rfl (o_move rfl) ?_
    refine WPl.v rfl (o_not rfl) ?_
    refine WPl.nil (EX.then ?_)
    refine WP.cond rfl (fun hc2 => ?_) (fun hc2 => ?_)
    · try simp only [cnd] at hc2
      refine WP.seq (WP.region ?_)
      refine WPl.v rfl (o_assign rfl) ?_
      refine WPl.nil (EX.then (WP.ret (EX.ret_then ?_)))
      rw [show askE b v = 1 from ask1 (by simpa using hc1) (by simpa using hc2)]
      exact EX.fin id (.inl rfl) rfl (.tmp rfl .nil) rfl (by simp [SV.res, El.res, At.res, keys]) trivial (by simp) (by simp)
    · try simp only [cnd] at hc2
      refine WP.skip (EX.then (WP.seq (WP.region ?_)))
      refine WPl.v rfl (o_assign rfl) ?_
      refine WPl.nil (EX.then (WP.ret ?_))
      rw [show askE b v = 0 from askE_eq.2 ⟨errT_eq.1 (by simpa using hc1), by simpa using hc2⟩]
      exact EX.fin id (.inl rfl) rfl (.tmp rfl .nil) rfl (by simp [SV.res, El.res, At.res, keys]) trivial (by simp) (by simp)
end Go.Flong
namespace Go.Flong
open Go Go.Eng Go.Proofs
abbrev HitI (d : Dom) (h : Int → Bool) : Pred := Pred.fall fun (o : d.T) => FvP Tryz.prog [.i (o.1)] [] (.b (h o.1)) []
theorem e135 : Enters' Tryz.prog 135 := Tryz.call135
abbrev HitM (h : TM → Bool) : Pred := Pred.fall fun (o : TM) => FvP Tryz.prog [.e (.g [ai (o.ready), ai (o.pace), ai (o.stops)])] [] (.b (h o)) []
theorem e181 : Enters' Tryz.prog 181 := Tryz.call181
abbrev HitB (h : TBd → Bool) : Pred := Pred.fall fun (o : TBd) => FvP Tryz.prog [.e (.g [ai (o.train), ai (o.hundreds), ai (o.edition)])] [] (.b (h o)) []
theorem e180 : Enters' Tryz.prog 180 := Tryz.call180
theorem e159 : Enters' Tryz.prog 159 := Tryz.call159
theorem e142 : Enters' Tryz.prog 142 := Tryz.call142
theorem S102 : TyS Tryz.prog 102 := ⟨Tryz.isAgg102, Tryz.sizeOf102⟩
theorem e169 : Enters' Tryz.prog 169 := Tryz.call169
theorem Z102 : Zero Tryz.prog 102 [.v (.nilFunc)] := .mk Tryz.zeroValue102 rfl rfl
theorem e163 : Enters' Tryz.prog 163 := Tryz.call163
theorem e165 : Enters' Tryz.prog 165 := Tryz.call165
theorem e83 : Enters' Tryz.prog 83 := Tryz.call83
theorem e167 : Enters' Tryz.prog 167 := Tryz.call167
theorem e166 : Enters' Tryz.prog 166 := Tryz.call166
theorem e168 : Enters' Tryz.prog 168 := Tryz.call168
theorem e157 : Enters' Tryz.prog 157 := Tryz.call157
theorem e148 : Enters' Tryz.prog 148 := Tryz.call148
theorem e156 : Enters' Tryz.prog 156 := Tryz.call156
theorem e158 : Enters' Tryz.prog 158 := Tryz.call158
theorem w135 {l : List Int} {d : Dom} {h : Int → Bool} : ∀ x ∈ ([.e (.a (.q 0)), .e (.a (.q 1))] : List SV), x.res (keys (α := Pred) [(0, PL EP.int (l)), (1, HitI d h)]) := by simp [SV.res, El.res, At.res, keys]
theorem r135 {l : List Int} {h : Int → Bool} : SV.res (keys (α := Pred) []) (.i (idxG h l)) := by simp [SV.res, El.res, At.res, keys]
set_option maxHeartbeats 4000000 in
theorem c135 (l : List Int) (d : Dom) (h : Int → Bool) (hl : l.length ≤ 10000) (hd : ∀ i : Nat, i < l.length → d.p (nth l (i : Int))) : Sig Tryz.prog 135 [.e (.a (.q 0)), .e (.a (.q 1))] [(0, PL EP.int (l)), (1, HitI d h)] (.i (idxG h l)) [] := by
  refine Sig.intro Tryz.func135 rfl 2 [(0, .e (.a (.q 0))), (1, .e (.a (.q 1)))] rfl w135 rfl rfl fun I w => ?_
  refine WP.seq (WP.region ?_)
  refine WPl.v rfl (o_assign rfl) ?_
  refine WPl.nil (EX.then (WP.seq (WP.seq (WP.region ?_))))
  refine WPl.v rfl (o_move rfl) ?_
  refine WPl.v rfl (o_lenq L24 rfl (lx rfl)) ?_
  refine WPl.v rfl (o_move rfl) ?_
  refine WPl.nil (EX.then (WP.block ?_))
  refine WP.loop (Gh := Nat) (fun i => ⟨2, [(0, .e (.a (.q 0))), (1, .e (.a (.q 1))), (4, .i (0)), (7, .i ((l.length : Int))), (8, .i ((i : Int)))], [(0, PL EP.int (l)), (1, HitI d h)], [], [], []⟩) (fun i => i ≤ l.length ∧ allI (missG h l) i = true) (fun i => l.length - i) (0) id ?_ (LeR.of ⟨rfl, rfl, rfl, rfl, rfl, trivial⟩ ⟨(lx rfl), (lx rfl), trivial⟩ trivial rfl rfl rfl rfl rfl) ?_
  · exact ⟨by omega, rfl⟩
  intro i hφ
  have hi : i ≤ l.length := hφ.1
  have hall := hφ.2
  refine WP.seq (WP.region ?_)
  refine WPl.v rfl (o_lss rfl rfl) ?_
  refine WPl.nil (EX.then (WP.seq ?_))
  refine WP.cond rfl (fun hc1 => ?_) (fun hc1 => ?_)
  · try simp only [cnd] at hc1
    refine WP.skip (EX.then (WP.seq (WP.block (WP.seq (WP.region ?_)))))
    refine WPl.v rfl (o_move rfl) ?_
    refine WPl.v rfl (o_assign rfl) ?_
    refine WPl.nil (EX.then (WP.seq (WP.region ?_)))
    refine WPl.v rfl (o_move rfl) ?_
    refine WPl.v rfl (o_move rfl) ?_
    refine WPl.v rfl (o_move rfl) ?_
    refine WPl.x 2 3 rfl rfl rfl (o_idx L24 rfl (lx rfl) rfl (by first | omega | (simp; omega)) (by first | omega | (simp; omega))) ?_
    refine WPl.v rfl (o_ldq S3 rfl (lx rfl) intc) ?_
    refine WPl.cs 3 rfl rfl rfl rfl (o_callfv (svs := [.i ((⟨nth l (i : Int), hd i (by omega)⟩ : d.T).1)]) 3 id rfl (show Has _ 1 (FvP Tryz.prog [.i ((⟨nth l (i : Int), hd i (by omega)⟩ : d.T).1)] [] (.b (h (⟨nth l (i : Int), hd i (by omega)⟩ : d.T).1)) []) from (Has.of (lx rfl) fun _ _ h => Pred.fall_at h ((⟨nth l (i : Int), hd i (by omega)⟩ : d.T)))) rfl rfl SvsOK.rf (by simp [SV.res, El.res, At.res, keys]) trivial (by simp [SV.res, El.res, At.res, keys])) ?_
    refine WPl.nil (EX.then ?_)
    refine WP.cond rfl (fun hc2 => ?_) (fun hc2 => ?_)
    · try simp only [cnd] at hc2
      refine WP.seq (WP.region ?_)
      refine WPl.v rfl (o_move rfl) ?_
      refine WPl.v rfl (o_assign rfl) ?_
      refine WPl.nil (EX.then (WP.ret (EX.ret_blk (EX.ret_then (EX.ret_then (EX.ret_blk (EX.ret_then ?_)))))))
      rw [show idxG h l = (i : Int) from idxG_at (by omega) hall hc2]
      exact EX.fin id (.inl rfl) rfl (.tmp rfl .nil) rfl (by simp [SV.res, El.res, At.res, keys]) trivial (by simp) (by simp)
    · try simp only [cnd] at hc2
      refine WP.skip (EX.blk (EX.then (WP.region ?_)))
      refine WPl.v rfl (o_add rfl rfl (by first | omega | (simp; omega)) (by first | omega | (simp; omega))) ?_
      refine WPl.v rfl (o_move rfl) ?_
      refine WPl.nil ?_
      refine EX.again (i + 1) id (by exact ⟨by omega, by simp only [allI, hall, Bool.true_and, missG]; rw [hc2]; rfl⟩) (by omega) (LeR.of ⟨rfl, rfl, rfl, rfl, rfl, trivial⟩ ⟨(lx rfl), (lx rfl), trivial⟩ trivial rfl rfl rfl rfl rfl)
  · try simp only [cnd] at hc1
    refine WP.exit (EX.exit_then (EX.exit_then (EX.exit_blk (EX.then (WP.seq (WP.region ?_))))))
    refine WPl.v rfl (o_assign rfl) ?_
    refine WPl.nil (EX.then (WP.ret ?_))
    rw [show idxG h l = -1 from idxG_none (by rw [show l.length = i by omega]; exact hall)]
    exact EX.fin id (.inl rfl) rfl (.tmp rfl .nil) rfl (by simp [SV.res, El.res, At.res, keys]) trivial (by simp) (by simp)
theorem w83 {l : List Int} {d : Dom} {h : Int → Bool} : ∀ x ∈ ([.e (.a (.q 0)), .e (.a (.q 1))] : List SV), x.res (keys (α := Pred) [(0, PL EP.int (l)), (1, HitI d h)]) := by simp [SV.res, El.res, At.res, keys]
theorem r83 {l : List Int} {h : Int → Bool} : SV.res (keys (α := Pred) []) (.b (anyG h l)) := by simp [SV.res, El.res, At.res, keys]
set_option maxHeartbeats 4000000 in
theorem c83 (l : List Int) (d : Dom) (h : Int → Bool) (hl : l.length ≤ 10000) (hd : ∀ i : Nat, i < l.length → d.p (nth l (i : Int))) : Sig Tryz.prog 83 [.e (.a (.q 0)), .e (.a (.q 1))] [(0, PL EP.int (l)), (1, HitI d h)] (.b (anyG h l)) [] := by
  refine Sig.intro Tryz.func83 rfl 2 [(0, .e (.a (.q 0))), (1, .e (.a (.q 1)))] rfl w83 rfl rfl fun I w => ?_
  refine WP.seq (WP.region ?_)
  refine WPl.v rfl (o_assign rfl) ?_
  refine WPl.nil (EX.then (WP.seq (WP.region ?_)))
  refine WPl.v rfl (o_move rfl) ?_
  refine WPl.v rfl (o_move rfl) ?_
  refine WPl.cs 2 rfl rfl rfl rfl (o_sig 2 (ren [(0, 0), (1, 1)]) (c135 l d h hl hd) e135 rfl rfl rfl w135 ⟨(lx rfl), (lx rfl), trivial⟩ r135) ?_
  refine WPl.v rfl (o_geq rfl rfl) ?_
  refine WPl.v rfl (o_assign rfl) ?_
  refine WPl.nil (EX.then (WP.ret ?_))
  rw [← idxG_any]
  exact EX.fin id (.inl rfl) rfl (.tmp rfl .nil) rfl (by simp [SV.res, El.res, At.res, keys]) trivial (by simp) (by simp)
theorem w181 {l : List TM} {h : TM → Bool} : ∀ x ∈ ([.e (.a (.q 0)), .e (.a (.q 1))] : List SV), x.res (keys (α := Pred) [(0, PL ETm (l)), (1, HitM h)]) := by simp [SV.res, El.res, At.res, keys]
theorem r181 {l : List TM} {h : TM → Bool} : SV.res (keys (α := Pred) []) (.i (idxG h l)) := by simp [SV.res, El.res, At.res, keys]
set_option maxHeartbeats 4000000 in
theorem c181 (l : List TM) (h : TM → Bool) (hl : l.length ≤ 10000) : Sig Tryz.prog 181 [.e (.a (.q 0)), .e (.a (.q 1))] [(0, PL ETm (l)), (1, HitM h)] (.i (idxG h l)) [] := by
  refine Sig.intro Tryz.func181 rfl 2 [(0, .e (.a (.q 0))), (1, .e (.a (.q 1)))] rfl w181 rfl rfl fun I w => ?_
  refine WP.seq (WP.region ?_)
  refine WPl.v rfl (o_assign rfl) ?_
  refine WPl.nil (EX.then (WP.seq (WP.seq (WP.region ?_))))
  refine WPl.v rfl (o_move rfl) ?_
  refine WPl.v rfl (o_lenq L22 rfl (lx rfl)) ?_
  refine WPl.v rfl (o_move rfl) ?_
  refine WPl.nil (EX.then (WP.block ?_))
  refine WP.loop (Gh := Nat) (fun i => ⟨2, [(0, .e (.a (.q 0))), (1, .e (.a (.q 1))), (4, .i (0)), (7, .i ((l.length : Int))), (8, .i ((i : Int)))], [(0, PL ETm (l)), (1, HitM h)], [], [], []⟩) (fun i => i ≤ l.length ∧ allI (missG h l) i = true) (fun i => l.length - i) (0) id ?_ (LeR.of ⟨rfl, rfl, rfl, rfl, rfl, trivial⟩ ⟨(lx rfl), (lx rfl), trivial⟩ trivial rfl rfl rfl rfl rfl) ?_
  · exact ⟨by omega, rfl⟩
  intro i hφ
  have hi : i ≤ l.length := hφ.1
  have hall := hφ.2
  refine WP.seq (WP.region ?_)
  refine WPl.v rfl (o_lss rfl rfl) ?_
  refine WPl.nil (EX.then (WP.seq ?_))
  refine WP.cond rfl (fun hc1 => ?_) (fun hc1 => ?_)
  · try simp only [cnd] at hc1
    refine WP.skip (EX.then (WP.seq (WP.block (WP.seq (WP.region ?_)))))
    refine WPl.v rfl (o_move rfl) ?_
    refine WPl.v rfl (o_assign rfl) ?_
    refine WPl.nil (EX.then (WP.seq (WP.region ?_)))
    refine WPl.v rfl (o_move rfl) ?_
    refine WPl.v rfl (o_move rfl) ?_
    refine WPl.v rfl (o_move rfl) ?_
    refine WPl.x 2 3 rfl rfl rfl (o_idx L22 rfl (lx rfl) rfl (by first | omega | (simp; omega)) (by first | omega | (simp; omega))) ?_
    refine WPl.v rfl (o_ldqg G156 rfl (lx rfl) (strG rfl) rfl rfl) ?_
    refine WPl.cs 3 rfl rfl rfl rfl (o_callfv (svs := [.e (.g [ai ((nth l (i : Int)).ready), ai ((nth l (i : Int)).pace), ai ((nth l (i : Int)).stops)])]) 3 id rfl (show Has _ 1 (FvP Tryz.prog [.e (.g [ai ((nth l (i : Int)).ready), ai ((nth l (i : Int)).pace), ai ((nth l (i : Int)).stops)])] [] (.b (h (nth l (i : Int)))) []) from (Has.of (lx rfl) fun _ _ h => Pred.fall_at h ((nth l (i : Int))))) rfl rfl SvsOK.rf (by simp [SV.res, El.res, At.res, keys]) trivial (by simp [SV.res, El.res, At.res, keys])) ?_
    refine WPl.nil (EX.then ?_)
    refine WP.cond rfl (fun hc2 => ?_) (fun hc2 => ?_)
    · try simp only [cnd] at hc2
      refine WP.seq (WP.region ?_)
      refine WPl.v rfl (o_move rfl) ?_
      refine WPl.v rfl (o_assign rfl) ?_
      refine WPl.nil (EX.then (WP.ret (EX.ret_blk (EX.ret_then (EX.ret_then (EX.ret_blk (EX.ret_then ?_)))))))
      rw [show idxG h l = (i : Int) from idxG_at (by omega) hall hc2]
      exact EX.fin id (.inl rfl) rfl (.tmp rfl .nil) rfl (by simp [SV.res, El.res, At.res, keys]) trivial (by simp) (by simp)
    · try simp only [cnd] at hc2
      refine WP.skip (EX.blk (EX.then (WP.region ?_)))
      refine WPl.v rfl (o_add rfl rfl (by first | omega | (simp; omega)) (by first | omega | (simp; omega))) ?_
      refine WPl.v rfl (o_move rfl) ?_
      refine WPl.nil ?_
      refine EX.again (i + 1) id (by exact ⟨by omega, by simp only [allI, hall, Bool.true_and, missG]; rw [hc2]; rfl⟩) (by omega) (LeR.of ⟨rfl, rfl, rfl, rfl, rfl, trivial⟩ ⟨(lx rfl), (lx rfl), trivial⟩ trivial rfl rfl rfl rfl rfl)
  · try simp only [cnd] at hc1
    refine WP.exit (EX.exit_then (EX.exit_then (EX.exit_blk (EX.then (WP.seq (WP.region ?_))))))
    refine WPl.v rfl (o_assign rfl) ?_
    refine WPl.nil (EX.then (WP.ret ?_))
    rw [show idxG h l = -1 from idxG_none (by rw [show l.length = i by omega]; exact hall)]
    exact EX.fin id (.inl rfl) rfl (.tmp rfl .nil) rfl (by simp [SV.res, El.res, At.res, keys]) trivial (by simp) (by simp)
theorem w166 {l : List TM} {h : TM → Bool} : ∀ x ∈ ([.e (.a (.q 0)), .e (.a (.q 1))] : List SV), x.res (keys (α := Pred) [(0, PL ETm (l)), (1, HitM h)]) := by simp [SV.res, El.res, At.res, keys]
theorem r166 {l : List TM} {h : TM → Bool} : SV.res (keys (α := Pred) []) (.b (anyG h l)) := by simp [SV.res, El.res, At.res, keys]
set_option maxHeartbeats 4000000 in
theorem c166 (l : List TM) (h : TM → Bool) (hl : l.length ≤ 10000) : Sig Tryz.prog 166 [.e (.a (.q 0)), .e (.a (.q 1))] [(0, PL ETm (l)), (1, HitM h)] (.b (anyG h l)) [] := by
  refine Sig.intro Tryz.func166 rfl 2 [(0, .e (.a (.q 0))), (1, .e (.a (.q 1)))] rfl w166 rfl rfl fun I w => ?_
  refine WP.seq (WP.region ?_)
  refine WPl.v rfl (o_assign rfl) ?_
  refine WPl.nil (EX.then (WP.seq (WP.region ?_)))
  refine WPl.v rfl (o_move rfl) ?_
  refine WPl.v rfl (o_move rfl) ?_
  refine WPl.cs 2 rfl rfl rfl rfl (o_sig 2 (ren [(0, 0), (1, 1)]) (c181 l h hl) e181 rfl rfl rfl w181 ⟨(lx rfl), (lx rfl), trivial⟩ r181) ?_
  refine WPl.v rfl (o_geq rfl rfl) ?_
  refine WPl.v rfl (o_assign rfl) ?_
  refine WPl.nil (EX.then (WP.ret ?_))
  rw [← idxG_any]
  exact EX.fin id (.inl rfl) rfl (.tmp rfl .nil) rfl (by simp [SV.res, El.res, At.res, keys]) trivial (by simp) (by simp)
theorem w180 {l : List TBd} {h : TBd → Bool} : ∀ x ∈ ([.e (.a (.q 0)), .e (.a (.q 1))] : List SV), x.res (keys (α := Pred) [(0, PL EBd (l)), (1, HitB h)]) := by simp [SV.res, El.res, At.res, keys]
theorem r180 {l : List TBd} {h : TBd → Bool} : SV.res (keys (α := Pred) []) (.i (idxG h l)) := by simp [SV.res, El.res, At.res, keys]
set_option maxHeartbeats 4000000 in
theorem c180 (l : List TBd) (h : TBd → Bool) (hl : l.length ≤ 10000) : Sig Tryz.prog 180 [.e (.a (.q 0)), .e (.a (.q 1))] [(0, PL EBd (l)), (1, HitB h)] (.i (idxG h l)) [] := by
  refine Sig.intro Tryz.func180 rfl 2 [(0, .e (.a (.q 0))), (1, .e (.a (.q 1)))] rfl w180 rfl rfl fun I w => ?_
  refine WP.seq (WP.region ?_)
  refine WPl.v rfl (o_assign rfl) ?_
  refine WPl.nil (EX.then (WP.seq (WP.seq (WP.region ?_))))
  refine WPl.v rfl (o_move rfl) ?_
  refine WPl.v rfl (o_lenq L23 rfl (lx rfl)) ?_
  refine WPl.v rfl (o_move rfl) ?_
  refine WPl.nil (EX.then (WP.block ?_))
  refine WP.loop (Gh := Nat) (fun i => ⟨2, [(0, .e (.a (.q 0))), (1, .e (.a (.q 1))), (4, .i (0)), (7, .i ((l.length : Int))), (8, .i ((i : Int)))], [(0, PL EBd (l)), (1, HitB h)], [], [], []⟩) (fun i => i ≤ l.length ∧ allI (missG h l) i = true) (fun i => l.length - i) (0) id ?_ (LeR.of ⟨rfl, rfl, rfl, rfl, rfl, trivial⟩ ⟨(lx rfl), (lx rfl), trivial⟩ trivial rfl rfl rfl rfl rfl) ?_
  · exact ⟨by omega, rfl⟩
  intro i hφ
  have hi : i ≤ l.length := hφ.1
  have hall := hφ.2
  refine WP.seq (WP.region ?_)
  refine WPl.v rfl (o_lss rfl rfl) ?_
  refine WPl.nil (EX.then (WP.seq ?_))
  refine WP.cond rfl (fun hc1 => ?_) (fun hc1 => ?_)
  · try simp only [cnd] at hc1
    refine WP.skip (EX.then (WP.seq (WP.block (WP.seq (WP.region ?_)))))
    refine WPl.v rfl (o_move rfl) ?_
    refine WPl.v rfl (o_assign rfl) ?_
    refine WPl.nil (EX.then (WP.seq (WP.region ?_)))
    refine WPl.v rfl (o_move rfl) ?_
    refine WPl.v rfl (o_move rfl) ?_
    refine WPl.v rfl (o_move rfl) ?_
    refine WPl.x 2 3 rfl rfl rfl (o_idx L23 rfl (lx rfl) rfl (by first | omega | (simp; omega)) (by first | omega | (simp; omega))) ?_
    refine WPl.v rfl (o_ldqg G95 rfl (lx rfl) (strG rfl) rfl rfl) ?_
    refine WPl.cs 3 rfl rfl rfl rfl (o_callfv (svs := [.e (.g [ai ((nth l (i : Int)).train), ai ((nth l (i : Int)).hundreds), ai ((nth l (i : Int)).edition)])]) 3 id rfl (show Has _ 1 (FvP Tryz.prog [.e (.g [ai ((nth l (i : Int)).train), ai ((nth l (i : Int)).hundreds), ai ((nth l (i : Int)).edition)])] [] (.b (h (nth l (i : Int)))) []) from (Has.of (lx rfl) fun _ _ h => Pred.fall_at h ((nth l (i : Int))))) rfl rfl SvsOK.rf (by simp [SV.res, El.res, At.res, keys]) trivial (by simp [SV.res, El.res, At.res, keys])) ?_
    refine WPl.nil (EX.then ?_)
    refine WP.cond rfl (fun hc2 => ?_) (fun hc2 => ?_)
    · try simp only [cnd] at hc2
      refine WP.seq (WP.region ?_)
      refine WPl.v rfl (o_move rfl) ?_
      refine WPl.v rfl (o_assign rfl) ?_
      refine WPl.nil (EX.then (WP.ret (EX.ret_blk (EX.ret_then (EX.ret_then (EX.ret_blk (EX.ret_then ?_)))))))
      rw [show idxG h l = (i : Int) from idxG_at (by omega) hall hc2]
      exact EX.fin id (.inl rfl) rfl (.tmp rfl .nil) rfl (by simp [SV.res, El.res, At.res, keys]) trivial (by simp) (by simp)
    · try simp only [cnd] at hc2
      refine WP.skip (EX.blk (EX.then (WP.region ?_)))
      refine WPl.v rfl (o_add rfl rfl (by first | omega | (simp; omega)) (by first | omega | (simp; omega))) ?_
      refine WPl.v rfl (o_move rfl) ?_
      refine WPl.nil ?_
      refine EX.again (i + 1) id (by exact ⟨by omega, by simp only [allI, hall, Bool.true_and, missG]; rw [hc2]; rfl⟩) (by omega) (LeR.of ⟨rfl, rfl, rfl, rfl, rfl, trivial⟩ ⟨(lx rfl), (lx rfl), trivial⟩ trivial rfl rfl rfl rfl rfl)
  · try simp only [cnd] at hc1
    refine WP.exit (EX.exit_then (EX.exit_then (EX.exit_blk (EX.then (WP.seq (WP.region ?_))))))
    refine WPl.v rfl (o_assign rfl) ?_
    refine WPl.nil (EX.then (WP.ret ?_))
    rw [show idxG h l = -1 from idxG_none (by rw [show l.length = i by omega]; exact hall)]
    exact EX.fin id (.inl rfl) rfl (.tmp rfl .nil) rfl (by simp [SV.res, El.res, At.res, keys]) trivial (by simp) (by simp)
theorem w157 {l : List TBd} {h : TBd → Bool} : ∀ x ∈ ([.e (.a (.q 0)), .e (.a (.q 1))] : List SV), x.res (keys (α := Pred) [(0, PL EBd (l)), (1, HitB h)]) := by simp [SV.res, El.res, At.res, keys]
theorem r157 {l : List TBd} {h : TBd → Bool} : SV.res (keys (α := Pred) []) (.b (anyG h l)) := by simp [SV.res, El.res, At.res, keys]
set_option maxHeartbeats 4000000 in
theorem c157 (l : List TBd) (h : TBd → Bool) (hl : l.length ≤ 10000) : Sig Tryz.prog 157 [.e (.a (.q 0)), .e (.a (.q 1))] [(0, PL EBd (l)), (1, HitB h)] (.b (anyG h l)) [] := by
  refine Sig.intro Tryz.func157 rfl 2 [(0, .e (.a (.q 0))), (1, .e (.a (.q 1)))] rfl w157 rfl rfl fun I w => ?_
  refine WP.seq (WP.region ?_)
  refine WPl.v rfl (o_assign rfl) ?_
  refine WPl.nil (EX.then (WP.seq (WP.region ?_)))
  refine WPl.v rfl (o_move rfl) ?_
  refine WPl.v rfl (o_move rfl) ?_
  refine WPl.cs 2 rfl rfl rfl rfl (o_sig 2 (ren [(0, 0), (1, 1)]) (c180 l h hl) e180 rfl rfl rfl w180 ⟨(lx rfl), (lx rfl), trivial⟩ r180) ?_
  refine WPl.v rfl (o_geq rfl rfl) ?_
  refine WPl.v rfl (o_assign rfl) ?_
  refine WPl.nil (EX.then (WP.ret ?_))
  rw [← idxG_any]
  exact EX.fin id (.inl rfl) rfl (.tmp rfl .nil) rfl (by simp [SV.res, El.res, At.res, keys]) trivial (by simp) (by simp)
theorem w159 {n : Int} : ∀ x ∈ ([.i (n)] : List SV), x.res (keys (α := Pred) []) := by simp [SV.res, El.res, At.res, keys]
theorem r159  : SV.res (keys (α := Pred) []) (.b (false)) := by simp [SV.res, El.res, At.res, keys]
set_option maxHeartbeats 4000000 in
theorem c159 (n : Int)  : Sig Tryz.prog 159 [.i (n)] [] (.b (false)) [] := by
  refine Sig.intro Tryz.func159 rfl 0 [(0, .i (n))] rfl w159 rfl rfl fun I w => ?_
  refine WP.seq (WP.region ?_)
  refine WPl.v rfl (o_assign rfl) ?_
  refine WPl.nil (EX.then (WP.seq (WP.region ?_)))
  refine WPl.v rfl (o_move rfl) ?_
  refine WPl.v rfl (o_move rfl) ?_
  refine WPl.v rfl (o_neq rfl rfl) ?_
  refine WPl.v rfl (o_assign rfl) ?_
  refine WPl.nil (EX.then (WP.ret ?_))
  rw [show decide (n ≠ n) = false from by simp]
  exact EX.fin id (.inl rfl) rfl (.tmp rfl .nil) rfl (by simp [SV.res, El.res, At.res, keys]) trivial (by simp) (by simp)
theorem w142 {a b : Int} : ∀ x ∈ ([.i (a), .i (b)] : List SV), x.res (keys (α := Pred) []) := by simp [SV.res, El.res, At.res, keys]
theorem r142 {a b : Int} : SV.res (keys (α := Pred) []) (.i (cmpI a b)) := by simp [SV.res, El.res, At.res, keys]
set_option maxHeartbeats 4000000 in
theorem c142 (a b : Int)  : Sig Tryz.prog 142 [.i (a), .i (b)] [] (.i (cmpI a b)) [] := by
  refine Sig.intro Tryz.func142 rfl 0 [(0, .i (a)), (1, .i (b))] rfl w142 rfl rfl fun I w => ?_
  refine WP.seq (WP.region ?_)
  refine WPl.v rfl (o_assign rfl) ?_
  refine WPl.nil (EX.then (WP.seq (WP.region ?_)))
  refine WPl.v rfl (o_move rfl) ?_
  refine WPl.cs 0 rfl rfl rfl rfl (o_sig 0 id (c159 a) e159 rfl rfl rfl w159 trivial r159) ?_
  refine WPl.v rfl (o_assign rfl) ?_
  refine WPl.nil (EX.then (WP.seq (WP.region ?_)))
  refine WPl.v rfl (o_move rfl) ?_
  refine WPl.cs 0 rfl rfl rfl rfl (o_sig 0 id (c159 b) e159 rfl rfl rfl w159 trivial r159) ?_
  refine WPl.v rfl (o_assign rfl) ?_
  refine WPl.nil (EX.then (WP.seq (WP.seq (WP.region ?_))))
  refine WPl.v rfl (o_move rfl) ?_
  refine WPl.nil (EX.then ?_)
  refine WP.cond rfl (fun h => by cases h) (fun _ => ?_)
  refine WP.skip (EX.then (WP.seq (WP.seq (WP.region ?_))))
  refine WPl.v rfl (o_move rfl) ?_
  refine WPl.nil (EX.then ?_)
  refine WP.cond rfl (fun h => by cases h) (fun _ => ?_)
  refine WP.skip (EX.then (WP.seq (WP.seq (WP.region ?_))))
  refine WPl.v rfl (o_move rfl) ?_
  refine WPl.v rfl (o_move rfl) ?_
  refine WPl.v rfl (o_lss rfl rfl) ?_
  refine WPl.nil (EX.then ?_)
  refine WP.cond rfl (fun hc3 => ?_) (fun hc3 => ?_)
  · try simp only [cnd] at hc3
    refine WP.seq (WP.region ?_)
    refine WPl.v rfl (o_assign rfl) ?_
    refine WPl.nil (EX.then (WP.ret (EX.ret_then ?_)))
    rw [show cmpI a b = -1 from if_pos hc3]
    exact EX.fin id (.inl rfl) rfl (.tmp rfl .nil) rfl (by simp [SV.res, El.res, At.res, keys]) trivial (by simp) (by simp)
  · try simp only [cnd] at hc3
    refine WP.skip (EX.then (WP.seq (WP.seq (WP.region ?_))))
    refine WPl.v rfl (o_move rfl) ?_
    refine WPl.v rfl (o_move rfl) ?_
    refine WPl.v rfl (o_gtr rfl rfl) ?_
    refine WPl.nil (EX.then ?_)
    refine WP.cond rfl (fun hc4 => ?_) (fun hc4 => ?_)
    · try simp only [cnd] at hc4
      refine WP.seq (WP.region ?_)
      refine WPl.v rfl (o_assign rfl) ?_
      refine WPl.nil (EX.then (WP.ret (EX.ret_then ?_)))
      rw [show cmpI a b = 1 from by unfold cmpI; rw [if_neg hc3, if_pos hc4]]
      exact EX.fin id (.inl rfl) rfl (.tmp rfl .nil) rfl (by simp [SV.res, El.res, At.res, keys]) trivial (by simp) (by simp)
    · try simp only [cnd] at hc4
      refine WP.skip (EX.then (WP.seq (WP.region ?_)))
      refine WPl.v rfl (o_assign rfl) ?_
      refine WPl.nil (EX.then (WP.ret ?_))
      rw [show cmpI a b = 0 from by unfold cmpI; rw [if_neg hc3, if_neg hc4]]
      exact EX.fin id (.inl rfl) rfl (.tmp rfl .nil) rfl (by simp [SV.res, El.res, At.res, keys]) trivial (by simp) (by simp)
theorem w134 {a b : List Int} : ∀ x ∈ ([.e (.a (.q 0)), .e (.a (.q 1))] : List SV), x.res (keys (α := Pred) [(0, PL EP.int (a)), (1, PL EP.int (b))]) := by simp [SV.res, El.res, At.res, keys]
theorem r134 {a b : List Int} : SV.res (keys (α := Pred) []) (.i (cmpL a b)) := by simp [SV.res, El.res, At.res, keys]
set_option maxHeartbeats 4000000 in
theorem c134 (a b : List Int) (ha : a.length ≤ 1000) (hb : b.length ≤ 1000) : Sig Tryz.prog 134 [.e (.a (.q 0)), .e (.a (.q 1))] [(0, PL EP.int (a)), (1, PL EP.int (b))] (.i (cmpL a b)) [] := by
  refine Sig.intro Tryz.func134 rfl 2 [(0, .e (.a (.q 0))), (1, .e (.a (.q 1)))] rfl w134 rfl rfl fun I w => ?_
  refine WP.seq (WP.region ?_)
  refine WPl.v rfl (o_assign rfl) ?_
  refine WPl.nil (EX.then (WP.seq (WP.seq (WP.region ?_))))
  refine WPl.v rfl (o_move rfl) ?_
  refine WPl.v rfl (o_lenq L24 rfl (lx rfl)) ?_
  refine WPl.v rfl (o_move rfl) ?_
  refine WPl.nil (EX.then (WP.block ?_))
  refine WP.loop (Gh := Nat) (fun i => ⟨2, [(0, .e (.a (.q 0))), (1, .e (.a (.q 1))), (4, .i (0)), (9, .e (.a (.q 0))), (10, .i ((a.length : Int))), (11, .i ((i : Int)))], [(0, PL EP.int (a)), (1, PL EP.int (b))], [], [], []⟩) (fun i => i ≤ a.length ∧ i ≤ b.length ∧ allI (sameAt a b) i = true) (fun i => a.length - i) (0) id ?_ (LeR.of ⟨rfl, rfl, rfl, rfl, rfl, rfl, trivial⟩ ⟨(lx rfl), (lx rfl), trivial⟩ trivial rfl rfl rfl rfl rfl) ?_
  · exact ⟨by omega, ⟨by omega, rfl⟩⟩
  intro i hφ
  have hi : i ≤ a.length := hφ.1
  obtain ⟨_, hb1, hall⟩ := hφ
  refine WP.seq (WP.region ?_)
  refine WPl.v rfl (o_lss rfl rfl) ?_
  refine WPl.nil (EX.then (WP.seq ?_))
  refine WP.cond rfl (fun hc1 => ?_) (fun hc1 => ?_)
  · try simp only [cnd] at hc1
    refine WP.skip (EX.then (WP.seq (WP.block (WP.seq (WP.region ?_)))))
    refine WPl.v rfl (o_move rfl) ?_
    refine WPl.x 2 3 rfl rfl rfl (o_idx L24 rfl (lx rfl) rfl (by first | omega | (simp; omega)) (by first | omega | (simp; omega))) ?_
    refine WPl.v rfl (o_ldq S3 rfl (lx rfl) intc) ?_
    refine WPl.v rfl (o_assign rfl) ?_
    refine WPl.v rfl (o_assign rfl) ?_
    refine WPl.nil (EX.then (WP.seq (WP.seq (WP.region ?_))))
    refine WPl.v rfl (o_move rfl) ?_
    refine WPl.v rfl (o_move rfl) ?_
    refine WPl.v rfl (o_lenq L24 rfl (lx rfl)) ?_
    refine WPl.v rfl (o_geq rfl rfl) ?_
    refine WPl.nil (EX.then ?_)
    refine WP.cond rfl (fun hc2 => ?_) (fun hc2 => ?_)
    · try simp only [cnd] at hc2
      refine WP.seq (WP.region ?_)
      refine WPl.v rfl (o_assign rfl) ?_
      refine WPl.nil (EX.then (WP.ret (EX.ret_then (EX.ret_blk (EX.ret_then (EX.ret_then (EX.ret_blk (EX.ret_then ?_))))))))
      rw [show cmpL a b = 1 from cmpL_long hall (by omega) (by omega)]
      exact EX.fin id (.inl rfl) rfl (.tmp rfl .nil) rfl (by simp [SV.res, El.res, At.res, keys]) trivial (by simp) (by simp)
    · try simp only [cnd] at hc2
      refine WP.skip (EX.then (WP.seq (WP.region ?_)))
      refine WPl.v rfl (o_move rfl) ?_
      refine WPl.v rfl (o_move rfl) ?_
      refine WPl.x 3 4 rfl rfl rfl (o_idx L24 rfl (lx rfl) rfl (by first | omega | (simp; omega)) (by first | omega | (simp; omega))) ?_
      refine WPl.v rfl (o_ldq S3 rfl (lx rfl) intc) ?_
      refine WPl.v rfl (o_assign rfl) ?_
      refine WPl.nil (EX.then (WP.seq (WP.region ?_)))
      refine WPl.v rfl (o_move rfl) ?_
      refine WPl.v rfl (o_move rfl) ?_
      refine WPl.cs 4 rfl rfl rfl rfl (o_sig 4 id (c142 (nth a (i : Int)) (nth b (i : Int))) e142 rfl rfl rfl w142 trivial r142) ?_
      refine WPl.v rfl (o_assign rfl) ?_
      refine WPl.nil (EX.then (WP.seq (WP.region ?_)))
      refine WPl.v rfl (o_move rfl) ?_
      refine WPl.v rfl (o_neq rfl rfl) ?_
      refine WPl.nil (EX.then ?_)
      refine WP.cond rfl (fun hc3 => ?_) (fun hc3 => ?_)
      · try simp only [cnd] at hc3
        refine WP.seq (WP.region ?_)
        refine WPl.v rfl (o_move rfl) ?_
        refine WPl.v rfl (o_assign rfl) ?_
        refine WPl.nil (EX.then (WP.ret (EX.ret_blk (EX.ret_then (EX.ret_then (EX.ret_blk (EX.ret_then ?_)))))))
        rw [show cmpL a b = cmpI (nth a (i : Int)) (nth b (i : Int)) from cmpL_at hall (by omega) (by omega) hc3]
        exact EX.fin id (.inl rfl) rfl (.tmp rfl .nil) rfl (by simp [SV.res, El.res, At.res, keys]) trivial (by simp) (by simp)
      · try simp only [cnd] at hc3
        refine WP.skip (EX.blk (EX.then (WP.region ?_)))
        refine WPl.v rfl (o_add rfl rfl (by first | omega | (simp; omega)) (by first | omega | (simp; omega))) ?_
        refine WPl.v rfl (o_move rfl) ?_
        refine WPl.nil ?_
        refine EX.again (i + 1) id (by exact ⟨by omega, ⟨by omega, by simp only [allI, hall, Bool.true_and, sameAt, decide_eq_true_eq]; exact cmpI_eq.1 hc3⟩⟩) (by omega) (LeR.of ⟨rfl, rfl, rfl, rfl, rfl, rfl, trivial⟩ ⟨(lx rfl), (lx rfl), trivial⟩ trivial rfl rfl rfl rfl rfl)
  · try simp only [cnd] at hc1
    refine WP.exit (EX.exit_then (EX.exit_then (EX.exit_blk (EX.then (WP.seq (WP.seq (WP.region ?_)))))))
    refine WPl.v rfl (o_move rfl) ?_
    refine WPl.v rfl (o_lenq L24 rfl (lx rfl)) ?_
    refine WPl.v rfl (o_move rfl) ?_
    refine WPl.v rfl (o_lenq L24 rfl (lx rfl)) ?_
    refine WPl.v rfl (o_lss rfl rfl) ?_
    refine WPl.nil (EX.then ?_)
    refine WP.cond rfl (fun hc4 => ?_) (fun hc4 => ?_)
    · try simp only [cnd] at hc4
      refine WP.seq (WP.region ?_)
      refine WPl.v rfl (o_assign rfl) ?_
      refine WPl.nil (EX.then (WP.ret (EX.ret_then ?_)))
      rw [show cmpL a b = -1 from cmpL_short hall (by omega) (by omega)]
      exact EX.fin id (.inl rfl) rfl (.tmp rfl .nil) rfl (by simp [SV.res, El.res, At.res, keys]) trivial (by simp) (by simp)
    · try simp only [cnd] at hc4
      refine WP.skip (EX.then (WP.seq (WP.region ?_)))
      refine WPl.v rfl (o_assign rfl) ?_
      refine WPl.nil (EX.then (WP.ret ?_))
      rw [show cmpL a b = 0 from cmpL_same hall (by omega) (by omega)]
      exact EX.fin id (.inl rfl) rfl (.tmp rfl .nil) rfl (by simp [SV.res, El.res, At.res, keys]) trivial (by simp) (by simp)
theorem w141 {l : List Int} : ∀ x ∈ ([.e (.a (.q 0))] : List SV), x.res (keys (α := Pred) [(0, PL EP.int (l))]) := by simp [SV.res, El.res, At.res, keys]
theorem r141 {l : List Int} : SV.res (keys (α := Pred) []) (.i (orL l)) := by simp [SV.res, El.res, At.res, keys]
set_option maxHeartbeats 4000000 in
theorem c141 (l : List Int) (hl : l.length ≤ 1000) : Sig Tryz.prog 141 [.e (.a (.q 0))] [(0, PL EP.int (l))] (.i (orL l)) [] := by
  refine Sig.intro Tryz.func141 rfl 1 [(0, .e (.a (.q 0)))] rfl w141 rfl rfl fun I w => ?_
  refine WP.seq (WP.region ?_)
  refine WPl.v rfl (o_assign rfl) ?_
  refine WPl.nil (EX.then (WP.seq (WP.region ?_)))
  refine WPl.v rfl (o_assign rfl) ?_
  refine WPl.nil (EX.then (WP.seq (WP.seq (WP.region ?_))))
  refine WPl.v rfl (o_move rfl) ?_
  refine WPl.v rfl (o_lenq L24 rfl (lx rfl)) ?_
  refine WPl.v rfl (o_move rfl) ?_
  refine WPl.nil (EX.then (WP.block ?_))
  refine WP.loop (Gh := Nat) (fun i => ⟨1, [(2, .i (0)), (3, .i (0)), (6, .e (.a (.q 0))), (7, .i ((l.length : Int))), (8, .i ((i : Int)))], [(0, PL EP.int (l))], [], [], []⟩) (fun i => i ≤ l.length ∧ allI (fun j => decide (nth l (j : Int) = 0)) i = true) (fun i => l.length - i) (0) id ?_ (LeR.of ⟨rfl, rfl, rfl, rfl, rfl, trivial⟩ ⟨(lx rfl), trivial⟩ trivial rfl rfl rfl rfl rfl) ?_
  · exact ⟨by omega, rfl⟩
  intro i hφ
  have hi : i ≤ l.length := hφ.1
  have hall := hφ.2
  refine WP.seq (WP.region ?_)
  refine WPl.v rfl (o_lss rfl rfl) ?_
  refine WPl.nil (EX.then (WP.seq ?_))
  refine WP.cond rfl (fun hc1 => ?_) (fun hc1 => ?_)
  · try simp only [cnd] at hc1
    refine WP.skip (EX.then (WP.seq (WP.block (WP.seq (WP.region ?_)))))
    refine WPl.x 1 2 rfl rfl rfl (o_idx L24 rfl (lx rfl) rfl (by first | omega | (simp; omega)) (by first | omega | (simp; omega))) ?_
    refine WPl.v rfl (o_ldq S3 rfl (lx rfl) intc) ?_
    refine WPl.v rfl (o_assign rfl) ?_
    refine WPl.nil (EX.then (WP.seq (WP.region ?_)))
    refine WPl.v rfl (o_move rfl) ?_
    refine WPl.v rfl (o_move rfl) ?_
    refine WPl.v rfl (o_neq rfl rfl) ?_
    refine WPl.nil (EX.then ?_)
    refine WP.cond rfl (fun hc2 => ?_) (fun hc2 => ?_)
    · try simp only [cnd] at hc2
      refine WP.seq (WP.region ?_)
      refine WPl.v rfl (o_move rfl) ?_
      refine WPl.v rfl (o_assign rfl) ?_
      refine WPl.nil (EX.then (WP.ret (EX.ret_blk (EX.ret_then (EX.ret_then (EX.ret_blk (EX.ret_then ?_)))))))
      rw [show orL l = nth l (i : Int) from orL_at (by omega) hall hc2]
      exact EX.fin id (.inl rfl) rfl (.tmp rfl .nil) rfl (by simp [SV.res, El.res, At.res, keys]) trivial (by simp) (by simp)
    · try simp only [cnd] at hc2
      refine WP.skip (EX.blk (EX.then (WP.region ?_)))
      refine WPl.v rfl (o_add rfl rfl (by first | omega | (simp; omega)) (by first | omega | (simp; omega))) ?_
      refine WPl.v rfl (o_move rfl) ?_
      refine WPl.nil ?_
      refine EX.again (i + 1) id (by exact ⟨by omega, by simp only [allI, hall, Bool.true_and, decide_eq_true_eq]; exact hc2⟩) (by omega) (LeR.of ⟨rfl, rfl, rfl, rfl, rfl, trivial⟩ ⟨(lx rfl), trivial⟩ trivial rfl rfl rfl rfl rfl)
  · try simp only [cnd] at hc1
    refine WP.exit (EX.exit_then (EX.exit_then (EX.exit_blk (EX.then (WP.seq (WP.region ?_))))))
    refine WPl.v rfl (o_move rfl) ?_
    refine WPl.v rfl (o_assign rfl) ?_
    refine WPl.nil (EX.then (WP.ret ?_))
    have he : i = l.length := by omega
    subst he
    rw [show orL l = 0 from orL_none hall]
    exact EX.fin id (.inl rfl) rfl (.tmp rfl .nil) rfl (by simp [SV.res, El.res, At.res, keys]) trivial (by simp) (by simp)
theorem w163 {n : Int} : ∀ x ∈ ([.i (n)] : List SV), x.res (keys (α := Pred) []) := by simp [SV.res, El.res, At.res, keys]
theorem r163 {n : Int} : SV.res (keys (α := Pred) []) (.b (within n 0 99)) := by simp [SV.res, El.res, At.res, keys]
set_option maxHeartbeats 4000000 in
theorem c163 (n : Int)  : Sig Tryz.prog 163 [.i (n)] [] (.b (within n 0 99)) [] := by
  refine Sig.intro Tryz.func163 rfl 0 [(0, .i (n))] rfl w163 rfl rfl fun I w => ?_
  refine WP.seq (WP.region ?_)
  refine WPl.v rfl (o_assign rfl) ?_
  refine WPl.nil (EX.then (WP.seq (WP.region ?_)))
  refine WPl.v rfl (o_move rfl) ?_
  refine WPl.cs 0 rfl rfl rfl rfl (o_sig 0 id (c164 n 0 99) e164 rfl rfl rfl w164 trivial r164) ?_
  refine WPl.v rfl (o_assign rfl) ?_
  refine WPl.nil (EX.then (WP.ret ?_))
  exact EX.fin id (.inl rfl) rfl (.tmp rfl .nil) rfl r163 trivial (by simp) (by simp)
theorem w165 {n : Int} : ∀ x ∈ ([.i (n), .e (.a (.q 0))] : List SV), x.res (keys (α := Pred) [(0, PP (EP.box (HitI Dom.all (fun x0 => within x0 0 99))) ())]) := by simp [SV.res, El.res, At.res, keys]
theorem r165 {n : Int} : SV.res (keys (α := Pred) []) (.b (!within n 0 99)) := by simp [SV.res, El.res, At.res, keys]
set_option maxHeartbeats 4000000 in
theorem c165 (n : Int)  : Sig Tryz.prog 165 [.i (n), .e (.a (.q 0))] [(0, PP (EP.box (HitI Dom.all (fun x0 => within x0 0 99))) ())] (.b (!within n 0 99)) [] := by
  refine Sig.intro Tryz.func165 rfl 1 [(0, .i (n)), (1, .e (.a (.q 0)))] rfl w165 rfl rfl fun I w => ?_
  refine WP.seq (WP.region ?_)
  refine WPl.v rfl (o_assign rfl) ?_
  refine WPl.nil (EX.then (WP.seq (WP.region ?_)))
  refine WPl.x 1 2 rfl rfl rfl (o_ldqx S102 rfl (lx rfl) boxx) ?_
  refine WPl.v rfl (o_move rfl) ?_
  refine WPl.cs 2 rfl rfl rfl rfl (o_callfv (svs := [.i ((⟨n, trivial⟩ : Dom.all.T).1)]) 2 id rfl (show Has _ 1 (FvP Tryz.prog [.i ((⟨n, trivial⟩ : Dom.all.T).1)] [] (.b ((fun x0 => within x0 0 99) (⟨n, trivial⟩ : Dom.all.T).1)) []) from (Has.of (lx rfl) fun _ _ h => Pred.fall_at h ((⟨n, trivial⟩ : Dom.all.T)))) rfl rfl SvsOK.rf (by simp [SV.res, El.res, At.res, keys]) trivial (by simp [SV.res, El.res, At.res, keys])) ?_
  refine WPl.v rfl (o_not rfl) ?_
  refine WPl.v rfl (o_assign rfl) ?_
  refine WPl.nil (EX.then (WP.ret ?_))
  exact EX.fin id (.inl rfl) rfl (.tmp rfl .nil) rfl r165 trivial (by simp) (by simp)
theorem w167 {m : TM} : ∀ x ∈ ([.e (.g [ai (m.ready), ai (m.pace), ai (m.stops)]), .e (.a (.q 0))] : List SV), x.res (keys (α := Pred) [(0, PP (EP.box (HitI Dom.all (fun x0 => within x0 0 99))) ())]) := by simp [SV.res, El.res, At.res, keys]
set_option maxHeartbeats 4000000 in
theorem c167 (m : TM)  : Sig Tryz.prog 167 [.e (.g [ai (m.ready), ai (m.pace), ai (m.stops)]), .e (.a (.q 0))] [(0, PP (EP.box (HitI Dom.all (fun x0 => within x0 0 99))) ())] (.b (!m.chk)) [] := by
  refine Sig.intro Tryz.func167 rfl 1 [(0, .e (.g [ai (m.ready), ai (m.pace), ai (m.stops)])), (1, .e (.a (.q 0)))] rfl w167 rfl rfl fun I w => ?_
  refine WP.seq (WP.region ?_)
  refine WPl.l 1 2 rfl rfl rfl (o_boxg rfl) ?_
  refine WPl.v rfl (o_assign rfl) ?_
  refine WPl.nil (EX.then (WP.seq (WP.region ?_)))
  refine WPl.x 2 3 rfl rfl rfl (o_ldqx S102 rfl (lx rfl) boxx) ?_
  refine WPl.v rfl (o_fldp F156_0 rfl) ?_
  refine WPl.v rfl (o_ldp S3 rfl rfl rfl) ?_
  refine WPl.cs 3 rfl rfl rfl rfl (o_callfv (svs := [.i ((⟨m.ready, trivial⟩ : Dom.all.T).1)]) 3 id rfl (show Has _ 2 (FvP Tryz.prog [.i ((⟨m.ready, trivial⟩ : Dom.all.T).1)] [] (.b ((fun x0 => within x0 0 99) (⟨m.ready, trivial⟩ : Dom.all.T).1)) []) from (Has.of (lx rfl) fun _ _ h => Pred.fall_at h ((⟨m.ready, trivial⟩ : Dom.all.T)))) rfl rfl SvsOK.rf (by simp [SV.res, El.res, At.res, keys]) trivial (by simp [SV.res, El.res, At.res, keys])) ?_
  refine WPl.v rfl (o_not rfl) ?_
  refine WPl.v rfl (o_move rfl) ?_
  refine WPl.bit 3 4 (!(!((fun x0 => within x0 0 99) (⟨m.ready, trivial⟩ : Dom.all.T).1))) rfl rfl ?_
  refine WPl.gv 3 rfl rfl (.plain rfl (by first | (simp; done) | simp only [Bool.not_eq_true']) rfl) (fun hb => o_fldp F156_1 rfl) ?_
  refine WPl.gv 3 rfl rfl (.plain rfl (by first | (simp; done) | simp only [Bool.not_eq_true']) rfl) (fun hb => o_ldp S3 rfl rfl rfl) ?_
  refine WPl.gc0 3 rfl rfl (.plain rfl (by first | (simp; done) | simp only [Bool.not_eq_true']) rfl) (fun hb => o_sig 4 id (c164 m.pace 1 9) e164 rfl rfl rfl w164 trivial r164) ?_
  refine WPl.gv 3 rfl rfl (.plain rfl (by first | (simp; done) | simp only [Bool.not_eq_true']) rfl) (fun hb => o_not rfl) ?_
  refine WPl.v rfl (o_or rfl rfl rfl (by first | (simp; done) | exact fun h => by rw [h]; rfl | exact fun h => Bool.and_eq_true_iff.2 ⟨hb, by rw [h]; rfl⟩ | simp_all)) ?_
  refine WPl.v rfl (o_move rfl) ?_
  refine WPl.bit 4 5 (!((!((fun x0 => within x0 0 99) (⟨m.ready, trivial⟩ : Dom.all.T).1)) || (!(within m.pace 1 9)))) rfl rfl ?_
  refine WPl.gv 4 rfl rfl (.plain rfl (by first | (simp; done) | simp only [Bool.not_eq_true']) rfl) (fun hb => o_fldp F156_2 rfl) ?_
  refine WPl.gv 4 rfl rfl (.plain rfl (by first | (simp; done) | simp only [Bool.not_eq_true']) rfl) (fun hb => o_ldp S3 rfl rfl rfl) ?_
  refine WPl.gc0 4 rfl rfl (.plain rfl (by first | (simp; done) | simp only [Bool.not_eq_true']) rfl) (fun hb => o_sig 5 id (c164 m.stops 0 1) e164 rfl rfl rfl w164 trivial r164) ?_
  refine WPl.gv 4 rfl rfl (.plain rfl (by first | (simp; done) | simp only [Bool.not_eq_true']) rfl) (fun hb => o_not rfl) ?_
  refine WPl.v rfl (o_or rfl rfl rfl (by first | (simp; done) | exact fun h => by rw [h]; rfl | exact fun h => Bool.and_eq_true_iff.2 ⟨hb, by rw [h]; rfl⟩ | simp_all)) ?_
  refine WPl.v rfl (o_assign rfl) ?_
  refine WPl.nil (EX.then (WP.ret ?_))
  rw [show (!m.chk) = (((!within m.ready 0 99) || !within m.pace 1 9) || !within m.stops 0 1) from by unfold TM.chk; rw [Bool.not_and, Bool.not_and]]
  exact EX.fin id (.inl rfl) rfl (.tmp rfl .nil) rfl (by simp [SV.res, El.res, At.res, keys]) trivial (by simp) (by simp)
theorem w168 {b : TBd} {h : Hall} : ∀ x ∈ ([.e (.g [ai (b.train), ai (b.hundreds), ai (b.edition)]), .e (.a (.q 0))] : List SV), x.res (keys (α := Pred) [(0, PP EHo (h))]) := by simp [SV.res, El.res, At.res, keys]
set_option maxHeartbeats 4000000 in
theorem c168 (b : TBd) (h : Hall) (hl : h.trains.length ≤ 1000) : Sig Tryz.prog 168 [.e (.g [ai (b.train), ai (b.hundreds), ai (b.edition)]), .e (.a (.q 0))] [(0, PP EHo (h))] (.b (!b.chk h.trains.length)) [] := by
  refine Sig.intro Tryz.func168 rfl 1 [(0, .e (.g [ai (b.train), ai (b.hundreds), ai (b.edition)])), (1, .e (.a (.q 0)))] rfl w168 rfl rfl fun I w => ?_
  refine WP.seq (WP.region ?_)
  refine WPl.l 1 2 rfl rfl rfl (o_boxg rfl) ?_
  refine WPl.v rfl (o_assign rfl) ?_
  refine WPl.nil (EX.then (WP.seq (WP.region ?_)))
  refine WPl.cs 5 rfl rfl rfl rfl (o_ldqm (cs0 := [.q 2, .q 3, .q 4, ai (h.change)]) (X' := [(2, PL ETm (h.machs)), (3, PL EBd (h.buns)), (4, PL EP.int (h.trains))]) 2 G26 rfl (lx rfl) rfl rfl rfl) ?_
  refine WPl.v rfl (o_fldp F95_0 rfl) ?_
  refine WPl.v rfl (o_ldp S3 rfl rfl rfl) ?_
  refine WPl.cs 5 rfl rfl rfl rfl (o_sig 5 (ren [(0, 2), (1, 3), (2, 4)]) (c169 h b.train (by omega)) e169 rfl rfl rfl w169 ⟨(lx rfl), (lx rfl), (lx rfl), trivial⟩ r169) ?_
  refine WPl.v rfl (o_not rfl) ?_
  refine WPl.v rfl (o_move rfl) ?_
  refine WPl.bit 5 6 (!(!(within b.train 0 ((h.trains.length : Int) - 1)))) rfl rfl ?_
  refine WPl.gv 5 rfl rfl (.plain rfl (by first | (simp; done) | simp only [Bool.not_eq_true']) rfl) (fun hb => o_fldp F95_1 rfl) ?_
  refine WPl.gv 5 rfl rfl (.plain rfl (by first | (simp; done) | simp only [Bool.not_eq_true']) rfl) (fun hb => o_ldp S3 rfl rfl rfl) ?_
  refine WPl.gc0 5 rfl rfl (.plain rfl (by first | (simp; done) | simp only [Bool.not_eq_true']) rfl) (fun hb => o_sig 6 id (c164 b.hundreds 1 9) e164 rfl rfl rfl w164 trivial r164) ?_
  refine WPl.gv 5 rfl rfl (.plain rfl (by first | (simp; done) | simp only [Bool.not_eq_true']) rfl) (fun hb => o_not rfl) ?_
  refine WPl.v rfl (o_or rfl rfl rfl (by first | (simp; done) | exact fun h => by rw [h]; rfl | exact fun h => Bool.and_eq_true_iff.2 ⟨hb, by rw [h]; rfl⟩ | simp_all)) ?_
  refine WPl.v rfl (o_move rfl) ?_
  refine WPl.bit 6 7 (!((!(within b.train 0 ((h.trains.length : Int) - 1))) || (!(within b.hundreds 1 9)))) rfl rfl ?_
  refine WPl.gv 6 rfl rfl (.plain rfl (by first | (simp; done) | simp only [Bool.not_eq_true']) rfl) (fun hb => o_fldp F95_2 rfl) ?_
  refine WPl.gv 6 rfl rfl (.plain rfl (by first | (simp; done) | simp only [Bool.not_eq_true']) rfl) (fun hb => o_ldp S3 rfl rfl rfl) ?_
  refine WPl.gc0 6 rfl rfl (.plain rfl (by first | (simp; done) | simp only [Bool.not_eq_true']) rfl) (fun hb => o_sig 7 id (c164 b.edition 0 3) e164 rfl rfl rfl w164 trivial r164) ?_
  refine WPl.gv 6 rfl rfl (.plain rfl (by first | (simp; done) | simp only [Bool.not_eq_true']) rfl) (fun hb => o_not rfl) ?_
  refine WPl.v rfl (o_or rfl rfl rfl (by first | (simp; done) | exact fun h => by rw [h]; rfl | exact fun h => Bool.and_eq_true_iff.2 ⟨hb, by rw [h]; rfl⟩ | simp_all)) ?_
  refine WPl.v rfl (o_assign rfl) ?_
  refine WPl.nil (EX.then (WP.ret ?_))
  rw [show (!b.chk h.trains.length) = (((!within b.train 0 ((h.trains.length : Int) - 1)) || !within b.hundreds 1 9) || !within b.edition 0 3) from by unfold TBd.chk; rw [Bool.not_and, Bool.not_and]]
  exact EX.fin id (.inl rfl) rfl (.tmp rfl .nil) rfl (by simp [SV.res, El.res, At.res, keys]) trivial (by simp) (by simp)
theorem w148 {h : Hall} : ∀ x ∈ ([.e (.g [.q 0, .q 1, .q 2, ai (h.change)])] : List SV), x.res (keys (α := Pred) [(0, PL ETm (h.machs)), (1, PL EBd (h.buns)), (2, PL EP.int (h.trains))]) := by simp [SV.res, El.res, At.res, keys]
theorem r148 {h : Hall} : SV.res (keys (α := Pred) []) (.i (errH h.house)) := by simp [SV.res, El.res, At.res, keys]
set_option maxHeartbeats 4000000 in
theorem c148 (h : Hall) (hm : h.Small) : Sig Tryz.prog 148 [.e (.g [.q 0, .q 1, .q 2, ai (h.change)])] [(0, PL ETm (h.machs)), (1, PL EBd (h.buns)), (2, PL EP.int (h.trains))] (.i (errH h.house)) [] := by
  have hm1 := hm.m
  have hm2 := hm.b
  have hm3 := hm.t
  refine Sig.intro Tryz.func148 rfl 3 [(0, .e (.g [.q 0, .q 1, .q 2, ai (h.change)]))] rfl w148 rfl rfl fun I w => ?_
  refine WP.seq (WP.region ?_)
  refine WPl.l 3 4 rfl rfl rfl (o_boxg rfl) ?_
  refine WPl.v rfl (o_assign rfl) ?_
  refine WPl.nil (EX.then (WP.seq (WP.region ?_)))
  refine WPl.l 4 5 rfl rfl rfl (o_alloc Z102) ?_
  refine WPl.s1 (o_sta S102 rfl rfl rfl trivial rfl) ?_
  refine WPl.nil (EX.then (WP.seq (WP.seq (WP.region ?_))))
  refine WPl.imp (Imp.nam 5 6 (.func (.func 163) #[] #[]) (R := (HitI Dom.all (fun x0 => within x0 0 99)).and (Pred.is (.func (.func 163) #[] #[]))) (fun I => FvP.namee (fun (o : Dom.all.T) => (c163 o.1)) e163 (fun _ => (by simp [SV.res, El.res, At.res, keys])) I) rfl rfl) ?_
  refine WPl.imp (Imp.cellf 4 rfl) ?_
  refine WPl.imp (Imp.swL 4 0 5 rfl rfl (lxr rfl)) ?_
  refine WPl.imp (Imp.frzb (E := EP.box (HitI Dom.all (fun x0 => within x0 0 99))) (y := ()) 4 6 7 rfl rfl (bok_box (lxl rfl)) rfl rfl rfl) ?_
  refine WPl.v rfl (o_fldp F26_0 rfl) ?_
  refine WPl.v rfl (o_ldp S22 rfl rfl rfl) ?_
  refine WPl.v rfl (o_lenq L22 rfl (lx rfl)) ?_
  refine WPl.cs 7 rfl rfl rfl rfl (o_sig 7 id (c164 (h.machs.length : Int) 1 3) e164 rfl rfl rfl w164 trivial r164) ?_
  refine WPl.v rfl (o_not rfl) ?_
  refine WPl.v rfl (o_move rfl) ?_
  refine WPl.bit 7 8 (!(!(within (h.machs.length : Int) 1 3))) rfl rfl ?_
  refine WPl.gv 7 rfl rfl (.plain rfl (by first | (simp; done) | simp only [Bool.not_eq_true']) rfl) (fun hb => o_fldp F26_1 rfl) ?_
  refine WPl.gv 7 rfl rfl (.plain rfl (by first | (simp; done) | simp only [Bool.not_eq_true']) rfl) (fun hb => o_ldp S23 rfl rfl rfl) ?_
  refine WPl.gv 7 rfl rfl (.plain rfl (by first | (simp; done) | simp only [Bool.not_eq_true']) rfl) (fun hb => o_lenq L23 rfl (lx rfl)) ?_
  refine WPl.gv 7 rfl rfl (.plain rfl (by first | (simp; done) | simp only [Bool.not_eq_true']) rfl) (fun hb => o_gtr rfl rfl) ?_
  refine WPl.v rfl (o_or rfl rfl rfl (by first | (simp; done) | exact fun h => by rw [h]; rfl | exact fun h => Bool.and_eq_true_iff.2 ⟨hb, by rw [h]; rfl⟩ | simp_all)) ?_
  refine WPl.v rfl (o_move rfl) ?_
  refine WPl.bit 8 9 (!((!(within (h.machs.length : Int) 1 3)) || (decide (5 < (h.buns.length : Int))))) rfl rfl ?_
  refine WPl.gv 8 rfl rfl (.plain rfl (by first | (simp; done) | simp only [Bool.not_eq_true']) rfl) (fun hb => o_fldp F26_2 rfl) ?_
  refine WPl.gv 8 rfl rfl (.plain rfl (by first | (simp; done) | simp only [Bool.not_eq_true']) rfl) (fun hb => o_ldp S24 rfl rfl rfl) ?_
  refine WPl.gv 8 rfl rfl (.plain rfl (by first | (simp; done) | simp only [Bool.not_eq_true']) rfl) (fun hb => o_lenq L24 rfl (lx rfl)) ?_
  refine WPl.gv 8 rfl rfl (.plain rfl (by first | (simp; done) | simp only [Bool.not_eq_true']) rfl) (fun hb => o_gtr rfl rfl) ?_
  refine WPl.v rfl (o_or rfl rfl rfl (by first | (simp; done) | exact fun h => by rw [h]; rfl | exact fun h => Bool.and_eq_true_iff.2 ⟨hb, by rw [h]; rfl⟩ | simp_all)) ?_
  refine WPl.v rfl (o_move rfl) ?_
  refine WPl.bit 9 10 (!(((!(within (h.machs.length : Int) 1 3)) || (decide (5 < (h.buns.length : Int)))) || (decide (4 < (h.trains.length : Int))))) rfl rfl ?_
  refine WPl.gv 9 rfl rfl (.plain rfl (by first | (simp; done) | simp only [Bool.not_eq_true']) rfl) (fun hb => o_fldp F26_3 rfl) ?_
  refine WPl.gv 9 rfl rfl (.plain rfl (by first | (simp; done) | simp only [Bool.not_eq_true']) rfl) (fun hb => o_ldp S3 rfl rfl rfl) ?_
  refine WPl.gc0 9 rfl rfl (.plain rfl (by first | (simp; done) | simp only [Bool.not_eq_true']) rfl) (fun hb => o_sig 10 id (c164 h.change 0 9) e164 rfl rfl rfl w164 trivial r164) ?_
  refine WPl.gv 9 rfl rfl (.plain rfl (by first | (simp; done) | simp only [Bool.not_eq_true']) rfl) (fun hb => o_not rfl) ?_
  refine WPl.v rfl (o_or rfl rfl rfl (by first | (simp; done) | exact fun h => by rw [h]; rfl | exact fun h => Bool.and_eq_true_iff.2 ⟨hb, by rw [h]; rfl⟩ | simp_all)) ?_
  refine WPl.v rfl (o_move rfl) ?_
  refine WPl.bit 10 11 (!((((!(within (h.machs.length : Int) 1 3)) || (decide (5 < (h.buns.length : Int)))) || (decide (4 < (h.trains.length : Int)))) || (!(within h.change 0 9)))) rfl rfl ?_
  refine WPl.gv 10 rfl rfl (.plain rfl (by first | (simp; done) | simp only [Bool.not_eq_true']) rfl) (fun hb => o_fldp F26_2 rfl) ?_
  refine WPl.gv 10 rfl rfl (.plain rfl (by first | (simp; done) | simp only [Bool.not_eq_true']) rfl) (fun hb => o_ldp S24 rfl rfl rfl) ?_
  refine WPl.gx 10 11 12 rfl rfl rfl rfl (.plain rfl (by first | (simp; done) | simp only [Bool.not_eq_true']) rfl) (fun hb => o_mkfve (svs := fun (o : Dom.all.T) => [.i (o.1)]) (X0 := fun (o : Dom.all.T) => []) (sv := fun (o : Dom.all.T) => .b ((fun x0 => !within x0 0 99) o.1)) (X := fun (o : Dom.all.T) => []) (cs := [.e (.a (.q 0))]) (Xc := [(0, PP (EP.box (HitI Dom.all (fun x0 => within x0 0 99))) ())]) 11 (ren [(0, 6)]) (fun (o : Dom.all.T) => (c165 o.1)) e165 (fun _ => rfl) rfl SvsOK.rf (fun _ => (by simp [SV.res, El.res, At.res, keys])) (by simp [SV.res, El.res, At.res, keys]) ⟨(lx rfl), trivial⟩) ?_
  refine WPl.gc0 10 rfl rfl (.plain rfl (by first | (simp; done) | simp only [Bool.not_eq_true']) rfl) (fun hb => o_sig 12 (ren [(0, 2), (1, 11)]) (c83 h.trains Dom.all (fun x0 => !within x0 0 99) (by omega) (fun _ _ => trivial)) e83 rfl rfl rfl w83 ⟨(lx rfl), (lxi hb rfl), trivial⟩ r83) ?_
  refine WPl.v rfl (o_or rfl rfl rfl (by first | (simp; done) | exact fun h => by rw [h]; rfl | exact fun h => Bool.and_eq_true_iff.2 ⟨hb, by rw [h]; rfl⟩ | simp_all)) ?_
  refine WPl.nil (EX.then ?_)
  refine WP.cond rfl (fun hc1 => ?_) (fun hc1 => ?_)
  · try simp only [cnd] at hc1
    refine WP.seq (WP.region ?_)
    refine WPl.v rfl (o_assign rfl) ?_
    refine WPl.nil (EX.then (WP.ret (EX.ret_then ?_)))
    rw [show errH h.house = 40 from by rw [show h.house = false from house_false hc1]; rfl]
    exact EX.fin id (.inl rfl) rfl (.tmp rfl .nil) rfl (by simp [SV.res, El.res, At.res, keys]) trivial (by simp) (by simp)
  · try simp only [cnd] at hc1
    refine WP.skip (EX.then (WP.seq (WP.seq (WP.region ?_))))
    refine WPl.imp (Imp.frzb (E := EHo) (y := h) 3 12 13 rfl rfl (bok_str ⟨⟨_, rfl, (lx rfl)⟩, ⟨_, rfl, (lx rfl)⟩, ⟨_, rfl, (lx rfl)⟩, rfl, trivial⟩) rfl rfl rfl) ?_
    refine WPl.v rfl (o_fldq F26_0 rfl (lx rfl)) ?_
    refine WPl.x 13 14 rfl rfl rfl (o_ldex S22 rfl (lx rfl) (strS rfl)) ?_
    refine WPl.x 14 15 rfl rfl rfl (o_mkfve (svs := fun (o : TM) => [.e (.g [ai (o.ready), ai (o.pace), ai (o.stops)])]) (X0 := fun (o : TM) => []) (sv := fun (o : TM) => .b ((fun x0 => !x0.chk) o)) (X := fun (o : TM) => []) (cs := [.e (.a (.q 0))]) (Xc := [(0, PP (EP.box (HitI Dom.all (fun x0 => within x0 0 99))) ())]) 14 (ren [(0, 6)]) (fun (o : TM) => (c167 o)) e167 (fun _ => rfl) rfl SvsOK.rf (fun _ => (by simp [SV.res, El.res, At.res, keys])) (by simp [SV.res, El.res, At.res, keys]) ⟨(lx rfl), trivial⟩) ?_
    refine WPl.cs 15 rfl rfl rfl rfl (o_sig 15 (ren [(0, 13), (1, 14)]) (c166 h.machs (fun x0 => !x0.chk) (by omega)) e166 rfl rfl rfl w166 ⟨(lx rfl), (lx rfl), trivial⟩ r166) ?_
    refine WPl.v rfl (o_move rfl) ?_
    refine WPl.bit 15 16 (!(anyG (fun x0 => !x0.chk) h.machs)) rfl rfl ?_
    refine WPl.gv 15 rfl rfl (.plain rfl (by first | (simp; done) | simp only [Bool.not_eq_true']) rfl) (fun hb => o_fldq F26_1 rfl (lx rfl)) ?_
    refine WPl.gx 15 16 17 rfl rfl rfl rfl (.plain rfl (by first | (simp; done) | simp only [Bool.not_eq_true']) rfl) (fun hb => o_ldex S23 rfl (lx rfl) (strS rfl)) ?_
    refine WPl.gx 15 17 18 rfl rfl rfl rfl (.plain rfl (by first | (simp; done) | simp only [Bool.not_eq_true']) rfl) (fun hb => o_mkfve (svs := fun (o : TBd) => [.e (.g [ai (o.train), ai (o.hundreds), ai (o.edition)])]) (X0 := fun (o : TBd) => []) (sv := fun (o : TBd) => .b ((fun x0 => !x0.chk h.trains.length) o)) (X := fun (o : TBd) => []) (cs := [.e (.a (.q 0))]) (Xc := [(0, PP EHo (h))]) 17 (ren [(0, 12)]) (fun (o : TBd) => (c168 o h (by omega))) e168 (fun _ => rfl) rfl SvsOK.rf (fun _ => (by simp [SV.res, El.res, At.res, keys])) (by simp [SV.res, El.res, At.res, keys]) ⟨(lx rfl), trivial⟩) ?_
    refine WPl.gc0 15 rfl rfl (.plain rfl (by first | (simp; done) | simp only [Bool.not_eq_true']) rfl) (fun hb => o_sig 18 (ren [(0, 16), (1, 17)]) (c157 h.buns (fun x0 => !x0.chk h.trains.length) (by omega)) e157 rfl rfl rfl w157 ⟨(lxi hb rfl), (lxi hb rfl), trivial⟩ r157) ?_
    refine WPl.v rfl (o_or rfl rfl rfl (by first | (simp; done) | exact fun h => by rw [h]; rfl | exact fun h => Bool.and_eq_true_iff.2 ⟨hb, by rw [h]; rfl⟩ | simp_all)) ?_
    refine WPl.nil (EX.then ?_)
    refine WP.cond rfl (fun hc2 => ?_) (fun hc2 => ?_)
    · try simp only [cnd] at hc2
      refine WP.seq (WP.region ?_)
      refine WPl.v rfl (o_assign rfl) ?_
      refine WPl.nil (EX.then (WP.ret (EX.ret_then ?_)))
      rw [show errH h.house = 40 from by rw [show h.house = false from house_false2 hc2]; rfl]
      exact EX.fin id (.inl rfl) rfl (.tmp rfl .nil) rfl (by simp [SV.res, El.res, At.res, keys]) trivial (by simp) (by simp)
    · try simp only [cnd] at hc2
      refine WP.skip (EX.then (WP.seq (WP.region ?_)))
      refine WPl.v rfl (o_assign rfl) ?_
      refine WPl.nil (EX.then (WP.ret ?_))
      rw [show errH h.house = 0 from errH_eq.2 (house_true hc1 hc2)]
      exact EX.fin id (.inl rfl) rfl (.tmp rfl .nil) rfl (by simp [SV.res, El.res, At.res, keys]) trivial (by simp) (by simp)
theorem w156 {n : Int} : ∀ x ∈ ([.i (n)] : List SV), x.res (keys (α := Pred) []) := by simp [SV.res, El.res, At.res, keys]
theorem r156 {n : Int} : SV.res (keys (α := Pred) []) (.b (!within n 0 2)) := by simp [SV.res, El.res, At.res, keys]
set_option maxHeartbeats 4000000 in
theorem c156 (n : Int)  : Sig Tryz.prog 156 [.i (n)] [] (.b (!within n 0 2)) [] := by
  refine Sig.intro Tryz.func156 rfl 0 [(0, .i (n))] rfl w156 rfl rfl fun I w => ?_
  refine WP.seq (WP.region ?_)
  refine WPl.v rfl (o_assign rfl) ?_
  refine WPl.nil (EX.then (WP.seq (WP.region ?_)))
  refine WPl.v rfl (o_move rfl) ?_
  refine WPl.cs 0 rfl rfl rfl rfl (o_sig 0 id (c140 n 0 2) e140 rfl rfl rfl w140 trivial r140) ?_
  refine WPl.v rfl (o_not rfl) ?_
  refine WPl.v rfl (o_assign rfl) ?_
  refine WPl.nil (EX.then (WP.ret ?_))
  exact EX.fin id (.inl rfl) rfl (.tmp rfl .nil) rfl r156 trivial (by simp) (by simp)
theorem w158 {b : TBd} {h : Hall} : ∀ x ∈ ([.e (.g [ai (b.train), ai (b.hundreds), ai (b.edition)]), .e (.a (.q 0))] : List SV), x.res (keys (α := Pred) [(0, PP EHa (h))]) := by simp [SV.res, El.res, At.res, keys]
theorem r158 {b : TBd} {h : Hall} : SV.res (keys (α := Pred) []) (.b (decide ((h.eds.length : Int) ≤ b.edition))) := by simp [SV.res, El.res, At.res, keys]
set_option maxHeartbeats 4000000 in
theorem c158 (b : TBd) (h : Hall)  : Sig Tryz.prog 158 [.e (.g [ai (b.train), ai (b.hundreds), ai (b.edition)]), .e (.a (.q 0))] [(0, PP EHa (h))] (.b (decide ((h.eds.length : Int) ≤ b.edition))) [] := by
  refine Sig.intro Tryz.func158 rfl 1 [(0, .e (.g [ai (b.train), ai (b.hundreds), ai (b.edition)])), (1, .e (.a (.q 0)))] rfl w158 rfl rfl fun I w => ?_
  refine WP.seq (WP.region ?_)
  refine WPl.l 1 2 rfl rfl rfl (o_boxg rfl) ?_
  refine WPl.v rfl (o_assign rfl) ?_
  refine WPl.nil (EX.then (WP.seq (WP.region ?_)))
  refine WPl.v rfl (o_fldp F95_2 rfl) ?_
  refine WPl.v rfl (o_ldp S3 rfl rfl rfl) ?_
  refine WPl.v rfl (o_fldq F29_2 rfl (lx rfl)) ?_
  refine WPl.x 2 3 rfl rfl rfl (o_ldex S27 rfl (lx rfl) (strS rfl)) ?_
  refine WPl.v rfl (o_lenq L27 rfl (lx rfl)) ?_
  refine WPl.v rfl (o_geq rfl rfl) ?_
  refine WPl.v rfl (o_assign rfl) ?_
  refine WPl.nil (EX.then (WP.ret ?_))
  exact EX.fin id (.inl rfl) rfl (.tmp rfl .nil) rfl r158 trivial (by simp) (by simp)
theorem w139 {h : Hall} : ∀ x ∈ ([.e (.g [.q 0, .q 1, .q 2, ai (h.change), .q 3, .q 4])] : List SV), x.res (keys (α := Pred) [(0, PL ETm (h.machs)), (1, PL EBd (h.buns)), (2, PL EP.int (h.trains)), (3, PL EP.int (h.bores)), (4, PL (EP.sl EP.int) (h.eds))]) := by simp [SV.res, El.res, At.res, keys]
theorem r139 {h : Hall} : SV.res (keys (α := Pred) []) (.i (errL h.chk)) := by simp [SV.res, El.res, At.res, keys]
set_option maxHeartbeats 4000000 in
theorem c139 (h : Hall) (hm : h.Small) : Sig Tryz.prog 139 [.e (.g [.q 0, .q 1, .q 2, ai (h.change), .q 3, .q 4])] [(0, PL ETm (h.machs)), (1, PL EBd (h.buns)), (2, PL EP.int (h.trains)), (3, PL EP.int (h.bores)), (4, PL (EP.sl EP.int) (h.eds))] (.i (errL h.chk)) [] := by
  have hm1 := hm.m
  have hm2 := hm.b
  have hm3 := hm.t
  have hm4 := hm.o
  have hm5 := hm.e
  have hm6 := hm.p
  refine Sig.intro Tryz.func139 rfl 5 [(0, .e (.g [.q 0, .q 1, .q 2, ai (h.change), .q 3, .q 4]))] rfl w139 rfl rfl fun I w => ?_
  refine WP.seq (WP.region ?_)
  refine WPl.l 5 6 rfl rfl rfl (o_boxg rfl) ?_
  refine WPl.v rfl (o_assign rfl) ?_
  refine WPl.nil (EX.then (WP.seq (WP.seq (WP.region ?_))))
  refine WPl.v rfl (o_fldp F29_0 rfl) ?_
  refine WPl.v rfl (o_ldpg G26 rfl rfl rfl) ?_
  refine WPl.cs 6 rfl rfl rfl rfl (o_sig 6 (ren [(0, 0), (1, 1), (2, 2)]) (c148 h hm) e148 rfl rfl rfl w148 ⟨(lx rfl), (lx rfl), (lx rfl), trivial⟩ r148) ?_
  refine WPl.v rfl (o_neq rfl rfl) ?_
  refine WPl.v rfl (o_move rfl) ?_
  refine WPl.bit 6 7 (!(decide ((errH h.house) ≠ 0))) rfl rfl ?_
  refine WPl.gv 6 rfl rfl (.plain rfl (by first | (simp; done) | simp only [Bool.not_eq_true']) rfl) (fun hb => o_fldp F29_1 rfl) ?_
  refine WPl.gv 6 rfl rfl (.plain rfl (by first | (simp; done) | simp only [Bool.not_eq_true']) rfl) (fun hb => o_ldp S24 rfl rfl rfl) ?_
  refine WPl.gv 6 rfl rfl (.plain rfl (by first | (simp; done) | simp only [Bool.not_eq_true']) rfl) (fun hb => o_lenq L24 rfl (lx rfl)) ?_
  refine WPl.gv 6 rfl rfl (.plain rfl (by first | (simp; done) | simp only [Bool.not_eq_true']) rfl) (fun hb => o_fldp F29_0 rfl) ?_
  refine WPl.gv 6 rfl rfl (.plain rfl (by first | (simp; done) | simp only [Bool.not_eq_true']) rfl) (fun hb => o_fldp F26_0 rfl) ?_
  refine WPl.gv 6 rfl rfl (.plain rfl (by first | (simp; done) | simp only [Bool.not_eq_true']) rfl) (fun hb => o_ldp S22 rfl rfl rfl) ?_
  refine WPl.gv 6 rfl rfl (.plain rfl (by first | (simp; done) | simp only [Bool.not_eq_true']) rfl) (fun hb => o_lenq L22 rfl (lx rfl)) ?_
  refine WPl.gv 6 rfl rfl (.plain rfl (by first | (simp; done) | simp only [Bool.not_eq_true']) rfl) (fun hb => o_neq rfl rfl) ?_
  refine WPl.v rfl (o_or rfl rfl rfl (by first | (simp; done) | exact fun h => by rw [h]; rfl | exact fun h => Bool.and_eq_true_iff.2 ⟨hb, by rw [h]; rfl⟩ | simp_all)) ?_
  refine WPl.v rfl (o_move rfl) ?_
  refine WPl.bit 7 8 (!((decide ((errH h.house) ≠ 0)) || (decide ((h.bores.length : Int) ≠ (h.machs.length : Int))))) rfl rfl ?_
  refine WPl.gv 7 rfl rfl (.plain rfl (by first | (simp; done) | simp only [Bool.not_eq_true']) rfl) (fun hb => o_fldp F29_2 rfl) ?_
  refine WPl.gv 7 rfl rfl (.plain rfl (by first | (simp; done) | simp only [Bool.not_eq_true']) rfl) (fun hb => o_ldp S27 rfl rfl rfl) ?_
  refine WPl.gv 7 rfl rfl (.plain rfl (by first | (simp; done) | simp only [Bool.not_eq_true']) rfl) (fun hb => o_lenq L27 rfl (lx rfl)) ?_
  refine WPl.gv 7 rfl rfl (.plain rfl (by first | (simp; done) | simp only [Bool.not_eq_true']) rfl) (fun hb => o_gtr rfl rfl) ?_
  refine WPl.v rfl (o_or rfl rfl rfl (by first | (simp; done) | exact fun h => by rw [h]; rfl | exact fun h => Bool.and_eq_true_iff.2 ⟨hb, by rw [h]; rfl⟩ | simp_all)) ?_
  refine WPl.nil (EX.then ?_)
  refine WP.cond rfl (fun hc1 => ?_) (fun hc1 => ?_)
  · try simp only [cnd] at hc1
    refine WP.seq (WP.region ?_)
    refine WPl.v rfl (o_assign rfl) ?_
    refine WPl.nil (EX.then (WP.ret (EX.ret_then ?_)))
    rw [show errL h.chk = 90 from by rw [show h.chk = false from by unfold Hall.chk; rw [show h.hallHd = false from hallHd_false hc1]; simp]; rfl]
    exact EX.fin id (.inl rfl) rfl (.tmp rfl .nil) rfl (by simp [SV.res, El.res, At.res, keys]) trivial (by simp) (by simp)
  · try simp only [cnd] at hc1
    have hhd : h.hallHd = true := hallHd_true hc1
    refine WP.skip (EX.then (WP.seq (WP.seq (WP.region ?_))))
    refine WPl.v rfl (o_fldp F29_1 rfl) ?_
    refine WPl.v rfl (o_ldp S24 rfl rfl rfl) ?_
    refine WPl.imp (Imp.nam 8 9 (.func (.func 156) #[] #[]) (R := (HitI Dom.all (fun x0 => !within x0 0 2)).and (Pred.is (.func (.func 156) #[] #[]))) (fun I => FvP.namee (fun (o : Dom.all.T) => (c156 o.1)) e156 (fun _ => (by simp [SV.res, El.res, At.res, keys])) I) rfl rfl) ?_
    refine WPl.cs 9 rfl rfl rfl rfl (o_sigc 9 (ren [(0, 3), (1, 8)]) (c83 h.bores Dom.all (fun x0 => !within x0 0 2) (by omega) (fun _ _ => trivial)) e83 rfl rfl ⟨.inl rfl, .inr ⟨_, _, rfl, fun _ => rfl, (lxr rfl)⟩, trivial⟩ w83 ⟨(lx rfl), (lxl rfl), trivial⟩ r83) ?_
    refine WPl.nil (EX.then ?_)
    refine WP.cond rfl (fun hc2 => ?_) (fun hc2 => ?_)
    · try simp only [cnd] at hc2
      refine WP.seq (WP.region ?_)
      refine WPl.v rfl (o_assign rfl) ?_
      refine WPl.nil (EX.then (WP.ret (EX.ret_then ?_)))
      rw [show errL h.chk = 90 from by rw [show h.chk = false from by unfold Hall.chk; rw [show allI h.borOK h.bores.length = false from by rw [anyO, Bool.not_eq_true'] at hc2; exact hc2]; simp]; rfl]
      exact EX.fin id (.inl rfl) rfl (.tmp rfl .nil) rfl (by simp [SV.res, El.res, At.res, keys]) trivial (by simp) (by simp)
    · try simp only [cnd] at hc2
      have ha1 : allI h.borOK h.bores.length = true := by rw [anyO, Bool.not_eq_false'] at hc2; exact hc2
      refine WP.skip (EX.then (WP.seq (WP.seq (WP.region ?_))))
      refine WPl.v rfl (o_fldp F29_2 rfl) ?_
      refine WPl.v rfl (o_ldp S27 rfl rfl rfl) ?_
      refine WPl.v rfl (o_lenq L27 rfl (lx rfl)) ?_
      refine WPl.v rfl (o_move rfl) ?_
      refine WPl.nil (EX.then (WP.block ?_))
      refine WP.loop (Gh := Nat) (fun i => ⟨9, [(1, .e (.a (.p 5 (0)))), (2, .i (0)), (31, .e (.a (.q 4))), (32, .i ((h.eds.length : Int))), (33, .i ((i : Int)))], [(0, PL ETm (h.machs)), (1, PL EBd (h.buns)), (2, PL EP.int (h.trains)), (3, PL EP.int (h.bores)), (4, PL (EP.sl EP.int) (h.eds))], [(5, .blk [.q 0, .q 1, .q 2, ai (h.change), .q 3, .q 4] 29)], [], []⟩) (fun i => i ≤ h.eds.length ∧ allI h.edOK i = true) (fun i => h.eds.length - i) (0) id ?_ (LeR.of ⟨rfl, rfl, rfl, rfl, rfl, trivial⟩ ⟨(lx rfl), (lx rfl), (lx rfl), (lx rfl), (lx rfl), trivial⟩ ⟨rfl, trivial⟩ rfl rfl rfl rfl rfl) ?_
      · exact ⟨by omega, rfl⟩
      intro i hφ
      have hi : i ≤ h.eds.length := hφ.1
      have hall := hφ.2
      refine WP.seq (WP.region ?_)
      refine WPl.v rfl (o_lss rfl rfl) ?_
      refine WPl.nil (EX.then (WP.seq ?_))
      refine WP.cond rfl (fun hc3 => ?_) (fun hc3 => ?_)
      · try simp only [cnd] at hc3
        have hpl := hm6 i (by omega)
        refine WP.skip (EX.then (WP.seq (WP.block (WP.seq (WP.region ?_)))))
        refine WPl.x 9 10 rfl rfl rfl (o_idx L27 rfl (lx rfl) rfl (by first | omega | (simp; omega)) (by first | omega | (simp; omega))) ?_
        refine WPl.x 10 11 rfl rfl rfl (o_ldqx S24 rfl (lx rfl) slx) ?_
        refine WPl.v rfl (o_assign rfl) ?_
        refine WPl.nil (EX.then (WP.seq (WP.region ?_)))
        refine WPl.v rfl (o_move rfl) ?_
        refine WPl.v rfl (o_lenq L24 rfl (lx rfl)) ?_
        refine WPl.v rfl (o_move rfl) ?_
        refine WPl.nil (EX.then (WP.block ?_))
        refine WP.loop (Gh := Nat) (fun j => ⟨11, [(1, .e (.a (.p 5 (0)))), (2, .i (0)), (31, .e (.a (.q 4))), (32, .i ((h.eds.length : Int))), (33, .i ((i : Int))), (34, .b (decide ((i : Int) < (h.eds.length : Int)))), (35, .e (.a (.q 9))), (36, .e (.a (.q 10))), (4, .e (.a (.q 10))), (37, .e (.a (.q 10))), (38, .i (((nth h.eds (i : Int)).length : Int))), (39, .i ((j : Int)))], [(0, PL ETm (h.machs)), (1, PL EBd (h.buns)), (2, PL EP.int (h.trains)), (3, PL EP.int (h.bores)), (4, PL (EP.sl EP.int) (h.eds)), (9, PP (EP.sl EP.int) (nth h.eds (i : Int))), (10, PL EP.int (nth h.eds (i : Int)))], [(5, .blk [.q 0, .q 1, .q 2, ai (h.change), .q 3, .q 4] 29)], [], []⟩) (fun j => j ≤ (nth h.eds (i : Int)).length ∧ allI (risingAt (nth h.eds (i : Int)) 0 3) j = true) (fun j => (nth h.eds (i : Int)).length - j) (0) id ?_ (LeR.of ⟨rfl, rfl, rfl, rfl, rfl, rfl, rfl, rfl, rfl, rfl, rfl, rfl, trivial⟩ ⟨(lx rfl), (lx rfl), (lx rfl), (lx rfl), (lx rfl), (lx rfl), (lx rfl), trivial⟩ ⟨rfl, trivial⟩ rfl rfl rfl rfl rfl) ?_
        · exact ⟨by omega, rfl⟩
        intro j hφ
        have hj : j ≤ (nth h.eds (i : Int)).length := hφ.1
        have hin := hφ.2
        refine WP.seq (WP.region ?_)
        refine WPl.v rfl (o_lss rfl rfl) ?_
        refine WPl.nil (EX.then (WP.seq ?_))
        refine WP.cond rfl (fun hc4 => ?_) (fun hc4 => ?_)
        · try simp only [cnd] at hc4
          refine WP.skip (EX.then (WP.seq (WP.block (WP.seq (WP.region ?_)))))
          refine WPl.v rfl (o_move rfl) ?_
          refine WPl.x 11 12 rfl rfl rfl (o_idx L24 rfl (lx rfl) rfl (by first | omega | (simp; omega)) (by first | omega | (simp; omega))) ?_
          refine WPl.v rfl (o_ldq S3 rfl (lx rfl) intc) ?_
          refine WPl.v rfl (o_assign rfl) ?_
          refine WPl.v rfl (o_assign rfl) ?_
          refine WPl.nil (EX.then (WP.seq (WP.region ?_)))
          refine WPl.v rfl (o_move rfl) ?_
          refine WPl.cs 12 rfl rfl rfl rfl (o_sig 12 id (c140 (nth (nth h.eds (i : Int)) (j : Int)) 0 3) e140 rfl rfl rfl w140 trivial r140) ?_
          refine WPl.v rfl (o_not rfl) ?_
          refine WPl.v rfl (o_move rfl) ?_
          refine WPl.bit 12 13 (!(!(within (nth (nth h.eds (i : Int)) (j : Int)) 0 3))) rfl rfl ?_
          refine WPl.gv 12 rfl rfl (.plain rfl (by first | (simp; done) | simp only [Bool.not_eq_true']) rfl) (fun hb => o_move rfl) ?_
          refine WPl.gv 12 rfl rfl (.plain rfl (by first | (simp; done) | simp only [Bool.not_eq_true']) rfl) (fun hb => o_gtr rfl rfl) ?_
          refine WPl.gv 12 rfl rfl (.plain rfl (by first | (simp; done) | simp only [Bool.not_eq_true']) rfl) (fun hb => o_move rfl) ?_
          refine WPl.bit 13 14 ((!(!(within (nth (nth h.eds (i : Int)) (j : Int)) 0 3))) && (decide (0 < (j : Int)))) rfl rfl ?_
          refine WPl.gv 13 rfl rfl (.nest rfl rfl (by first | (simp; done) | simp only [Bool.and_eq_true, Bool.not_eq_true']) rfl) (fun hb => o_move rfl) ?_
          refine WPl.gv 13 rfl rfl (.nest rfl rfl (by first | (simp; done) | simp only [Bool.and_eq_true, Bool.not_eq_true']) rfl) (fun hb => o_move rfl) ?_
          refine WPl.gv 13 rfl rfl (.nest rfl rfl (by first | (simp; done) | simp only [Bool.and_eq_true, Bool.not_eq_true']) rfl) (fun hb => o_move rfl) ?_
          refine WPl.gv 13 rfl rfl (.nest rfl rfl (by first | (simp; done) | simp only [Bool.and_eq_true, Bool.not_eq_true']) rfl) (fun hb => o_sub rfl rfl (by simp at hb; omega) (by simp at hb; omega)) ?_
          refine WPl.gx 13 14 15 rfl rfl rfl rfl (.nest rfl rfl (by first | (simp; done) | simp only [Bool.and_eq_true, Bool.not_eq_true']) rfl) (fun hb => o_idx L24 rfl (lx rfl) rfl (by simp at hb; omega) (by simp at hb; omega)) ?_
          refine WPl.gv 13 rfl rfl (.nest rfl rfl (by first | (simp; done) | simp only [Bool.and_eq_true, Bool.not_eq_true']) rfl) (fun hb => o_ldq S3 rfl (lxi hb rfl) intc) ?_
          refine WPl.gv 13 rfl rfl (.nest rfl rfl (by first | (simp; done) | simp only [Bool.and_eq_true, Bool.not_eq_true']) rfl) (fun hb => o_leq rfl rfl) ?_
          refine WPl.gv 12 rfl rfl (.plain rfl (by first | (simp; done) | simp only [Bool.not_eq_true']) rfl) (fun hb => o_and rfl rfl rfl (by first | (simp; done) | exact fun h => Bool.and_eq_true_iff.2 ⟨hb, h⟩ | simp_all)) ?_
          refine WPl.v rfl (o_or rfl rfl rfl (by first | (simp; done) | exact fun h => by rw [h]; rfl | exact fun h => Bool.and_eq_true_iff.2 ⟨hb, by rw [h]; rfl⟩ | simp_all)) ?_
          refine WPl.nil (EX.then ?_)
          refine WP.cond rfl (fun hc5 => ?_) (fun hc5 => ?_)
          · try simp only [cnd] at hc5
            refine WP.seq (WP.region ?_)
            refine WPl.v rfl (o_assign rfl) ?_
            refine WPl.nil (EX.then (WP.ret (EX.ret_blk (EX.ret_then (EX.ret_then (EX.ret_blk (EX.ret_blk (EX.ret_then (EX.ret_then (EX.ret_blk (EX.ret_then ?_)))))))))))
            rw [show errL h.chk = 90 from by rw [show h.chk = false from by unfold Hall.chk; rw [show allI h.edOK h.eds.length = false from not_allI (show i < h.eds.length by omega) (by unfold Hall.edOK rising; exact not_allI (show j < (nth h.eds (i : Int)).length by omega) (by simp only [risingAt, Bool.and_eq_false_iff, Bool.not_eq_false', Bool.and_eq_true, decide_eq_true_eq]; exact hc5))]; simp]; rfl]
            exact EX.fin id (.inl rfl) rfl (.tmp rfl .nil) rfl (by simp [SV.res, El.res, At.res, keys]) trivial (by simp) (by simp)
          · try simp only [cnd] at hc5
            refine WP.skip (EX.blk (EX.then (WP.region ?_)))
            refine WPl.v rfl (o_add rfl rfl (by first | omega | (simp; omega)) (by first | omega | (simp; omega))) ?_
            refine WPl.v rfl (o_move rfl) ?_
            refine WPl.nil ?_
            refine EX.again (j + 1) id (by exact ⟨by omega, by simp only [allI, hin, Bool.true_and, risingAt, Bool.and_eq_true, Bool.not_eq_true', Bool.and_eq_false_iff, decide_eq_false_iff_not]; exact hc5⟩) (by omega) (LeR.of ⟨rfl, rfl, rfl, rfl, rfl, rfl, rfl, rfl, rfl, rfl, rfl, rfl, trivial⟩ ⟨(lx rfl), (lx rfl), (lx rfl), (lx rfl), (lx rfl), (lx rfl), (lx rfl), trivial⟩ ⟨rfl, trivial⟩ rfl rfl rfl rfl rfl)
        · try simp only [cnd] at hc4
          refine WP.exit (EX.exit_then (EX.exit_then (EX.exit_blk (EX.blk (EX.then (WP.region ?_))))))
          refine WPl.v rfl (o_add rfl rfl (by first | omega | (simp; omega)) (by first | omega | (simp; omega))) ?_
          refine WPl.v rfl (o_move rfl) ?_
          refine WPl.nil ?_
          have hed : h.edOK i = true := by
            unfold Hall.edOK rising
            rw [show (nth h.eds (i : Int)).length = j by omega]
            exact hin
          refine EX.again (i + 1) id (by exact ⟨by omega, by simp only [allI, hall, Bool.true_and]; exact hed⟩) (by omega) (LeR.of ⟨rfl, rfl, rfl, rfl, rfl, trivial⟩ ⟨(lx rfl), (lx rfl), (lx rfl), (lx rfl), (lx rfl), trivial⟩ ⟨rfl, trivial⟩ rfl rfl rfl rfl rfl)
      · try simp only [cnd] at hc3
        have ha2 : allI h.edOK h.eds.length = true := by rw [show h.eds.length = i by omega]; exact hall
        refine WP.exit (EX.exit_then (EX.exit_then (EX.exit_blk (EX.then (WP.seq (WP.seq (WP.region ?_)))))))
        refine WPl.v rfl (o_fldp F29_0 rfl) ?_
        refine WPl.v rfl (o_fldp F26_1 rfl) ?_
        refine WPl.v rfl (o_ldp S23 rfl rfl rfl) ?_
        refine WPl.imp (Imp.frzb (E := EHa) (y := h) 5 9 10 rfl rfl (bok_str ⟨⟨_, rfl, (lx rfl)⟩, ⟨_, rfl, (lx rfl)⟩, ⟨_, rfl, (lx rfl)⟩, rfl, ⟨_, rfl, (lx rfl)⟩, ⟨_, rfl, (lx rfl)⟩, trivial⟩) rfl rfl rfl) ?_
        refine WPl.x 10 11 rfl rfl rfl (o_mkfve (svs := fun (o : TBd) => [.e (.g [ai (o.train), ai (o.hundreds), ai (o.edition)])]) (X0 := fun (o : TBd) => []) (sv := fun (o : TBd) => .b ((fun x0 => decide ((h.eds.length : Int) ≤ x0.edition)) o)) (X := fun (o : TBd) => []) (cs := [.e (.a (.q 0))]) (Xc := [(0, PP EHa (h))]) 10 (ren [(0, 9)]) (fun (o : TBd) => (c158 o h)) e158 (fun _ => rfl) rfl SvsOK.rf (fun _ => (by simp [SV.res, El.res, At.res, keys])) (by simp [SV.res, El.res, At.res, keys]) ⟨(lx rfl), trivial⟩) ?_
        refine WPl.cs 11 rfl rfl rfl rfl (o_sig 11 (ren [(0, 1), (1, 10)]) (c157 h.buns (fun x0 => decide ((h.eds.length : Int) ≤ x0.edition)) (by omega)) e157 rfl rfl rfl w157 ⟨(lx rfl), (lx rfl), trivial⟩ r157) ?_
        refine WPl.nil (EX.then ?_)
        refine WP.cond rfl (fun hc6 => ?_) (fun hc6 => ?_)
        · try simp only [cnd] at hc6
          refine WP.seq (WP.region ?_)
          refine WPl.v rfl (o_assign rfl) ?_
          refine WPl.nil (EX.then (WP.ret (EX.ret_then ?_)))
          rw [show errL h.chk = 90 from by rw [show h.chk = false from by unfold Hall.chk; rw [show allI h.beOK h.buns.length = false from by rw [anyE, Bool.not_eq_true'] at hc6; exact hc6]; simp]; rfl]
          exact EX.fin id (.inl rfl) rfl (.tmp rfl .nil) rfl (by simp [SV.res, El.res, At.res, keys]) trivial (by simp) (by simp)
        · try simp only [cnd] at hc6
          refine WP.skip (EX.then (WP.seq (WP.region ?_)))
          refine WPl.v rfl (o_assign rfl) ?_
          refine WPl.nil (EX.then (WP.ret ?_))
          rw [show errL h.chk = 0 from errL_eq.2 (by unfold Hall.chk; rw [hhd, ha1, ha2, show allI h.beOK h.buns.length = true from by rw [anyE, Bool.not_eq_false'] at hc6; exact hc6]; rfl)]
          exact EX.fin id (.inl rfl) rfl (.tmp rfl .nil) rfl (by simp [SV.res, El.res, At.res, keys]) trivial (by simp) (by simp)
end Go.Flong
