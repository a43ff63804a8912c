/- Walks (printed by gen.py off the specs). -/
import Derived.Test.YtglbnodjcngefaaHP3
import Derived.Test.YtglbnodjcngefaaProg
set_option linter.unusedSimpArgs false
set_option linter.unusedVariables false
namespace Go.Flong
open Go Go.Eng Go.Proofs
theorem e161 : Enters' Try.prog 161 := Try.call161
theorem e138 : Enters' Try.prog 138 := Try.call138
theorem R32 : RowT Try.prog 32 44 1 24 [.slice none 0 0] := ⟨Try.underlying32, ⟨Try.t44, _, by kernel_rfl, rfl, rfl, rfl, rfl⟩, rfl, by decide⟩
theorem e95 : Enters' Try.prog 95 := Try.call95
theorem e94 : Enters' Try.prog 94 := Try.call94
theorem w161 {n : Nat} : ∀ x ∈ ([.e (.a (.v (.int .u64 1))), .e (.a (.v (.int .u64 ((n : Int)))))] : List SV), x.res (keys (α := Pred) []) := by simp [SV.res, El.res, At.res, keys]
theorem r161 {n : Nat} : SV.res (keys (α := Pred) []) (.t [.a (.v (.int .u64 0)), .a (.v (.int .u64 ((n : Int))))]) := by simp [SV.res, El.res, At.res, keys]
set_option maxHeartbeats 4000000 in
theorem c161 (n : Nat) (h : n ≤ 4) : Sig Try.prog 161 [.e (.a (.v (.int .u64 1))), .e (.a (.v (.int .u64 ((n : Int)))))] [] (.t [.a (.v (.int .u64 0)), .a (.v (.int .u64 ((n : Int))))]) [] := by
  refine Sig.intro Try.func161 rfl 0 [(0, .e (.a (.v (.int .u64 1)))), (1, .e (.a (.v (.int .u64 ((n : Int))))))] rfl w161 rfl rfl fun I w => ?_
  refine WP.seq ?_
  refine WP.region ?_
  refine WPl.v rfl (o_assign rfl) ?_
  refine WPl.v rfl (o_assign rfl) ?_
  refine WPl.nil ?_
  refine EX.then ?_
  refine WP.seq ?_
  refine WP.region ?_
  refine WPl.v rfl (o_move rfl) ?_
  refine WPl.v rfl (o_binv rfl rfl (fun _ => rfl)) ?_
  refine WPl.v rfl (o_assign rfl) ?_
  refine WPl.nil ?_
  refine EX.then ?_
  refine WP.seq ?_
  refine WP.region ?_
  refine WPl.v rfl (o_move rfl) ?_
  refine WPl.v rfl (o_binv rfl rfl (fun _ => rfl)) ?_
  refine WPl.v rfl (o_assign rfl) ?_
  refine WPl.nil ?_
  refine EX.then ?_
  refine WP.seq ?_
  refine WP.region ?_
  refine WPl.v rfl (o_move rfl) ?_
  refine WPl.v rfl (o_binv (r := .int .u64 (n : Int)) rfl rfl (fun _ => by rcases (show n = 0 ∨ n = 1 ∨ n = 2 ∨ n = 3 ∨ n = 4 by omega) with rfl | rfl | rfl | rfl | rfl <;> rfl)) ?_
  refine WPl.v rfl (o_assign rfl) ?_
  refine WPl.nil ?_
  refine EX.then ?_
  refine WP.seq ?_
  refine WP.region ?_
  refine WPl.v rfl (o_move rfl) ?_
  refine WPl.v rfl (o_binv (r := .int .u64 0) rfl rfl (fun _ => by rcases (show n = 0 ∨ n = 1 ∨ n = 2 ∨ n = 3 ∨ n = 4 by omega) with rfl | rfl | rfl | rfl | rfl <;> rfl)) ?_
  refine WPl.v rfl (o_assign rfl) ?_
  refine WPl.nil ?_
  refine EX.then ?_
  refine WP.seq ?_
  refine WP.region ?_
  refine WPl.v rfl (o_move rfl) ?_
  refine WPl.v rfl (o_move rfl) ?_
  refine WPl.v rfl (o_binv (r := .int .u64 (n : Int)) rfl rfl (fun _ => by rcases (show n = 0 ∨ n = 1 ∨ n = 2 ∨ n = 3 ∨ n = 4 by omega) with rfl | rfl | rfl | rfl | rfl <;> rfl)) ?_
  refine WPl.v rfl (o_assign rfl) ?_
  refine WPl.nil ?_
  refine EX.then ?_
  refine WP.seq ?_
  refine WP.region ?_
  refine WPl.v rfl (o_move rfl) ?_
  refine WPl.v rfl (o_move rfl) ?_
  refine WPl.v rfl (o_binv (r := .int .u64 0) rfl rfl (fun _ => by rcases (show n = 0 ∨ n = 1 ∨ n = 2 ∨ n = 3 ∨ n = 4 by omega) with rfl | rfl | rfl | rfl | rfl <;> rfl)) ?_
  refine WPl.v rfl (o_move rfl) ?_
  refine WPl.v rfl (o_binv (r := .int .u64 0) rfl rfl (fun _ => by rcases (show n = 0 ∨ n = 1 ∨ n = 2 ∨ n = 3 ∨ n = 4 by omega) with rfl | rfl | rfl | rfl | rfl <;> rfl)) ?_
  refine WPl.v rfl (o_binv rfl rfl (fun _ => rfl)) ?_
  refine WPl.v rfl (o_assign rfl) ?_
  refine WPl.nil ?_
  refine EX.then ?_
  refine WP.seq ?_
  refine WP.region ?_
  refine WPl.v rfl (o_move rfl) ?_
  refine WPl.v rfl (o_binv rfl rfl (fun _ => rfl)) ?_
  refine WPl.v rfl (o_assign rfl) ?_
  refine WPl.nil ?_
  refine EX.then ?_
  refine WP.seq ?_
  refine WP.region ?_
  refine WPl.v rfl (o_move rfl) ?_
  refine WPl.v rfl (o_binv rfl rfl (fun _ => rfl)) ?_
  refine WPl.v rfl (o_assign rfl) ?_
  refine WPl.nil ?_
  refine EX.then ?_
  refine WP.seq ?_
  refine WP.region ?_
  refine WPl.v rfl (o_move rfl) ?_
  refine WPl.v rfl (o_move rfl) ?_
  refine WPl.v rfl (o_move rfl) ?_
  refine WPl.v rfl (o_binv (r := .int .u64 0) rfl rfl (fun _ => by rcases (show n = 0 ∨ n = 1 ∨ n = 2 ∨ n = 3 ∨ n = 4 by omega) with rfl | rfl | rfl | rfl | rfl <;> rfl)) ?_
  refine WPl.v rfl (o_binv rfl rfl (fun _ => rfl)) ?_
  refine WPl.v rfl (o_assign rfl) ?_
  refine WPl.nil ?_
  refine EX.then ?_
  refine WP.seq ?_
  refine WP.region ?_
  refine WPl.v rfl (o_move rfl) ?_
  refine WPl.v rfl (o_move rfl) ?_
  refine WPl.v rfl (o_binv (r := .int .u64 0) rfl rfl (fun _ => by rcases (show n = 0 ∨ n = 1 ∨ n = 2 ∨ n = 3 ∨ n = 4 by omega) with rfl | rfl | rfl | rfl | rfl <;> rfl)) ?_
  refine WPl.v rfl (o_move rfl) ?_
  refine WPl.v rfl (o_binv rfl rfl (fun _ => rfl)) ?_
  refine WPl.v rfl (o_move rfl) ?_
  refine WPl.v rfl (o_binv rfl rfl (fun _ => rfl)) ?_
  refine WPl.v rfl (o_binv rfl rfl (fun _ => rfl)) ?_
  refine WPl.v rfl (o_assign rfl) ?_
  refine WPl.nil ?_
  refine EX.then ?_
  refine WP.seq ?_
  refine WP.region ?_
  refine WPl.v rfl (o_move rfl) ?_
  refine WPl.v rfl (o_move rfl) ?_
  refine WPl.v rfl (o_binv (r := .int .u64 (n : Int)) rfl rfl (fun _ => by rcases (show n = 0 ∨ n = 1 ∨ n = 2 ∨ n = 3 ∨ n = 4 by omega) with rfl | rfl | rfl | rfl | rfl <;> rfl)) ?_
  refine WPl.v rfl (o_assign rfl) ?_
  refine WPl.nil ?_
  refine EX.then ?_
  refine WP.ret ?_
  exact EX.fin id (.inl rfl) rfl (.tmp rfl (.tmp rfl .nil)) rfl r161 trivial (by simp) (by simp)
theorem w138 {n : Nat} : ∀ x ∈ ([.e (.a (.v (.int .u64 1))), .e (.a (.v (.int .u64 ((n : Int)))))] : List SV), x.res (keys (α := Pred) []) := by simp [SV.res, El.res, At.res, keys]
theorem r138 {n : Nat} : SV.res (keys (α := Pred) []) (.t [.a (.v (.int .u64 0)), .a (.v (.int .u64 ((n : Int))))]) := by simp [SV.res, El.res, At.res, keys]
set_option maxHeartbeats 4000000 in
theorem c138 (n : Nat) (h : n ≤ 4) : Sig Try.prog 138 [.e (.a (.v (.int .u64 1))), .e (.a (.v (.int .u64 ((n : Int)))))] [] (.t [.a (.v (.int .u64 0)), .a (.v (.int .u64 ((n : Int))))]) [] := by
  refine Sig.intro Try.func138 rfl 0 [(0, .e (.a (.v (.int .u64 1)))), (1, .e (.a (.v (.int .u64 ((n : Int))))))] rfl w138 rfl rfl fun I w => ?_
  refine WP.seq ?_
  refine WP.region ?_
  refine WPl.v rfl (o_assign rfl) ?_
  refine WPl.v rfl (o_assign rfl) ?_
  refine WPl.nil ?_
  refine EX.then ?_
  refine WP.seq ?_
  refine WP.cond rfl (fun h => by cases h) (fun _ => ?_)
  refine WP.skip ?_
  refine EX.then ?_
  refine WP.seq ?_
  refine WP.region ?_
  refine WPl.v rfl (o_move rfl) ?_
  refine WPl.v rfl (o_move rfl) ?_
  refine WPl.cs 0 rfl rfl rfl rfl (o_sig 0 id (c161 n h) e161 rfl rfl rfl w161 trivial r161) ?_
  refine WPl.v rfl (o_move rfl) ?_
  refine WPl.v rfl (o_extract rfl rfl) ?_
  refine WPl.v rfl (o_extract rfl rfl) ?_
  refine WPl.v rfl (o_assign rfl) ?_
  refine WPl.v rfl (o_assign rfl) ?_
  refine WPl.nil ?_
  refine EX.then ?_
  refine WP.seq ?_
  refine WP.region ?_
  refine WPl.v rfl (o_move rfl) ?_
  refine WPl.v rfl (o_move rfl) ?_
  refine WPl.v rfl (o_assign rfl) ?_
  refine WPl.v rfl (o_assign rfl) ?_
  refine WPl.nil ?_
  refine EX.then ?_
  refine WP.ret ?_
  exact EX.fin id (.inl rfl) rfl (.tmp rfl (.tmp rfl .nil)) rfl r138 trivial (by simp) (by simp)
theorem w95 {n : Nat} {z : List Int} : ∀ x ∈ ([.e (.a (.q 0)), .i ((n : Int))] : List SV), x.res (keys (α := Pred) [(0, PL (EP.sl EP.int) ([z]))]) := by simp [SV.res, El.res, At.res, keys]
theorem r95 {n : Nat} {z : List Int} : SV.res (keys (α := Pred) [(0, PL (EP.sl EP.int) (List.replicate n z))]) (.e (.a (.q 0))) := by simp [SV.res, El.res, At.res, keys]
set_option maxHeartbeats 4000000 in
theorem c95 (n : Nat) (z : List Int) (h : n ≤ 4) : Sig Try.prog 95 [.e (.a (.q 0)), .i ((n : Int))] [(0, PL (EP.sl EP.int) ([z]))] (.e (.a (.q 0))) [(0, PL (EP.sl EP.int) (List.replicate n z))] := by
  refine Sig.intro Try.func95 rfl 1 [(0, .e (.a (.q 0))), (1, .i ((n : Int)))] rfl w95 rfl rfl fun I w => ?_
  refine WP.seq ?_
  refine WP.region ?_
  refine WPl.v rfl (o_assign rfl) ?_
  refine WPl.nil ?_
  refine EX.then ?_
  refine WP.seq ?_
  refine WP.seq ?_
  refine WP.region ?_
  refine WPl.v rfl (o_move rfl) ?_
  refine WPl.v rfl (o_lss rfl rfl) ?_
  refine WPl.nil ?_
  refine EX.then ?_
  refine WP.cond rfl (fun hc1 => ?_) (fun hc1 => ?_)
  · try simp only [decide_eq_true_eq, decide_eq_false_iff_not, Bool.and_eq_true, Bool.or_eq_true, Bool.and_eq_false_iff, Bool.or_eq_false_iff, Bool.not_eq_true', Bool.not_eq_false', ne_eq, Decidable.not_not] at hc1
    all_goals omega
  · try simp only [decide_eq_true_eq, decide_eq_false_iff_not, Bool.and_eq_true, Bool.or_eq_true, Bool.and_eq_false_iff, Bool.or_eq_false_iff, Bool.not_eq_true', Bool.not_eq_false', ne_eq, Decidable.not_not] at hc1
    refine WP.skip ?_
    refine EX.then ?_
    refine WP.seq ?_
    refine WP.region ?_
    refine WPl.v rfl (o_move rfl) ?_
    refine WPl.v rfl (o_lenq L32 rfl (lx rfl)) ?_
    refine WPl.v rfl (o_convv Try.underlying3 Try.underlying157 rfl rfl) ?_
    refine WPl.v rfl (o_move rfl) ?_
    refine WPl.v rfl (o_convv (r := (n : Int)) Try.underlying3 Try.underlying157 rfl (by rcases (show n = 0 ∨ n = 1 ∨ n = 2 ∨ n = 3 ∨ n = 4 by omega) with rfl | rfl | rfl | rfl | rfl <;> rfl)) ?_
    refine WPl.cs 1 rfl rfl rfl rfl (o_sig 1 id (c138 n h) e138 rfl rfl rfl w138 trivial r138) ?_
    refine WPl.v rfl (o_move rfl) ?_
    refine WPl.v rfl (o_extract rfl rfl) ?_
    refine WPl.v rfl (o_extract rfl rfl) ?_
    refine WPl.v rfl (o_assign rfl) ?_
    refine WPl.v rfl (o_assign rfl) ?_
    refine WPl.nil ?_
    refine EX.then ?_
    refine WP.seq ?_
    refine WP.seq ?_
    refine WP.region ?_
    refine WPl.v rfl (o_move rfl) ?_
    refine WPl.v rfl (o_binv rfl rfl (fun _ => rfl)) ?_
    refine WPl.v rfl (o_move rfl) ?_
    refine WPl.on rfl ⟨_, _, rfl, rfl, rfl⟩ (o_move rfl) ?_
    refine WPl.on rfl ⟨_, _, rfl, rfl, rfl⟩ (o_binv (r := .bool false) rfl rfl (fun _ => by rcases (show n = 0 ∨ n = 1 ∨ n = 2 ∨ n = 3 ∨ n = 4 by omega) with rfl | rfl | rfl | rfl | rfl <;> rfl)) ?_
    refine WPl.v rfl (o_pickF rfl rfl) ?_
    refine WPl.nil ?_
    refine EX.then ?_
    refine WP.cond rfl (fun h => by cases h) (fun _ => ?_)
    refine WP.skip ?_
    refine EX.then ?_
    refine WP.seq ?_
    refine WP.region ?_
    refine WPl.v rfl (o_move rfl) ?_
    refine WPl.v rfl (o_convv (r := (n : Int)) Try.underlying157 Try.underlying3 rfl (by rcases (show n = 0 ∨ n = 1 ∨ n = 2 ∨ n = 3 ∨ n = 4 by omega) with rfl | rfl | rfl | rfl | rfl <;> rfl)) ?_
    refine WPl.l 1 2 rfl rfl rfl (o_make (z := ([] : List Int)) (E := (EP.sl EP.int)) n R32 (fun _ => ⟨_, rfl, pl_nil⟩) rfl rfl (by first | omega | (simp; omega)) (by first | omega | (simp; omega))) ?_
    refine WPl.v rfl (o_assign rfl) ?_
    refine WPl.nil ?_
    refine EX.then ?_
    refine WP.seq ?_
    refine WP.region ?_
    refine WPl.v rfl (o_move rfl) ?_
    refine WPl.v rfl (o_move rfl) ?_
    refine WPl.cL (X' := []) 2 rfl rfl rfl rfl rfl (o_copy1 R32 rfl EP.sl_one rfl rfl rfl (lx rfl)) ?_
    refine WPl.v rfl (o_assign rfl) ?_
    refine WPl.nil ?_
    refine EX.then ?_
    refine WP.seq ?_
    refine WP.block ?_
    refine WP.loop (Gh := Nat) (fun c => ⟨2, [(4, .e (.a (.v (.slice none 0 0)))), (7, .e (.a (.q 1))), (8, .i (((c : Nat) : Int)))], [], [(1, .own 44 (EP.sl EP.int).size (repR n z c).length (RP (EP.sl EP.int) (repR n z c)))], [], []⟩) (fun c => c ≤ n ∧ (0 < n → 0 < c)) (fun c => n - c) (min 1 n) id ?_ (LeR.of ⟨rfl, rfl, (congrArg (fun z => some (SV.i z)) (show (((min [z].length (List.replicate n ([] : List Int)).length : Nat) : Int)) = ((fun c => ((c : Nat) : Int)) (min 1 n)) from by simp)), trivial⟩ trivial ⟨(congrArg (fun z => some (Ent.own 44 (EP.sl EP.int).size (List.length z) (RP (EP.sl EP.int) z))) (show (splic (List.replicate n ([] : List Int)) 0 ([z].take (List.replicate n ([] : List Int)).length)) = ((fun c => repR n z c) (min 1 n)) from by rcases (show n = 0 ∨ n = 1 ∨ n = 2 ∨ n = 3 ∨ n = 4 by omega) with rfl | rfl | rfl | rfl | rfl <;> rfl)), trivial⟩ rfl rfl rfl rfl rfl) ?_
    · omega
    intro c hφ
    obtain ⟨hc0, hc9⟩ := hφ
    have hrl : (repR n z c).length = n := repR_len hc0
    refine WP.seq ?_
    refine WP.seq ?_
    refine WP.region ?_
    refine WPl.v rfl (o_move rfl) ?_
    refine WPl.v rfl (o_move rfl) ?_
    refine WPl.v rfl (o_leno L32 rfl rfl) ?_
    refine WPl.v rfl (o_lss rfl rfl) ?_
    refine WPl.nil ?_
    refine EX.then ?_
    refine WP.cond rfl (fun hc3 => ?_) (fun hc3 => ?_)
    · try simp only [decide_eq_true_eq, decide_eq_false_iff_not, Bool.and_eq_true, Bool.or_eq_true, Bool.and_eq_false_iff, Bool.or_eq_false_iff, Bool.not_eq_true', Bool.not_eq_false', ne_eq, Decidable.not_not] at hc3
      refine WP.skip ?_
      refine EX.then ?_
      refine WP.block ?_
      refine WP.pin 1 rfl fun u1 => ?_
      refine WP.draw (nf := 4) [⟨[39, 40, 41, 42, 43, 44, 45], [1, 2, 3], [], [], []⟩, ⟨[38, 40, 42, 43, 44], [3], [], [], []⟩, ⟨[38, 39, 42, 43, 44], [3], [], [], []⟩, ⟨[38, 42, 43, 44], [3], [2], [2], [1, 2]⟩, ⟨[38, 39, 40, 41, 43], [2], [], [], []⟩, ⟨[38, 39, 40, 41, 42], [2], [], [], []⟩, ⟨[38, 39, 40, 41], [2], [3], [3], [4, 5]⟩, ⟨[38], [], [], [1], [1, 2, 3, 4, 5, 6]⟩, ⟨[], [], [], [], [0, 1, 2, 3, 4, 5, 6, 7]⟩, ⟨[], [], [], [], [0, 1, 2, 3, 4, 5, 6, 7, 8]⟩] (by kernel_rfl) (by kernel_rfl) ?_
      refine DRQ.v rfl rfl rfl (o_move rfl) ?_
      refine DRQ.v rfl rfl rfl (o_move rfl) ?_
      refine DRQ.v rfl rfl rfl (o_move rfl) ?_
      refine DRQ.x 2 rfl rfl rfl rfl (o_sliceP (a := ((c : Nat) : Int)) (b := ((repR n z c).length : Int)) L32 rfl (lx rfl) rfl rfl rfl (by first | omega | (simp; omega)) (by first | omega | (simp; omega)) (by first | omega | (simp; omega))) ?_
      refine DRQ.v rfl rfl rfl (o_move rfl) ?_
      refine DRQ.v rfl rfl rfl (o_move rfl) ?_
      refine DRQ.x 3 rfl rfl rfl rfl (o_sliceP (a := 0) (b := ((c : Nat) : Int)) L32 rfl (lx rfl) rfl rfl rfl (by first | omega | (simp; omega)) (by first | omega | (simp; omega)) (by first | omega | (simp; omega))) ?_
      refine DRQ.cL (X' := []) rfl rfl rfl rfl (o_copyP R32 rfl EP.sl_one (lx rfl) rfl rfl (lx rfl) rfl (lx rfl) (by first | omega | (simp; omega)) (by first | omega | (simp; omega)) (by first | omega | (simp; omega)) (by first | omega | (simp; omega))) ?_
      refine DRQ.v rfl rfl rfl (o_add rfl rfl (by first | omega | (simp; omega)) (by first | omega | (simp; omega))) ?_
      refine DRQ.v rfl rfl rfl (o_assign rfl) ?_
      refine DRQ.nil' ?_
      refine EX.blk ?_
      refine EX.again (c + min c (n - c)) id (by omega) (by omega) (LeR.of ⟨rfl, rfl, (congrArg (fun z => some (SV.i z)) (show (((c : Nat) : Int) + ((min ((((c : Nat) : Int) : Int).toNat - (0 : Int).toNat) ((((repR n z c).length : Int) : Int).toNat - (((c : Nat) : Int) : Int).toNat) : Nat) : Int)) = ((fun c => ((c : Nat) : Int)) (c + min c (n - c))) from by simp only [Int.toNat_natCast, hrl]; omega)), trivial⟩ trivial ⟨(congrArg (fun z => some (Ent.own 44 (EP.sl EP.int).size (List.length z) (RP (EP.sl EP.int) z))) (show (splic (repR n z c) (((c : Nat) : Int) : Int).toNat (((repR n z c).drop (0 : Int).toNat).take (min ((((c : Nat) : Int) : Int).toNat - (0 : Int).toNat) ((((repR n z c).length : Int) : Int).toNat - (((c : Nat) : Int) : Int).toNat)))) = ((fun c => repR n z c) (c + min c (n - c))) from repR_step (by omega) (by omega))), trivial⟩ rfl rfl rfl rfl rfl)
    · try simp only [decide_eq_true_eq, decide_eq_false_iff_not, Bool.and_eq_true, Bool.or_eq_true, Bool.and_eq_false_iff, Bool.or_eq_false_iff, Bool.not_eq_true', Bool.not_eq_false', ne_eq, Decidable.not_not] at hc3
      refine WP.exit ?_
      refine EX.exit_then ?_
      refine EX.exit_then ?_
      refine EX.exit_blk ?_
      refine EX.then ?_
      refine WP.seq ?_
      refine WP.region ?_
      refine WPl.v rfl (o_move rfl) ?_
      refine WPl.v rfl (o_assign rfl) ?_
      refine WPl.nil ?_
      refine EX.then ?_
      refine WP.ret ?_
      refine EX.imp (Imp.frz (E := (EP.sl EP.int)) (l := repR n z c) 1 rfl rfl) ?_
      have hcn : c = n := by omega
      subst hcn
      rw [show List.replicate c z = repR c z c from by simp [repR]]
      exact EX.fin (ren [(0, 1)]) (.inl rfl) rfl (.tmp rfl .nil) rfl (by simp [SV.res, El.res, At.res, keys]) ⟨(lx rfl), trivial⟩ (by simp) (by simp)
theorem w94 {l : List Int} : ∀ x ∈ ([.e (.a (.q 0))] : List SV), x.res (keys (α := Pred) [(0, PL EP.int (l))]) := by simp [SV.res, El.res, At.res, keys]
theorem r94 {l : List Int} : SV.res (keys (α := Pred) []) (.i (minL1 l)) := by simp [SV.res, El.res, At.res, keys]
set_option maxHeartbeats 4000000 in
theorem c94 (l : List Int) (h0 : 0 < l.length) (h1 : l.length ≤ 1000) : Sig Try.prog 94 [.e (.a (.q 0))] [(0, PL EP.int (l))] (.i (minL1 l)) [] := by
  refine Sig.intro Try.func94 rfl 1 [(0, .e (.a (.q 0)))] rfl w94 rfl rfl fun I w => ?_
  refine WP.seq ?_
  refine WP.region ?_
  refine WPl.v rfl (o_assign rfl) ?_
  refine WPl.nil ?_
  refine EX.then ?_
  refine WP.seq ?_
  refine WP.seq ?_
  refine WP.region ?_
  refine WPl.v rfl (o_move rfl) ?_
  refine WPl.v rfl (o_lenq L44 rfl (lx rfl)) ?_
  refine WPl.v rfl (o_lss rfl rfl) ?_
  refine WPl.nil ?_
  refine EX.then ?_
  refine WP.cond rfl (fun hc1 => ?_) (fun hc1 => ?_)
  · try simp only [decide_eq_true_eq, decide_eq_false_iff_not, Bool.and_eq_true, Bool.or_eq_true, Bool.and_eq_false_iff, Bool.or_eq_false_iff, Bool.not_eq_true', Bool.not_eq_false', ne_eq, Decidable.not_not] at hc1
    omega
  · try simp only [decide_eq_true_eq, decide_eq_false_iff_not, Bool.and_eq_true, Bool.or_eq_true, Bool.and_eq_false_iff, Bool.or_eq_false_iff, Bool.not_eq_true', Bool.not_eq_false', ne_eq, Decidable.not_not] at hc1
    refine WP.skip ?_
    refine EX.then ?_
    refine WP.seq ?_
    refine WP.region ?_
    refine WPl.v rfl (o_move rfl) ?_
    refine WPl.x 1 2 rfl rfl rfl (o_idx L44 rfl (lx rfl) rfl (by first | omega | (simp; omega)) (by first | omega | (simp; omega))) ?_
    refine WPl.v rfl (o_ldq S3 rfl (lx rfl) intc) ?_
    refine WPl.v rfl (o_assign rfl) ?_
    refine WPl.nil ?_
    refine EX.then ?_
    refine WP.seq ?_
    refine WP.seq ?_
    refine WP.region ?_
    refine WPl.v rfl (o_assign rfl) ?_
    refine WPl.nil ?_
    refine EX.then ?_
    refine WP.block ?_
    refine WP.loop (Gh := Nat) (fun i => ⟨2, [(0, .e (.a (.q 0))), (2, .i (0)), (3, .i (minTo1 l i)), (4, .i ((i : Int) + 1))], [(0, PL EP.int (l))], [], [], []⟩) (fun i => i ≤ l.length - 1) (fun i => l.length - 1 - i) (0) id ?_ (LeR.of ⟨rfl, rfl, (congrArg (fun z => some (SV.i z)) (show (nth l 0) = ((fun i => minTo1 l i) 0) from rfl)), (congrArg (fun z => some (SV.i z)) (show (1) = ((fun i => (i : Int) + 1) 0) from by simp)), trivial⟩ ⟨(lx rfl), trivial⟩ trivial rfl rfl rfl rfl rfl) ?_
    · omega
    intro i hφ
    have hi : i ≤ l.length - 1 := hφ
    refine WP.seq ?_
    refine WP.seq ?_
    refine WP.region ?_
    refine WPl.v rfl (o_move rfl) ?_
    refine WPl.v rfl (o_move rfl) ?_
    refine WPl.v rfl (o_lenq L44 rfl (lx rfl)) ?_
    refine WPl.v rfl (o_lss rfl rfl) ?_
    refine WPl.nil ?_
    refine EX.then ?_
    refine WP.cond rfl (fun hc2 => ?_) (fun hc2 => ?_)
    · try simp only [decide_eq_true_eq, decide_eq_false_iff_not, Bool.and_eq_true, Bool.or_eq_true, Bool.and_eq_false_iff, Bool.or_eq_false_iff, Bool.not_eq_true', Bool.not_eq_false', ne_eq, Decidable.not_not] at hc2
      refine WP.skip ?_
      refine EX.then ?_
      refine WP.seq ?_
      refine WP.block ?_
      refine WP.region ?_
      refine WPl.v rfl (o_move rfl) ?_
      refine WPl.v rfl (o_move rfl) ?_
      refine WPl.v rfl (o_move rfl) ?_
      refine WPl.x 2 3 rfl rfl rfl (o_idx L44 rfl (lx rfl) rfl (by first | omega | (simp; omega)) (by first | omega | (simp; omega))) ?_
      refine WPl.v rfl (o_ldq S3 rfl (lx rfl) intc) ?_
      refine WPl.v rfl (o_min rfl rfl) ?_
      refine WPl.v rfl (o_assign rfl) ?_
      refine WPl.nil ?_
      refine EX.blk ?_
      refine EX.then ?_
      refine WP.region ?_
      refine WPl.v rfl (o_move rfl) ?_
      refine WPl.v rfl (o_add rfl rfl (by first | omega | (simp; omega)) (by first | omega | (simp; omega))) ?_
      refine WPl.v rfl (o_assign rfl) ?_
      refine WPl.nil ?_
      refine EX.again (i + 1) id (by first | omega | (constructor <;> omega)) (by omega) (LeR.of ⟨rfl, rfl, (congrArg (fun z => some (SV.i z)) (show (min (minTo1 l i) (nth l ((i : Int) + 1))) = ((fun i => minTo1 l i) (i + 1)) from by show min (minTo1 l i) (nth l ((i : Int) + 1)) = min (minTo1 l i) (nth l ((i + 1 : Nat) : Int)); rw [show ((i + 1 : Nat) : Int) = (i : Int) + 1 by omega])), (congrArg (fun z => some (SV.i z)) (show (((i : Int) + 1) + 1) = ((fun i => (i : Int) + 1) (i + 1)) from by show (i : Int) + 1 + 1 = ((i + 1 : Nat) : Int) + 1; omega)), trivial⟩ ⟨(lx rfl), trivial⟩ trivial rfl rfl rfl rfl rfl)
    · try simp only [decide_eq_true_eq, decide_eq_false_iff_not, Bool.and_eq_true, Bool.or_eq_true, Bool.and_eq_false_iff, Bool.or_eq_false_iff, Bool.not_eq_true', Bool.not_eq_false', ne_eq, Decidable.not_not] at hc2
      refine WP.exit ?_
      refine EX.exit_then ?_
      refine EX.exit_then ?_
      refine EX.exit_blk ?_
      refine EX.then ?_
      refine WP.seq ?_
      refine WP.region ?_
      refine WPl.v rfl (o_move rfl) ?_
      refine WPl.v rfl (o_assign rfl) ?_
      refine WPl.nil ?_
      refine EX.then ?_
      refine WP.ret ?_
      have hi2 : i = l.length - 1 := by omega
      rw [show minL1 l = minTo1 l i from by rw [hi2]; rfl]
      exact EX.fin id (.inl rfl) rfl (.tmp rfl .nil) rfl (by simp [SV.res, El.res, At.res, keys]) trivial (by simp) (by simp)
theorem w28 {f : Fnd} : ∀ x ∈ ([.e (.g [ai (f.shop.pounds), ai (f.shop.tl), ai (f.shop.th), ai (f.shop.al), ai (f.shop.ah), ai (f.shop.room), ai (f.shop.tpl), ai (f.shop.tph), ai (f.shop.apl), ai (f.shop.aph), .q 0, .q 1])] : List SV), x.res (keys (α := Pred) [(0, PL EPig (f.shop.pigs)), (1, PL ENight (f.nights))]) := by simp [SV.res, El.res, At.res, keys]
theorem r28 {f : Fnd} : SV.res (keys (α := Pred) []) (.t [.a (ai (f.wLastV)), .a (ai (errW f.chk))]) := by simp [SV.res, El.res, At.res, keys]
set_option maxHeartbeats 4000000 in
theorem c28 (f : Fnd) (hl : f.shop.pigs.length ≤ 40) : Sig Try.prog 28 [.e (.g [ai (f.shop.pounds), ai (f.shop.tl), ai (f.shop.th), ai (f.shop.al), ai (f.shop.ah), ai (f.shop.room), ai (f.shop.tpl), ai (f.shop.tph), ai (f.shop.apl), ai (f.shop.aph), .q 0, .q 1])] [(0, PL EPig (f.shop.pigs)), (1, PL ENight (f.nights))] (.t [.a (ai (f.wLastV)), .a (ai (errW f.chk))]) [] := by
  rcases Bool.eq_false_or_eq_true f.chk with hf | hf
  · skip
    refine Sig.intro Try.func28 rfl 2 [(0, .e (.g [ai (f.shop.pounds), ai (f.shop.tl), ai (f.shop.th), ai (f.shop.al), ai (f.shop.ah), ai (f.shop.room), ai (f.shop.tpl), ai (f.shop.tph), ai (f.shop.apl), ai (f.shop.aph), .q 0, .q 1]))] rfl w28 rfl rfl fun I w => ?_
    refine WP.seq ?_
    refine WP.region ?_
    refine WPl.l 2 3 rfl rfl rfl (o_boxg rfl) ?_
    refine WPl.v rfl (o_assign rfl) ?_
    refine WPl.v rfl (o_assign rfl) ?_
    refine WPl.nil ?_
    refine EX.then ?_
    refine WP.seq ?_
    refine WP.region ?_
    refine WPl.v rfl (o_ldpa G31 rfl rfl rfl) ?_
    refine WPl.cM 5 (o_sigm (J := [0]) 3 4 (ren [(0, 0), (1, 1)]) (c76N f hf) e76 rfl rfl SvsOK.rf w76N ⟨(lx rfl), (lx rfl), trivial⟩ (fun _ => rfl) (by simp [SV.res, El.res, At.res, keys]) rfl) rfl rfl rfl fun b9 => ?_
    refine WPl.v rfl (o_move rfl) ?_
    refine WPl.v rfl (o_extract rfl rfl) ?_
    refine WPl.v rfl (o_extract rfl rfl) ?_
    refine WPl.v rfl (o_assign rfl) ?_
    refine WPl.v rfl (o_assign rfl) ?_
    refine WPl.nil ?_
    refine EX.then ?_
    refine WP.seq ?_
    refine WP.seq ?_
    refine WP.region ?_
    refine WPl.v rfl (o_move rfl) ?_
    refine WPl.v rfl (o_neq rfl rfl) ?_
    refine WPl.nil ?_
    refine EX.then ?_
    refine WP.cond rfl (fun hc1 => ?_) (fun hc1 => ?_)
    · try simp only [decide_eq_true_eq, decide_eq_false_iff_not, Bool.and_eq_true, Bool.or_eq_true, Bool.and_eq_false_iff, Bool.or_eq_false_iff, Bool.not_eq_true', Bool.not_eq_false', ne_eq, Decidable.not_not] at hc1
      simp at hc1
    · try simp only [decide_eq_true_eq, decide_eq_false_iff_not, Bool.and_eq_true, Bool.or_eq_true, Bool.and_eq_false_iff, Bool.or_eq_false_iff, Bool.not_eq_true', Bool.not_eq_false', ne_eq, Decidable.not_not] at hc1
      have hcb := Fnd.chkB hf
      have hwl := wFailsTo_len f f.nothing f.nights.length
      refine WP.skip ?_
      refine EX.then ?_
      refine WP.seq ?_
      refine WP.region ?_
      refine WPl.v rfl (o_move rfl) ?_
      refine WPl.v rfl (o_nilq rfl (lx rfl)) ?_
      refine WPl.v rfl (o_fldq F100_0 rfl (lx rfl)) ?_
      refine WPl.v rfl (o_flde F31_0 rfl (lx rfl)) ?_
      refine WPl.v rfl (o_flde F28_4 rfl (lx rfl)) ?_
      refine WPl.x 5 6 rfl rfl rfl (o_ldex S26 rfl (lx rfl) (strS rfl)) ?_
      refine WPl.v rfl (o_lenq L26 rfl (lx rfl)) ?_
      refine WPl.x 6 7 rfl rfl rfl (OpG.settle0 (o_make (z := 0) (E := EP.int) f.shop.pigs.length R44 (fun _ => rfl) rfl rfl (by first | omega | (simp; omega)) (by first | omega | (simp; omega)))) ?_
      refine WPl.v rfl (o_assign rfl) ?_
      refine WPl.nil ?_
      refine EX.then ?_
      refine WP.seq ?_
      refine WP.draw (nf := 14) [⟨[24, 25, 26, 27, 28, 29, 30, 31, 32, 34, 35, 36, 37, 38, 39, 40], [7, 8, 9, 11, 12], [], [], []⟩, ⟨[23, 26, 27, 28, 29, 30, 31, 34, 35, 36, 37, 38, 39, 40], [8, 11, 12], [], [], []⟩, ⟨[23, 26, 27, 28, 29, 30, 31, 34, 35, 36, 37, 38, 39, 40], [8, 11, 12], [7], [7], [1]⟩, ⟨[23, 24, 25, 34, 35, 36, 37, 38, 39, 40], [7, 11, 12], [], [], []⟩, ⟨[23, 24, 25, 34, 35, 36, 37, 38, 39, 40], [7, 11, 12], [], [], [3]⟩, ⟨[23, 24, 25, 34, 35, 36, 37, 38, 39, 40], [7, 11, 12], [], [], [3, 4]⟩, ⟨[23, 24, 25, 34, 35, 36, 37, 38, 39, 40], [7, 11, 12], [], [], [3, 4, 5]⟩, ⟨[23, 24, 25, 34, 35, 36, 37, 38, 39, 40], [7, 11, 12], [8], [8], [3, 4, 5, 6]⟩, ⟨[23, 24, 25, 34, 35, 36, 37, 38, 39, 40], [7, 11, 12], [], [], [3, 4, 5, 6, 7]⟩, ⟨[23, 34, 35, 36, 37, 38, 39, 40], [11, 12], [9], [9], [1, 2, 3, 4, 5, 6, 7, 8]⟩, ⟨[34, 35, 36, 37, 38, 39, 40], [11, 12], [10], [10, 10], [0, 1, 2, 3, 4, 5, 6, 7, 8, 9]⟩, ⟨[23, 24, 25, 26, 27, 28, 29, 30, 31, 32, 33], [7, 8, 9, 10], [], [], []⟩, ⟨[23, 24, 25, 26, 27, 28, 29, 30, 31, 32, 33], [7, 8, 9, 10], [], [], [11]⟩, ⟨[23, 24, 25, 26, 27, 28, 29, 30, 31, 32, 33], [7, 8, 9, 10], [], [], [11, 12]⟩, ⟨[23, 24, 25, 26, 27, 28, 29, 30, 31, 32, 33], [7, 8, 9, 10], [], [], [11, 12, 13]⟩, ⟨[23, 24, 25, 26, 27, 28, 29, 30, 31, 32, 33], [7, 8, 9, 10], [11], [11], [11, 12, 13, 14]⟩, ⟨[23, 24, 25, 26, 27, 28, 29, 30, 31, 32, 33], [7, 8, 9, 10], [], [], [11, 12, 13, 14, 15]⟩, ⟨[23, 24, 25, 26, 27, 28, 29, 30, 31, 32, 33], [7, 8, 9, 10], [12], [12], [11, 12, 13, 14, 15, 16]⟩, ⟨[], [], [13], [13, 10], [0, 1, 2, 3, 4, 5, 6, 7, 8, 9, 10, 11, 12, 13, 14, 15, 16, 17]⟩, ⟨[], [], [], [], [0, 1, 2, 3, 4, 5, 6, 7, 8, 9, 10, 11, 12, 13, 14, 15, 16, 17, 18]⟩, ⟨[], [], [], [], [0, 1, 2, 3, 4, 5, 6, 7, 8, 9, 10, 11, 12, 13, 14, 15, 16, 17, 18, 19]⟩, ⟨[], [], [], [], [0, 1, 2, 3, 4, 5, 6, 7, 8, 9, 10, 11, 12, 13, 14, 15, 16, 17, 18, 19, 20]⟩] (by kernel_rfl) (by kernel_rfl) ?_
      refine DRQ.v rfl rfl rfl (o_move rfl) ?_
      refine DRQ.v rfl rfl rfl (o_move rfl) ?_
      refine DRQ.x 7 rfl rfl rfl rfl (OpG.settle0 (o_bsl (E := (EP.sl EP.int)) (l := [List.replicate f.shop.pigs.length 0]) R32 rfl rfl (.cons ((.inl ⟨_, (lx rfl), PL.one⟩)) rfl (eok_sl (lx rfl)) (.nil)) rfl rfl)) ?_
      refine DRQ.v rfl rfl rfl (o_move rfl) ?_
      refine DRQ.v rfl rfl rfl (o_nilq rfl (lx rfl)) ?_
      refine DRQ.v rfl rfl rfl (o_fldq F100_0 rfl (lx rfl)) ?_
      refine DRQ.v rfl rfl rfl (o_flde F31_1 rfl (lx rfl)) ?_
      refine DRQ.x 8 rfl rfl rfl rfl (o_ldex S29 rfl (lx rfl) (strS rfl)) ?_
      refine DRQ.v rfl rfl rfl (o_lenq L29 rfl (lx rfl)) ?_
      refine DRQ.cs rfl rfl rfl rfl (o_sig 9 (ren [(0, 7)]) (c95 f.nights.length (List.replicate f.shop.pigs.length 0) (by omega)) e95 rfl rfl rfl w95 ⟨(lx rfl), trivial⟩ r95) ?_
      refine DRQ.cL rfl rfl rfl rfl (o_sigo 10 (ren [(0, 3), (1, 9)]) (c89O f (some b9) f.nothing hf (nothingB f)) e89 rfl rfl SvsOK.rf w89O ⟨(lx rfl), (lx rfl), trivial⟩ r89O rfl rfl) ?_
      refine DRQ.v rfl rfl rfl (o_move rfl) ?_
      refine DRQ.v rfl rfl rfl (o_nilq rfl (lx rfl)) ?_
      refine DRQ.v rfl rfl rfl (o_fldq F100_0 rfl (lx rfl)) ?_
      refine DRQ.v rfl rfl rfl (o_flde F31_1 rfl (lx rfl)) ?_
      refine DRQ.x 11 rfl rfl rfl rfl (o_ldex S29 rfl (lx rfl) (strS rfl)) ?_
      refine DRQ.v rfl rfl rfl (o_lenq L29 rfl (lx rfl)) ?_
      refine DRQ.l 12 rfl rfl rfl rfl (o_bsl (E := EP.int) (l := [(f.nights.length : Int)]) R44 rfl rfl (.cons (rfl) rfl (eok_int) (.nil)) rfl rfl) ?_
      refine DRQ.u1 13 rfl rfl rfl (OpG.settle1 (.inl rfl) rfl (o_appo R44 EP.int_one rfl rfl rfl rfl (by have : f.wFails f.nothing = f.wFailsTo f.nothing f.nights.length := rfl; rw [this]; simp; omega) (by have : f.wFails f.nothing = f.wFailsTo f.nothing f.nights.length := rfl; rw [this]; simp; omega))) rfl ?_
      refine DRQ.cs rfl rfl rfl rfl (o_sig 14 (ren [(0, 13)]) (c94 ((f.wFails f.nothing) ++ [(f.nights.length : Int)]) (by simp) (by simp; have : f.wFails f.nothing = f.wFailsTo f.nothing f.nights.length := rfl; rw [this]; omega)) e94 rfl rfl rfl w94 ⟨(lx rfl), trivial⟩ r94) ?_
      refine DRQ.v rfl rfl rfl (o_assign rfl) ?_
      refine DRQ.v rfl rfl rfl (o_assign rfl) ?_
      refine DRQ.nil' ?_
      refine EX.then ?_
      refine WP.ret ?_
      have he : errW f.chk = 0 := by simp [errW, hf]
      rw [he, show f.wLastV = f.wLast from by simp [Fnd.wLastV, hf]]
      exact EX.fin id (.inl rfl) rfl (.tmp rfl (.tmp rfl .nil)) rfl (by simp [SV.res, El.res, At.res, keys]) trivial (by simp) (by simp)
  · skip
    refine Sig.intro Try.func28 rfl 2 [(0, .e (.g [ai (f.shop.pounds), ai (f.shop.tl), ai (f.shop.th), ai (f.shop.al), ai (f.shop.ah), ai (f.shop.room), ai (f.shop.tpl), ai (f.shop.tph), ai (f.shop.apl), ai (f.shop.aph), .q 0, .q 1]))] rfl w28 rfl rfl fun I w => ?_
    refine WP.seq ?_
    refine WP.region ?_
    refine WPl.l 2 3 rfl rfl rfl (o_boxg rfl) ?_
    refine WPl.v rfl (o_assign rfl) ?_
    refine WPl.v rfl (o_assign rfl) ?_
    refine WPl.nil ?_
    refine EX.then ?_
    refine WP.seq ?_
    refine WP.region ?_
    refine WPl.v rfl (o_ldpa G31 rfl rfl rfl) ?_
    refine WPl.cs 3 rfl rfl rfl rfl (o_sig 3 (ren [(0, 0), (1, 1)]) (c76NE f hf hl) e76 rfl rfl rfl w76NE ⟨(lx rfl), (lx rfl), trivial⟩ r76NE) ?_
    refine WPl.v rfl (o_move rfl) ?_
    refine WPl.v rfl (o_extract rfl rfl) ?_
    refine WPl.v rfl (o_extract rfl rfl) ?_
    refine WPl.v rfl (o_assign rfl) ?_
    refine WPl.v rfl (o_assign rfl) ?_
    refine WPl.nil ?_
    refine EX.then ?_
    refine WP.seq ?_
    refine WP.seq ?_
    refine WP.region ?_
    refine WPl.v rfl (o_move rfl) ?_
    refine WPl.v rfl (o_neq rfl rfl) ?_
    refine WPl.nil ?_
    refine EX.then ?_
    refine WP.cond rfl (fun hc1 => ?_) (fun hc1 => ?_)
    · try simp only [decide_eq_true_eq, decide_eq_false_iff_not, Bool.and_eq_true, Bool.or_eq_true, Bool.and_eq_false_iff, Bool.or_eq_false_iff, Bool.not_eq_true', Bool.not_eq_false', ne_eq, Decidable.not_not] at hc1
      refine WP.seq ?_
      refine WP.region ?_
      refine WPl.v rfl (o_move rfl) ?_
      refine WPl.v rfl (o_assign rfl) ?_
      refine WPl.v rfl (o_assign rfl) ?_
      refine WPl.nil ?_
      refine EX.then ?_
      refine WP.ret ?_
      refine EX.ret_then ?_
      have he : errW f.chk = 130 := by simp [errW, hf]
      rw [he, show f.wLastV = 0 from by simp [Fnd.wLastV, hf]]
      exact EX.fin id (.inl rfl) rfl (.tmp rfl (.tmp rfl .nil)) rfl (by simp [SV.res, El.res, At.res, keys]) trivial (by simp) (by simp)
    · try simp only [decide_eq_true_eq, decide_eq_false_iff_not, Bool.and_eq_true, Bool.or_eq_true, Bool.and_eq_false_iff, Bool.or_eq_false_iff, Bool.not_eq_true', Bool.not_eq_false', ne_eq, Decidable.not_not] at hc1
      simp at hc1
end Go.Flong
