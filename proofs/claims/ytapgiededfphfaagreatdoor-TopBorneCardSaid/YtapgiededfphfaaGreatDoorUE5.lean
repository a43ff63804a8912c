/- TopBorne returns true for every input and leaves its arguments as they were (the theorem of the plates that were brought). The table of math/bits is tied to the text of the program. No other condition. -/
import Derived.Test.YtapgiededfphfaaGreatDoorUE4
set_option linter.unusedSimpArgs false
set_option linter.unusedVariables false
namespace Go.Flong
open Go Go.Eng Go.Proofs
theorem e123 : Enters' Tryz.prog 123 := Tryz.call123
theorem e69 : Enters' Tryz.prog 69 := Tryz.call69
theorem Q77 : FlatT Tryz.prog 77 3 2 true := .struct Tryz.underlying77 Tryz.stoodInHeld77 G77 ⟨by decide, rfl, 1, false, Q3, ⟨by decide, rfl, 1, false, Q3, ⟨by decide, rfl, 1, false, Q3, rfl⟩⟩⟩
theorem B156 : BldT Tryz.prog 156 [(0, 1), (1, 1), (2, 1)] [.int .i64 0, .int .i64 0, .int .i64 0] := BldT.mk (ns := [1, 1, 1]) Tryz.underlying156 ⟨Tryz.sizeOf3, Tryz.sizeOf3, Tryz.sizeOf3, trivial⟩ rfl Tryz.zeroValue156 rfl
theorem B95 : BldT Tryz.prog 95 [(0, 1), (1, 1), (2, 1)] [.int .i64 0, .int .i64 0, .int .i64 0] := BldT.mk (ns := [1, 1, 1]) Tryz.underlying95 ⟨Tryz.sizeOf3, Tryz.sizeOf3, Tryz.sizeOf3, trivial⟩ rfl Tryz.zeroValue95 rfl
theorem e147 : Enters' Tryz.prog 147 := Tryz.call147
theorem e126 : Enters' Tryz.prog 126 := Tryz.call126
theorem B77 : BldT Tryz.prog 77 [(0, 1), (1, 1), (2, 1)] [.int .i64 0, .int .i64 0, .int .i64 0] := BldT.mk (ns := [1, 1, 1]) Tryz.underlying77 ⟨Tryz.sizeOf3, Tryz.sizeOf3, Tryz.sizeOf3, trivial⟩ rfl Tryz.zeroValue77 rfl
theorem B58 : BldT Tryz.prog 58 [(0, 1), (1, 1), (2, 1), (3, 1)] [.int .i64 0, .int .i64 0, .int .i64 0, .int .i64 0] := BldT.mk (ns := [1, 1, 1, 1]) Tryz.underlying58 ⟨Tryz.sizeOf3, Tryz.sizeOf3, Tryz.sizeOf3, Tryz.sizeOf3, trivial⟩ rfl Tryz.zeroValue58 rfl
theorem e20 : Enters' Tryz.prog 20 := Tryz.call20
theorem w69 {p : List (List Int)} : ∀ x ∈ ([.e (.a (.q 0))] : List SV), x.res (keys (α := Pred) [(0, PL (EP.sl EP.int) (p))]) := by simp [SV.res, El.res, At.res, keys]
theorem r69 {p : List (List Int)} : SV.res (keys (α := Pred) []) (.b (longP p)) := by simp [SV.res, El.res, At.res, keys]
set_option maxHeartbeats 4000000 in
theorem c69 (p : List (List Int))  : Sig Tryz.prog 69 [.e (.a (.q 0))] [(0, PL (EP.sl EP.int) (p))] (.b (longP p)) [] := by
  refine Sig.intro Tryz.func69 rfl 1 [(0, .e (.a (.q 0)))] rfl w69 rfl rfl fun I w => ?_
  refine WP.seq (WP.region ?_)
  refine WPl.v rfl (o_assign rfl) ?_
  refine WPl.nil (EX.then (WP.seq (WP.seq (WP.region ?_))))
  refine WPl.v rfl (o_move rfl) ?_
  refine WPl.v rfl (o_lenq L27 rfl (lx rfl)) ?_
  refine WPl.v rfl (o_gtr rfl rfl) ?_
  refine WPl.nil (EX.then ?_)
  refine WP.cond rfl (fun hc1 => ?_) (fun hc1 => ?_)
  · try simp only [cnd] at hc1
    refine WP.seq (WP.region ?_)
    refine WPl.v rfl (o_assign rfl) ?_
    refine WPl.nil (EX.then (WP.ret (EX.ret_then ?_)))
    rw [show longP p = true from by unfold longP; rw [decide_eq_true hc1]; rfl]
    exact EX.fin id (.inl rfl) rfl (.tmp rfl .nil) rfl (by simp [SV.res, El.res, At.res, keys]) trivial (by simp) (by simp)
  · try simp only [cnd] at hc1
    refine WP.skip (EX.then (WP.seq (WP.seq (WP.region ?_))))
    refine WPl.v rfl (o_assign rfl) ?_
    refine WPl.nil (EX.then (WP.block ?_))
    refine WP.loop (Gh := Nat) (fun i => ⟨1, [(0, .e (.a (.q 0))), (2, .b (false)), (3, .i ((i : Int)))], [(0, PL (EP.sl EP.int) (p))], [], [], []⟩) (fun i => i ≤ p.length ∧ allI (fun i => !decide (40 < ((nth p i).length : Int))) i = true) (fun i => p.length - i) (0) id ?_ (LeR.of ⟨rfl, rfl, rfl, trivial⟩ ⟨(lx rfl), trivial⟩ trivial rfl rfl rfl rfl rfl) ?_
    · exact ⟨by omega, rfl⟩
    intro i hφ
    have hi : i ≤ p.length := hφ.1
    have hall := hφ.2
    refine WP.seq (WP.seq (WP.region ?_))
    refine WPl.v rfl (o_move rfl) ?_
    refine WPl.v rfl (o_move rfl) ?_
    refine WPl.v rfl (o_lenq L27 rfl (lx rfl)) ?_
    refine WPl.v rfl (o_lss rfl rfl) ?_
    refine WPl.nil (EX.then ?_)
    refine WP.cond rfl (fun hc2 => ?_) (fun hc2 => ?_)
    · try simp only [cnd] at hc2
      refine WP.skip (EX.then (WP.seq (WP.block (WP.seq (WP.region ?_)))))
      refine WPl.v rfl (o_move rfl) ?_
      refine WPl.v rfl (o_move rfl) ?_
      refine WPl.x 1 2 rfl rfl rfl (o_idx L27 rfl (lx rfl) rfl (by first | omega | (simp; omega)) (by first | omega | (simp; omega))) ?_
      refine WPl.x 2 3 rfl rfl rfl (o_ldqx S24 rfl (lx rfl) slx) ?_
      refine WPl.v rfl (o_lenq L24 rfl (lx rfl)) ?_
      refine WPl.v rfl (o_gtr rfl rfl) ?_
      refine WPl.nil (EX.then ?_)
      refine WP.cond rfl (fun hc3 => ?_) (fun hc3 => ?_)
      · try simp only [cnd] at hc3
        refine WP.seq (WP.region ?_)
        refine WPl.v rfl (o_assign rfl) ?_
        refine WPl.nil (EX.then (WP.ret (EX.ret_blk (EX.ret_then (EX.ret_then (EX.ret_blk (EX.ret_then ?_)))))))
        rw [show longP p = true from by unfold longP; rw [not_allI (show i < p.length by omega) (by simp only [Bool.not_eq_false', decide_eq_true_eq]; exact hc3)]; simp]
        exact EX.fin id (.inl rfl) rfl (.tmp rfl .nil) rfl (by simp [SV.res, El.res, At.res, keys]) trivial (by simp) (by simp)
      · try simp only [cnd] at hc3
        refine WP.skip (EX.blk (EX.then (WP.region ?_)))
        refine WPl.v rfl (o_move rfl) ?_
        refine WPl.v rfl (o_add rfl rfl (by first | omega | (simp; omega)) (by first | omega | (simp; omega))) ?_
        refine WPl.v rfl (o_assign rfl) ?_
        refine WPl.nil ?_
        refine EX.again (i + 1) id (by exact ⟨by omega, by simp only [allI, hall, Bool.true_and, Bool.not_eq_true', decide_eq_false_iff_not]; exact hc3⟩) (by omega) (LeR.of ⟨rfl, rfl, rfl, trivial⟩ ⟨(lx rfl), trivial⟩ trivial rfl rfl rfl rfl rfl)
    · try simp only [cnd] at hc2
      refine WP.exit (EX.exit_then (EX.exit_then (EX.exit_blk (EX.then (WP.seq (WP.region ?_))))))
      refine WPl.v rfl (o_assign rfl) ?_
      refine WPl.nil (EX.then (WP.ret ?_))
      have hie : i = p.length := by omega
      rw [show longP p = false from by unfold longP; rw [decide_eq_false (by omega), ← hie, hall]; rfl]
      exact EX.fin id (.inl rfl) rfl (.tmp rfl .nil) rfl (by simp [SV.res, El.res, At.res, keys]) trivial (by simp) (by simp)
theorem w123 {h : Hall} : ∀ x ∈ ([.e (.g [.q 0, .q 1, .q 2, ai (h.change)])] : List SV), x.res (keys (α := Pred) [(0, PL ETm (h.machs)), (1, PL EBd (h.buns)), (2, PL EP.int (h.trains))]) := by simp [SV.res, El.res, At.res, keys]
theorem r123 {h : Hall} : SV.res (keys (α := Pred) []) (.b (hugeHo h)) := by simp [SV.res, El.res, At.res, keys]
set_option maxHeartbeats 4000000 in
theorem c123 (h : Hall)  : Sig Tryz.prog 123 [.e (.g [.q 0, .q 1, .q 2, ai (h.change)])] [(0, PL ETm (h.machs)), (1, PL EBd (h.buns)), (2, PL EP.int (h.trains))] (.b (hugeHo h)) [] := by
  refine Sig.intro Tryz.func123 rfl 3 [(0, .e (.g [.q 0, .q 1, .q 2, ai (h.change)]))] rfl w123 rfl rfl fun I w => ?_
  refine WP.seq (WP.region ?_)
  refine WPl.l 3 4 rfl rfl rfl (o_boxg rfl) ?_
  refine WPl.v rfl (o_assign rfl) ?_
  refine WPl.nil (EX.then (WP.seq (WP.region ?_)))
  refine WPl.v rfl (o_fldp F26_0 rfl) ?_
  refine WPl.v rfl (o_ldp S22 rfl rfl rfl) ?_
  refine WPl.v rfl (o_lenq L22 rfl (lx rfl)) ?_
  refine WPl.v rfl (o_gtr rfl rfl) ?_
  refine WPl.v rfl (o_move rfl) ?_
  refine WPl.bit 4 5 (!(decide (40 < (h.machs.length : Int)))) rfl rfl ?_
  refine WPl.gv 4 rfl rfl (.plain rfl (by first | (simp; done) | simp only [Bool.not_eq_true']) rfl) (fun hb => o_fldp F26_1 rfl) ?_
  refine WPl.gv 4 rfl rfl (.plain rfl (by first | (simp; done) | simp only [Bool.not_eq_true']) rfl) (fun hb => o_ldp S23 rfl rfl rfl) ?_
  refine WPl.gv 4 rfl rfl (.plain rfl (by first | (simp; done) | simp only [Bool.not_eq_true']) rfl) (fun hb => o_lenq L23 rfl (lx rfl)) ?_
  refine WPl.gv 4 rfl rfl (.plain rfl (by first | (simp; done) | simp only [Bool.not_eq_true']) rfl) (fun hb => o_gtr rfl rfl) ?_
  refine WPl.v rfl (o_or rfl rfl rfl (by first | (simp; done) | exact fun h => by rw [h]; rfl | exact fun h => Bool.and_eq_true_iff.2 ⟨hb, by rw [h]; rfl⟩ | simp_all)) ?_
  refine WPl.v rfl (o_move rfl) ?_
  refine WPl.bit 5 6 (!((decide (40 < (h.machs.length : Int))) || (decide (40 < (h.buns.length : Int))))) rfl rfl ?_
  refine WPl.gv 5 rfl rfl (.plain rfl (by first | (simp; done) | simp only [Bool.not_eq_true']) rfl) (fun hb => o_fldp F26_2 rfl) ?_
  refine WPl.gv 5 rfl rfl (.plain rfl (by first | (simp; done) | simp only [Bool.not_eq_true']) rfl) (fun hb => o_ldp S24 rfl rfl rfl) ?_
  refine WPl.gv 5 rfl rfl (.plain rfl (by first | (simp; done) | simp only [Bool.not_eq_true']) rfl) (fun hb => o_lenq L24 rfl (lx rfl)) ?_
  refine WPl.gv 5 rfl rfl (.plain rfl (by first | (simp; done) | simp only [Bool.not_eq_true']) rfl) (fun hb => o_gtr rfl rfl) ?_
  refine WPl.v rfl (o_or rfl rfl rfl (by first | (simp; done) | exact fun h => by rw [h]; rfl | exact fun h => Bool.and_eq_true_iff.2 ⟨hb, by rw [h]; rfl⟩ | simp_all)) ?_
  refine WPl.v rfl (o_assign rfl) ?_
  refine WPl.nil (EX.then (WP.ret ?_))
  exact EX.fin id (.inl rfl) rfl (.tmp rfl .nil) rfl r123 trivial (by simp) (by simp)
theorem w67 {h : Hall} : ∀ x ∈ ([.e (.g [.q 0, .q 1, .q 2, ai (h.change), .q 3, .q 4])] : List SV), x.res (keys (α := Pred) [(0, PL ETm (h.machs)), (1, PL EBd (h.buns)), (2, PL EP.int (h.trains)), (3, PL EP.int (h.bores)), (4, PL (EP.sl EP.int) (h.eds))]) := by simp [SV.res, El.res, At.res, keys]
theorem r67 {h : Hall} : SV.res (keys (α := Pred) []) (.b (hugeH h)) := by simp [SV.res, El.res, At.res, keys]
set_option maxHeartbeats 4000000 in
theorem c67 (h : Hall)  : Sig Tryz.prog 67 [.e (.g [.q 0, .q 1, .q 2, ai (h.change), .q 3, .q 4])] [(0, PL ETm (h.machs)), (1, PL EBd (h.buns)), (2, PL EP.int (h.trains)), (3, PL EP.int (h.bores)), (4, PL (EP.sl EP.int) (h.eds))] (.b (hugeH h)) [] := by
  refine Sig.intro Tryz.func67 rfl 5 [(0, .e (.g [.q 0, .q 1, .q 2, ai (h.change), .q 3, .q 4]))] rfl w67 rfl rfl fun I w => ?_
  refine WP.seq (WP.region ?_)
  refine WPl.l 5 6 rfl rfl rfl (o_boxg rfl) ?_
  refine WPl.v rfl (o_assign rfl) ?_
  refine WPl.nil (EX.then (WP.seq (WP.region ?_)))
  refine WPl.v rfl (o_fldp F29_0 rfl) ?_
  refine WPl.v rfl (o_ldpg G26 rfl rfl rfl) ?_
  refine WPl.cs 6 rfl rfl rfl rfl (o_sig 6 (ren [(0, 0), (1, 1), (2, 2)]) (c123 h) e123 rfl rfl rfl w123 ⟨(lx rfl), (lx rfl), (lx rfl), trivial⟩ r123) ?_
  refine WPl.v rfl (o_move rfl) ?_
  refine WPl.bit 6 7 (!(hugeHo h)) rfl rfl ?_
  refine WPl.gv 6 rfl rfl (.plain rfl (by first | (simp; done) | simp only [Bool.not_eq_true']) rfl) (fun hb => o_fldp F29_1 rfl) ?_
  refine WPl.gv 6 rfl rfl (.plain rfl (by first | (simp; done) | simp only [Bool.not_eq_true']) rfl) (fun hb => o_ldp S24 rfl rfl rfl) ?_
  refine WPl.gv 6 rfl rfl (.plain rfl (by first | (simp; done) | simp only [Bool.not_eq_true']) rfl) (fun hb => o_lenq L24 rfl (lx rfl)) ?_
  refine WPl.gv 6 rfl rfl (.plain rfl (by first | (simp; done) | simp only [Bool.not_eq_true']) rfl) (fun hb => o_gtr rfl rfl) ?_
  refine WPl.v rfl (o_or rfl rfl rfl (by first | (simp; done) | exact fun h => by rw [h]; rfl | exact fun h => Bool.and_eq_true_iff.2 ⟨hb, by rw [h]; rfl⟩ | simp_all)) ?_
  refine WPl.v rfl (o_move rfl) ?_
  refine WPl.bit 7 8 (!((hugeHo h) || (decide (40 < (h.bores.length : Int))))) rfl rfl ?_
  refine WPl.gv 7 rfl rfl (.plain rfl (by first | (simp; done) | simp only [Bool.not_eq_true']) rfl) (fun hb => o_fldp F29_2 rfl) ?_
  refine WPl.gv 7 rfl rfl (.plain rfl (by first | (simp; done) | simp only [Bool.not_eq_true']) rfl) (fun hb => o_ldp S27 rfl rfl rfl) ?_
  refine WPl.gc0 7 rfl rfl (.plain rfl (by first | (simp; done) | simp only [Bool.not_eq_true']) rfl) (fun hb => o_sig 8 (ren [(0, 4)]) (c69 h.eds) e69 rfl rfl rfl w69 ⟨(lx rfl), trivial⟩ r69) ?_
  refine WPl.v rfl (o_or rfl rfl rfl (by first | (simp; done) | exact fun h => by rw [h]; rfl | exact fun h => Bool.and_eq_true_iff.2 ⟨hb, by rw [h]; rfl⟩ | simp_all)) ?_
  refine WPl.v rfl (o_assign rfl) ?_
  refine WPl.nil (EX.then (WP.ret ?_))
  exact EX.fin id (.inl rfl) rfl (.tmp rfl .nil) rfl r67 trivial (by simp) (by simp)
theorem w44 {a b : List Plate} : ∀ x ∈ ([.e (.a (.q 0)), .e (.a (.q 1))] : List SV), x.res (keys (α := Pred) [(0, PL EPl (a)), (1, PL EPl (b))]) := by simp [SV.res, El.res, At.res, keys]
theorem r44 {a b : List Plate} : SV.res (keys (α := Pred) []) (.b (samePl a b)) := by simp [SV.res, El.res, At.res, keys]
set_option maxHeartbeats 4000000 in
theorem c44 (a b : List Plate) (hl : a.length ≤ 1000000) : Sig Tryz.prog 44 [.e (.a (.q 0)), .e (.a (.q 1))] [(0, PL EPl (a)), (1, PL EPl (b))] (.b (samePl a b)) [] := by
  refine Sig.intro Tryz.func44 rfl 2 [(0, .e (.a (.q 0))), (1, .e (.a (.q 1)))] rfl w44 rfl rfl fun I w => ?_
  refine WP.seq (WP.region ?_)
  refine WPl.v rfl (o_assign rfl) ?_
  refine WPl.nil (EX.then (WP.seq (WP.seq (WP.region ?_))))
  refine WPl.v rfl (o_move rfl) ?_
  refine WPl.v rfl (o_lenq L30 rfl (lx rfl)) ?_
  refine WPl.v rfl (o_move rfl) ?_
  refine WPl.v rfl (o_lenq L30 rfl (lx rfl)) ?_
  refine WPl.v rfl (o_neq rfl rfl) ?_
  refine WPl.nil (EX.then ?_)
  refine WP.cond rfl (fun hc1 => ?_) (fun hc1 => ?_)
  · try simp only [cnd] at hc1
    refine WP.seq (WP.region ?_)
    refine WPl.v rfl (o_assign rfl) ?_
    refine WPl.nil (EX.then (WP.ret (EX.ret_then ?_)))
    rw [show samePl a b = false from by unfold samePl; rw [decide_eq_false hc1]; rfl]
    exact EX.fin id (.inl rfl) rfl (.tmp rfl .nil) rfl (by simp [SV.res, El.res, At.res, keys]) trivial (by simp) (by simp)
  · try simp only [cnd] at hc1
    refine WP.skip (EX.then (WP.seq (WP.seq (WP.region ?_))))
    refine WPl.v rfl (o_assign rfl) ?_
    refine WPl.nil (EX.then (WP.block ?_))
    refine WP.loop (Gh := Nat) (fun i => ⟨2, [(0, .e (.a (.q 0))), (1, .e (.a (.q 1))), (4, .b (false)), (5, .i ((i : Int)))], [(0, PL EPl (a)), (1, PL EPl (b))], [], [], []⟩) (fun i => i ≤ a.length ∧ allI (samePlAt a b) i = true) (fun i => a.length - i) (0) id ?_ (LeR.of ⟨rfl, rfl, rfl, rfl, trivial⟩ ⟨(lx rfl), (lx rfl), trivial⟩ trivial rfl rfl rfl rfl rfl) ?_
    · exact ⟨by omega, rfl⟩
    intro i hφ
    have hi : i ≤ a.length := hφ.1
    have hall := hφ.2
    refine WP.seq (WP.seq (WP.region ?_))
    refine WPl.v rfl (o_move rfl) ?_
    refine WPl.v rfl (o_move rfl) ?_
    refine WPl.v rfl (o_lenq L30 rfl (lx rfl)) ?_
    refine WPl.v rfl (o_lss rfl rfl) ?_
    refine WPl.nil (EX.then ?_)
    refine WP.cond rfl (fun hc2 => ?_) (fun hc2 => ?_)
    · try simp only [cnd] at hc2
      refine WP.skip (EX.then (WP.seq (WP.block (WP.seq ?_))))
      refine WP.draw (nf := 4) [⟨[18, 21, 22, 23, 24], [3], [], [], []⟩, ⟨[17, 21, 22, 23, 24], [3], [], [], []⟩, ⟨[21, 22, 23, 24], [3], [2], [2], [0, 1]⟩, ⟨[21, 22, 23, 24], [3], [], [], [0, 1, 2]⟩, ⟨[17, 18, 19, 20, 22], [2], [], [], []⟩, ⟨[17, 18, 19, 20, 21], [2], [], [], []⟩, ⟨[17, 18, 19, 20], [2], [3], [3], [4, 5]⟩, ⟨[17, 18, 19, 20], [2], [], [], [4, 5, 6]⟩, ⟨[], [], [], [], [0, 1, 2, 3, 4, 5, 6, 7]⟩] (by kernel_rfl) (by kernel_rfl) ?_
      refine DRQ.v rfl rfl rfl (o_move rfl) ?_
      refine DRQ.v rfl rfl rfl (o_move rfl) ?_
      refine DRQ.x 2 rfl rfl rfl rfl (o_idx L30 rfl (lx rfl) rfl (by first | omega | (simp; omega)) (by first | omega | (simp; omega))) ?_
      refine DRQ.v rfl rfl rfl (o_ldqg G77 rfl (lx rfl) (strG rfl) rfl rfl) ?_
      refine DRQ.v rfl rfl rfl (o_move rfl) ?_
      refine DRQ.v rfl rfl rfl (o_move rfl) ?_
      refine DRQ.x 3 rfl rfl rfl rfl (o_idx L30 rfl (lx rfl) rfl (by first | omega | (simp; omega)) (by first | omega | (simp; omega))) ?_
      refine DRQ.v rfl rfl rfl (o_ldqg G77 rfl (lx rfl) (strG rfl) rfl rfl) ?_
      refine DRQ.v rfl rfl rfl (o_nes (a := [(nth a (i : Int)).page, (nth a (i : Int)).bore, (nth a (i : Int)).many]) (b := [(nth b (i : Int)).page, (nth b (i : Int)).bore, (nth b (i : Int)).many]) Q77 rfl Tryz.eqGuardType77 rfl rfl rfl rfl) ?_
      refine DRQ.nil' ?_
      refine EX.then ?_
      refine WP.cond rfl (fun hc3 => ?_) (fun hc3 => ?_)
      · try simp only [cnd] at hc3
        refine WP.seq (WP.region ?_)
        refine WPl.v rfl (o_assign rfl) ?_
        refine WPl.nil (EX.then (WP.ret (EX.ret_blk (EX.ret_then (EX.ret_then (EX.ret_blk (EX.ret_then ?_)))))))
        rw [show samePl a b = false from by unfold samePl; rw [not_allI (show i < a.length by omega) (show samePlAt a b i = false from decide_eq_false hc3)]; simp]
        exact EX.fin id (.inl rfl) rfl (.tmp rfl .nil) rfl (by simp [SV.res, El.res, At.res, keys]) trivial (by simp) (by simp)
      · try simp only [cnd] at hc3
        refine WP.skip (EX.blk (EX.then (WP.region ?_)))
        refine WPl.v rfl (o_move rfl) ?_
        refine WPl.v rfl (o_add rfl rfl (by first | omega | (simp; omega)) (by first | omega | (simp; omega))) ?_
        refine WPl.v rfl (o_assign rfl) ?_
        refine WPl.nil ?_
        refine EX.again (i + 1) id (by exact ⟨by omega, by simp only [allI, hall, Bool.true_and, samePlAt, decide_eq_true_eq]; exact hc3⟩) (by omega) (LeR.of ⟨rfl, rfl, rfl, rfl, trivial⟩ ⟨(lx rfl), (lx rfl), trivial⟩ trivial rfl rfl rfl rfl rfl)
    · try simp only [cnd] at hc2
      refine WP.exit (EX.exit_then (EX.exit_then (EX.exit_blk (EX.then (WP.seq (WP.region ?_))))))
      refine WPl.v rfl (o_assign rfl) ?_
      refine WPl.nil (EX.then (WP.ret ?_))
      have hie : i = a.length := by omega
      rw [show samePl a b = true from by unfold samePl; rw [decide_eq_true (by first | exact hc1 | simpa using hc1), ← hie]; exact hall]
      exact EX.fin id (.inl rfl) rfl (.tmp rfl .nil) rfl (by simp [SV.res, El.res, At.res, keys]) trivial (by simp) (by simp)
theorem w147 {h : Hall} {m n : Int} : ∀ x ∈ ([.e (.g [.q 0, .q 1, .q 2, ai (h.change), .q 3, .q 4]), .i (m), .i (n)] : List SV), x.res (keys (α := Pred) [(0, PL ETm (h.machs)), (1, PL EBd (h.buns)), (2, PL EP.int (h.trains)), (3, PL EP.int (h.bores)), (4, PL (EP.sl EP.int) (h.eds))]) := by simp [SV.res, El.res, At.res, keys]
theorem r147 {h : Hall} {m n : Int} : SV.res (keys (α := Pred) [(0, PL ETm (h.machs)), (1, PL EBd (h.buns)), (2, PL EP.int (h.trains)), (3, PL EP.int ((lset h.bores m (nth h.bores n)))), (4, PL (EP.sl EP.int) (h.eds))]) (.e (.g [.q 0, .q 1, .q 2, ai (h.change), .q 3, .q 4])) := by simp [SV.res, El.res, At.res, keys]
set_option maxHeartbeats 4000000 in
theorem c147 (h : Hall) (m n : Int) (hm : h.Small) (h1 : 0 ≤ m ∧ m < h.bores.length) (h2 : 0 ≤ n ∧ n < h.bores.length) : Sig Tryz.prog 147 [.e (.g [.q 0, .q 1, .q 2, ai (h.change), .q 3, .q 4]), .i (m), .i (n)] [(0, PL ETm (h.machs)), (1, PL EBd (h.buns)), (2, PL EP.int (h.trains)), (3, PL EP.int (h.bores)), (4, PL (EP.sl EP.int) (h.eds))] (.e (.g [.q 0, .q 1, .q 2, ai (h.change), .q 3, .q 4])) [(0, PL ETm (h.machs)), (1, PL EBd (h.buns)), (2, PL EP.int (h.trains)), (3, PL EP.int ((lset h.bores m (nth h.bores n)))), (4, PL (EP.sl EP.int) (h.eds))] := by
  refine Sig.intro Tryz.func147 rfl 5 [(0, .e (.g [.q 0, .q 1, .q 2, ai (h.change), .q 3, .q 4])), (1, .i (m)), (2, .i (n))] rfl w147 rfl rfl fun I w => ?_
  refine WP.seq (WP.region ?_)
  refine WPl.l 5 6 rfl rfl rfl (o_boxg rfl) ?_
  refine WPl.l 6 7 rfl rfl rfl (o_alloc Z29) ?_
  refine WPl.nil (EX.then (WP.seq (WP.region ?_)))
  refine WPl.v rfl (o_ldpa G29 rfl rfl rfl) ?_
  refine WPl.cL 12 rfl rfl rfl rfl rfl (o_sigo 7 (ren [(0, 0), (1, 1), (2, 2), (3, 3), (4, 4)]) (c74O h hm) e74 rfl rfl SvsOK.rf w74O ⟨(lx rfl), (lx rfl), (lx rfl), (lx rfl), (lx rfl), trivial⟩ r74O rfl rfl) ?_
  refine WPl.l 12 13 rfl rfl rfl (o_alloc Z29) ?_
  refine WPl.s1 (o_stag G29 rfl rfl rfl ⟨(.inl ⟨_, (lx rfl), PL.one⟩), (.inl ⟨_, (lx rfl), PL.one⟩), (.inl ⟨_, (lx rfl), PL.one⟩), rfl, (.inr ⟨_, _, _, _, rfl⟩), (.inl ⟨_, (lx rfl), PL.one⟩), trivial⟩ rfl rfl) ?_
  refine WPl.nil (EX.then (WP.seq ?_))
  refine WP.draw (nf := 14) [⟨[12, 13, 14, 15, 16, 17], [13], [], [], []⟩, ⟨[12, 13, 14, 15, 16, 17], [13], [], [], [0]⟩, ⟨[10, 11, 13, 14, 15, 16, 17], [13], [], [], []⟩, ⟨[10, 11, 12, 15], [], [], [], []⟩, ⟨[10, 11, 12, 15], [], [], [], [3]⟩, ⟨[10, 11, 12, 13, 14], [], [], [], []⟩, ⟨[10, 11, 12], [], [13], [13], [3, 4, 5]⟩, ⟨[10, 11, 12], [], [], [], [3, 4, 5, 6]⟩, ⟨[], [], [], [], [0, 1, 2, 3, 4, 5, 6, 7]⟩, ⟨[], [], [], [10], [0, 1, 2, 3, 4, 5, 6, 7, 8]⟩] (by kernel_rfl) (by kernel_rfl) ?_
  refine DRQ.v rfl rfl rfl (o_fldp F29_1 rfl) ?_
  refine DRQ.v rfl rfl rfl (o_ldp S24 rfl rfl rfl) ?_
  refine DRQ.v rfl rfl rfl (o_move rfl) ?_
  refine DRQ.v rfl rfl rfl (o_fldp F29_1 rfl) ?_
  refine DRQ.v rfl rfl rfl (o_ldp S24 rfl rfl rfl) ?_
  refine DRQ.v rfl rfl rfl (o_move rfl) ?_
  refine DRQ.x 13 rfl rfl rfl rfl (o_idx L24 rfl (lx rfl) rfl (by first | omega | (simp; omega)) (by first | omega | (simp; omega))) ?_
  refine DRQ.v rfl rfl rfl (o_ldq S3 rfl (lx rfl) intc) ?_
  refine DRQ.v rfl rfl rfl (o_idxo L24 rfl rfl rfl (by first | omega | (simp; omega)) (by first | omega | (simp; omega))) ?_
  refine DRQ.s 10 rfl rfl rfl (o_steE2 Tryz.sizeOf3 rfl rfl rfl rfl eok_int rfl rfl rfl (by first | omega | (simp; omega)) (by first | omega | (simp; omega))) ?_
  refine DRQ.nil' ?_
  refine EX.then (WP.seq (WP.region ?_))
  refine WPl.v rfl (o_ldpa G29 rfl rfl rfl) ?_
  refine WPl.s1 (o_stag G29 rfl rfl rfl ⟨(.inl ⟨_, (lx rfl), PL.one⟩), (.inl ⟨_, (lx rfl), PL.one⟩), (.inl ⟨_, (lx rfl), PL.one⟩), rfl, (.inr ⟨_, _, _, _, rfl⟩), (.inl ⟨_, (lx rfl), PL.one⟩), trivial⟩ rfl rfl) ?_
  refine WPl.nil (EX.then (WP.ret ?_))
  refine EX.imp (Imp.frz (E := EP.int) (l := lset ([] ++ h.bores) m (nth h.bores n)) 10 rfl rfl) ?_
  exact EX.fin (ren [(0, 7), (1, 8), (2, 9), (3, 10), (4, 11)]) (.inl rfl) rfl (.cellg G29 rfl rfl rfl (.nil)) rfl r147 ⟨(lx rfl), (lx rfl), (lx rfl), (lx rfl), (lx rfl), trivial⟩ (by simp) (by simp)
theorem w126  : ∀ x ∈ ([] : List SV), x.res (keys (α := Pred) []) := by simp [SV.res, El.res, At.res, keys]
theorem r126  : SV.res (keys (α := Pred) [(0, PL ETm (exK.machs)), (1, PL EBd (exK.buns)), (2, PL EP.int (exK.trains)), (3, PL EP.int (exK.bores)), (4, PL (EP.sl EP.int) (exK.eds)), (5, PL ETm (exL.machs)), (6, PL EBd (exL.buns)), (7, PL EP.int (exL.trains)), (8, PL EP.int (exL.bores)), (9, PL (EP.sl EP.int) (exL.eds))]) (.t [.g [.q 0, .q 1, .q 2, ai (exK.change), .q 3, .q 4], .g [.q 5, .q 6, .q 7, ai (exL.change), .q 8, .q 9]]) := by simp [SV.res, El.res, At.res, keys]
set_option maxHeartbeats 4000000 in
theorem c126   : Sig Tryz.prog 126 [] [] (.t [.g [.q 0, .q 1, .q 2, ai (exK.change), .q 3, .q 4], .g [.q 5, .q 6, .q 7, ai (exL.change), .q 8, .q 9]]) [(0, PL ETm (exK.machs)), (1, PL EBd (exK.buns)), (2, PL EP.int (exK.trains)), (3, PL EP.int (exK.bores)), (4, PL (EP.sl EP.int) (exK.eds)), (5, PL ETm (exL.machs)), (6, PL EBd (exL.buns)), (7, PL EP.int (exL.trains)), (8, PL EP.int (exL.bores)), (9, PL (EP.sl EP.int) (exL.eds))] := by
  refine Sig.intro Tryz.func126 rfl 0 [] rfl w126 rfl rfl fun I w => ?_
  refine WP.seq (WP.region ?_)
  refine WPl.l 0 1 rfl rfl rfl (o_alloc Z29) ?_
  refine WPl.l 1 2 rfl rfl rfl (o_alloc Z29) ?_
  refine WPl.nil (EX.then (WP.seq (WP.region ?_)))
  refine WPl.v rfl (o_build B156 rfl ⟨rfl, rfl, trivial⟩ rfl rfl) ?_
  refine WPl.v rfl (o_build B156 rfl ⟨rfl, rfl, trivial⟩ rfl rfl) ?_
  refine WPl.x 2 3 rfl rfl rfl (OpG.settle0 (o_bsl (E := ETm) (l := [(⟨0, 2, 1⟩ : TM), (⟨0, 2, 1⟩ : TM)]) R22 rfl rfl (.cons (⟨rfl, rfl, rfl, trivial⟩) rfl (eok_str ⟨rfl, rfl, rfl, trivial⟩) (.cons (⟨rfl, rfl, rfl, trivial⟩) rfl (eok_str ⟨rfl, rfl, rfl, trivial⟩) (.nil))) rfl rfl)) ?_
  refine WPl.v rfl (o_build B95 rfl ⟨rfl, rfl, rfl, trivial⟩ rfl rfl) ?_
  refine WPl.v rfl (o_build B95 rfl ⟨rfl, rfl, rfl, trivial⟩ rfl rfl) ?_
  refine WPl.x 3 4 rfl rfl rfl (OpG.settle0 (o_bsl (E := EBd) (l := [(⟨0, 2, 0⟩ : TBd), (⟨1, 3, 1⟩ : TBd)]) R23 rfl rfl (.cons (⟨rfl, rfl, rfl, trivial⟩) rfl (eok_str ⟨rfl, rfl, rfl, trivial⟩) (.cons (⟨rfl, rfl, rfl, trivial⟩) rfl (eok_str ⟨rfl, rfl, rfl, trivial⟩) (.nil))) rfl rfl)) ?_
  refine WPl.x 4 5 rfl rfl rfl (OpG.settle0 (o_bsl (E := EP.int) (l := [5, 12]) R24 rfl rfl (.cons (rfl) rfl (eok_int) (.cons (rfl) rfl (eok_int) (.nil))) rfl rfl)) ?_
  refine WPl.v rfl (o_build B26 rfl ⟨(.inl ⟨_, (lx rfl), PL.one⟩), (.inl ⟨_, (lx rfl), PL.one⟩), (.inl ⟨_, (lx rfl), PL.one⟩), rfl, trivial⟩ rfl rfl) ?_
  refine WPl.x 5 6 rfl rfl rfl (OpG.settle0 (o_bsl (E := EP.int) (l := [0, 1]) R24 rfl rfl (.cons (rfl) rfl (eok_int) (.cons (rfl) rfl (eok_int) (.nil))) rfl rfl)) ?_
  refine WPl.x 6 7 rfl rfl rfl (OpG.settle0 (o_bsl (E := EP.int) (l := [0, 1]) R24 rfl rfl (.cons (rfl) rfl (eok_int) (.cons (rfl) rfl (eok_int) (.nil))) rfl rfl)) ?_
  refine WPl.x 7 8 rfl rfl rfl (OpG.settle0 (o_bsl (E := EP.int) (l := [0, 2]) R24 rfl rfl (.cons (rfl) rfl (eok_int) (.cons (rfl) rfl (eok_int) (.nil))) rfl rfl)) ?_
  refine WPl.x 8 9 rfl rfl rfl (OpG.settle0 (o_bsl (E := (EP.sl EP.int)) (l := [[0, 1], [0, 2]]) R27 rfl rfl (.cons ((.inl ⟨_, (lx rfl), PL.one⟩)) rfl (eok_sl (lx rfl)) (.cons ((.inl ⟨_, (lx rfl), PL.one⟩)) rfl (eok_sl (lx rfl)) (.nil))) rfl rfl)) ?_
  refine WPl.v rfl (o_build B29 rfl ⟨(.inl ⟨_, (lx rfl), PL.one⟩), (.inl ⟨_, (lx rfl), PL.one⟩), trivial⟩ rfl rfl) ?_
  refine WPl.s1 (o_stag G29 rfl rfl rfl ⟨(.inl ⟨_, (lx rfl), PL.one⟩), (.inl ⟨_, (lx rfl), PL.one⟩), (.inl ⟨_, (lx rfl), PL.one⟩), rfl, (.inl ⟨_, (lx rfl), PL.one⟩), (.inl ⟨_, (lx rfl), PL.one⟩), trivial⟩ rfl rfl) ?_
  refine WPl.nil (EX.then (WP.seq ?_))
  refine WP.draw (nf := 14) [⟨[16, 17], [9, 10, 11, 12, 13], [], [], []⟩, ⟨[15], [], [], [], []⟩, ⟨[15], [], [9, 10, 11, 12, 13], [9, 10, 11, 12, 13], [1]⟩, ⟨[], [], [], [0], [0, 1, 2]⟩, ⟨[], [], [], [1], [0, 1, 2, 3]⟩] (by kernel_rfl) (by kernel_rfl) ?_
  refine DRQ.v rfl rfl rfl (o_ldpa G29 rfl rfl rfl) ?_
  refine DRQ.v rfl rfl rfl (o_ldpa G29 rfl rfl rfl) ?_
  refine DRQ.cs rfl rfl rfl rfl (o_sig 9 (ren [(0, 2), (1, 3), (2, 4), (3, 5), (4, 8)]) (c147 exK 1 0 exK_small (by decide) (by decide)) e147 rfl rfl rfl w147 ⟨(lx rfl), (lx rfl), (lx rfl), (lx rfl), (lx rfl), trivial⟩ r147) ?_
  refine DRQ.s 0 rfl rfl rfl (o_stag G29 rfl rfl rfl ⟨(.inl ⟨_, (lx rfl), PL.one⟩), (.inl ⟨_, (lx rfl), PL.one⟩), (.inl ⟨_, (lx rfl), PL.one⟩), rfl, (.inl ⟨_, (lx rfl), PL.one⟩), (.inl ⟨_, (lx rfl), PL.one⟩), trivial⟩ rfl rfl) ?_
  refine DRQ.s 1 rfl rfl rfl (o_stag G29 rfl rfl rfl ⟨(.inl ⟨_, (lx rfl), PL.one⟩), (.inl ⟨_, (lx rfl), PL.one⟩), (.inl ⟨_, (lx rfl), PL.one⟩), rfl, (.inl ⟨_, (lx rfl), PL.one⟩), (.inl ⟨_, (lx rfl), PL.one⟩), trivial⟩ rfl rfl) ?_
  refine DRQ.nil' ?_
  refine EX.then (WP.ret ?_)
  exact EX.fin (ren [(0, 2), (1, 3), (2, 4), (3, 5), (4, 8), (5, 9), (6, 10), (7, 11), (8, 12), (9, 13)]) (.inl rfl) rfl (.cellg G29 rfl rfl rfl (.cellg G29 rfl rfl rfl (.nil))) rfl r126 ⟨(lx rfl), (lx rfl), (lx rfl), (lx rfl), (lx rfl), (lx rfl), (lx rfl), (lx rfl), (lx rfl), (lx rfl), trivial⟩ (by simp) (by simp)
theorem w76  : ∀ x ∈ ([] : List SV), x.res (keys (α := Pred) []) := by simp [SV.res, El.res, At.res, keys]
theorem r76  : SV.res (keys (α := Pred) [(0, PL ETm (exB.hall.machs)), (1, PL EBd (exB.hall.buns)), (2, PL EP.int (exB.hall.trains)), (3, PL EP.int (exB.hall.bores)), (4, PL (EP.sl EP.int) (exB.hall.eds)), (5, PL EPl (exB.set)), (6, PL EP.int (exB.walk)), (7, PL ETa (exB.tals)), (8, PL ETm (exC.hall.machs)), (9, PL EBd (exC.hall.buns)), (10, PL EP.int (exC.hall.trains)), (11, PL EP.int (exC.hall.bores)), (12, PL (EP.sl EP.int) (exC.hall.eds)), (13, PL EPl (exC.set)), (14, PL EP.int (exC.walk)), (15, PL ETa (exC.tals))]) (.t [.g [.q 0, .q 1, .q 2, ai (exB.hall.change), .q 3, .q 4, .q 5, .q 6, ai (exB.boys), .q 7], .g [.q 8, .q 9, .q 10, ai (exC.hall.change), .q 11, .q 12, .q 13, .q 14, ai (exC.boys), .q 15]]) := by simp [SV.res, El.res, At.res, keys]
set_option maxHeartbeats 4000000 in
theorem c76   : Sig Tryz.prog 76 [] [] (.t [.g [.q 0, .q 1, .q 2, ai (exB.hall.change), .q 3, .q 4, .q 5, .q 6, ai (exB.boys), .q 7], .g [.q 8, .q 9, .q 10, ai (exC.hall.change), .q 11, .q 12, .q 13, .q 14, ai (exC.boys), .q 15]]) [(0, PL ETm (exB.hall.machs)), (1, PL EBd (exB.hall.buns)), (2, PL EP.int (exB.hall.trains)), (3, PL EP.int (exB.hall.bores)), (4, PL (EP.sl EP.int) (exB.hall.eds)), (5, PL EPl (exB.set)), (6, PL EP.int (exB.walk)), (7, PL ETa (exB.tals)), (8, PL ETm (exC.hall.machs)), (9, PL EBd (exC.hall.buns)), (10, PL EP.int (exC.hall.trains)), (11, PL EP.int (exC.hall.bores)), (12, PL (EP.sl EP.int) (exC.hall.eds)), (13, PL EPl (exC.set)), (14, PL EP.int (exC.walk)), (15, PL ETa (exC.tals))] := by
  refine Sig.intro Tryz.func76 rfl 0 [] rfl w76 rfl rfl fun I w => ?_
  refine WP.seq (WP.region ?_)
  refine WPl.l 0 1 rfl rfl rfl (o_alloc Z33) ?_
  refine WPl.l 1 2 rfl rfl rfl (o_alloc Z33) ?_
  refine WPl.nil (EX.then (WP.seq (WP.region ?_)))
  refine WPl.cs 12 rfl rfl rfl rfl (o_sig 2 id c126 e126 rfl rfl rfl w126 trivial r126) ?_
  refine WPl.v rfl (o_move rfl) ?_
  refine WPl.v rfl (o_extract rfl rfl) ?_
  refine WPl.v rfl (o_extract rfl rfl) ?_
  refine WPl.l 12 13 rfl rfl rfl (o_alloc Z29) ?_
  refine WPl.l 13 14 rfl rfl rfl (o_alloc Z29) ?_
  refine WPl.s1 (o_stag G29 rfl rfl rfl ⟨(.inl ⟨_, (lx rfl), PL.one⟩), (.inl ⟨_, (lx rfl), PL.one⟩), (.inl ⟨_, (lx rfl), PL.one⟩), rfl, (.inl ⟨_, (lx rfl), PL.one⟩), (.inl ⟨_, (lx rfl), PL.one⟩), trivial⟩ rfl rfl) ?_
  refine WPl.s1 (o_stag G29 rfl rfl rfl ⟨(.inl ⟨_, (lx rfl), PL.one⟩), (.inl ⟨_, (lx rfl), PL.one⟩), (.inl ⟨_, (lx rfl), PL.one⟩), rfl, (.inl ⟨_, (lx rfl), PL.one⟩), (.inl ⟨_, (lx rfl), PL.one⟩), trivial⟩ rfl rfl) ?_
  refine WPl.nil (EX.then (WP.seq (WP.region ?_)))
  refine WPl.v rfl (o_ldpa G29 rfl rfl rfl) ?_
  refine WPl.v rfl (o_build B77 rfl ⟨rfl, rfl, rfl, trivial⟩ rfl rfl) ?_
  refine WPl.v rfl (o_build B77 rfl ⟨rfl, rfl, rfl, trivial⟩ rfl rfl) ?_
  refine WPl.v rfl (o_build B77 rfl ⟨rfl, rfl, rfl, trivial⟩ rfl rfl) ?_
  refine WPl.v rfl (o_build B77 rfl ⟨rfl, rfl, rfl, trivial⟩ rfl rfl) ?_
  refine WPl.x 14 15 rfl rfl rfl (OpG.settle0 (o_bsl (E := EPl) (l := [(⟨0, 0, 1⟩ : Plate), (⟨0, 1, 1⟩ : Plate), (⟨1, 0, 1⟩ : Plate), (⟨2, 1, 1⟩ : Plate)]) R30 rfl rfl (.cons (⟨rfl, rfl, rfl, trivial⟩) rfl (eok_str ⟨rfl, rfl, rfl, trivial⟩) (.cons (⟨rfl, rfl, rfl, trivial⟩) rfl (eok_str ⟨rfl, rfl, rfl, trivial⟩) (.cons (⟨rfl, rfl, rfl, trivial⟩) rfl (eok_str ⟨rfl, rfl, rfl, trivial⟩) (.cons (⟨rfl, rfl, rfl, trivial⟩) rfl (eok_str ⟨rfl, rfl, rfl, trivial⟩) (.nil))))) rfl rfl)) ?_
  refine WPl.x 15 16 rfl rfl rfl (OpG.settle0 (o_bsl (E := EP.int) (l := [3, 5]) R24 rfl rfl (.cons (rfl) rfl (eok_int) (.cons (rfl) rfl (eok_int) (.nil))) rfl rfl)) ?_
  refine WPl.v rfl (o_build B58 rfl ⟨rfl, trivial⟩ rfl rfl) ?_
  refine WPl.v rfl (o_build B58 rfl ⟨rfl, rfl, trivial⟩ rfl rfl) ?_
  refine WPl.v rfl (o_build B58 rfl ⟨rfl, rfl, rfl, trivial⟩ rfl rfl) ?_
  refine WPl.v rfl (o_build B58 rfl ⟨rfl, rfl, rfl, rfl, trivial⟩ rfl rfl) ?_
  refine WPl.v rfl (o_build B58 rfl ⟨rfl, trivial⟩ rfl rfl) ?_
  refine WPl.x 16 17 rfl rfl rfl (OpG.settle0 (o_bsl (E := ETa) (l := [(⟨0, 0, 0, 4⟩ : Tal), (⟨0, 1, 0, 8⟩ : Tal), (⟨1, 0, 1, 6⟩ : Tal), (⟨1, 2, 1, 16⟩ : Tal), (⟨0, 0, 0, 20⟩ : Tal)]) R31 rfl rfl (.cons (⟨rfl, rfl, rfl, rfl, trivial⟩) rfl (eok_str ⟨rfl, rfl, rfl, rfl, trivial⟩) (.cons (⟨rfl, rfl, rfl, rfl, trivial⟩) rfl (eok_str ⟨rfl, rfl, rfl, rfl, trivial⟩) (.cons (⟨rfl, rfl, rfl, rfl, trivial⟩) rfl (eok_str ⟨rfl, rfl, rfl, rfl, trivial⟩) (.cons (⟨rfl, rfl, rfl, rfl, trivial⟩) rfl (eok_str ⟨rfl, rfl, rfl, rfl, trivial⟩) (.cons (⟨rfl, rfl, rfl, rfl, trivial⟩) rfl (eok_str ⟨rfl, rfl, rfl, rfl, trivial⟩) (.nil)))))) rfl rfl)) ?_
  refine WPl.v rfl (o_build B33 rfl ⟨(.inl ⟨_, (lx rfl), PL.one⟩), (.inl ⟨_, (lx rfl), PL.one⟩), rfl, (.inl ⟨_, (lx rfl), PL.one⟩), trivial⟩ rfl rfl) ?_
  refine WPl.s1 (o_stag G33 rfl rfl rfl ⟨(.inl ⟨_, (lx rfl), PL.one⟩), (.inl ⟨_, (lx rfl), PL.one⟩), (.inl ⟨_, (lx rfl), PL.one⟩), rfl, (.inl ⟨_, (lx rfl), PL.one⟩), (.inl ⟨_, (lx rfl), PL.one⟩), (.inl ⟨_, (lx rfl), PL.one⟩), (.inl ⟨_, (lx rfl), PL.one⟩), rfl, (.inl ⟨_, (lx rfl), PL.one⟩), trivial⟩ rfl rfl) ?_
  refine WPl.nil (EX.then (WP.seq (WP.region ?_)))
  refine WPl.v rfl (o_ldpa G33 rfl rfl rfl) ?_
  refine WPl.cs 25 rfl rfl rfl rfl (o_sig 17 (ren [(0, 2), (1, 3), (2, 4), (3, 5), (4, 6), (5, 14), (6, 15), (7, 16)]) (c20 exB exB_small) e20 rfl rfl rfl w20 ⟨(lx rfl), (lx rfl), (lx rfl), (lx rfl), (lx rfl), (lx rfl), (lx rfl), (lx rfl), trivial⟩ r20) ?_
  refine WPl.s1 (o_stag G33 rfl rfl rfl ⟨(.inl ⟨_, (lx rfl), PL.one⟩), (.inl ⟨_, (lx rfl), PL.one⟩), (.inl ⟨_, (lx rfl), PL.one⟩), rfl, (.inl ⟨_, (lx rfl), PL.one⟩), (.inl ⟨_, (lx rfl), PL.one⟩), (.inl ⟨_, (lx rfl), PL.one⟩), (.inl ⟨_, (lx rfl), PL.one⟩), rfl, (.inl ⟨_, (lx rfl), PL.one⟩), trivial⟩ rfl rfl) ?_
  refine WPl.nil (EX.then (WP.seq (WP.region ?_)))
  refine WPl.v rfl (o_fldp F33_4 rfl) ?_
  refine WPl.v rfl (o_ldp S31 rfl rfl rfl) ?_
  refine WPl.x 25 26 rfl rfl rfl (o_slice (a := 0) (b := 4) L31 rfl (lx rfl) rfl rfl (by decide) (by decide) (by decide)) ?_
  refine WPl.v rfl (o_fldp F33_4 rfl) ?_
  refine WPl.s1 (o_sta S31 rfl rfl rfl (.inl ⟨_, (lx rfl), PL.one⟩) rfl) ?_
  refine WPl.nil (EX.then (WP.seq ?_))
  refine WP.draw (nf := 26) [⟨[29], [], [], [], []⟩, ⟨[28], [0], [], [], []⟩, ⟨[29], [], [], [0], [0]⟩, ⟨[], [], [], [1], [0, 1, 2]⟩] (by kernel_rfl) (by kernel_rfl) ?_
  refine DRQ.v rfl rfl rfl (o_ldpa G33 rfl rfl rfl) ?_
  refine DRQ.v rfl rfl rfl (o_ldpa G33 rfl rfl rfl) ?_
  refine DRQ.s 0 rfl rfl rfl (o_stag G33 rfl rfl rfl ⟨(.inl ⟨_, (lx rfl), PL.one⟩), (.inl ⟨_, (lx rfl), PL.one⟩), (.inl ⟨_, (lx rfl), PL.one⟩), rfl, (.inl ⟨_, (lx rfl), PL.one⟩), (.inl ⟨_, (lx rfl), PL.one⟩), (.inl ⟨_, (lx rfl), PL.one⟩), (.inl ⟨_, (lx rfl), PL.one⟩), rfl, (.inl ⟨_, (lx rfl), PL.one⟩), trivial⟩ rfl rfl) ?_
  refine DRQ.s 1 rfl rfl rfl (o_stag G33 rfl rfl rfl ⟨(.inl ⟨_, (lx rfl), PL.one⟩), (.inl ⟨_, (lx rfl), PL.one⟩), (.inl ⟨_, (lx rfl), PL.one⟩), rfl, (.inl ⟨_, (lx rfl), PL.one⟩), (.inl ⟨_, (lx rfl), PL.one⟩), (.inl ⟨_, (lx rfl), PL.one⟩), (.inl ⟨_, (lx rfl), PL.one⟩), rfl, (.inl ⟨_, (lx rfl), PL.one⟩), trivial⟩ rfl rfl) ?_
  refine DRQ.nil' ?_
  refine EX.then (WP.ret ?_)
  exact EX.fin (ren [(0, 2), (1, 3), (2, 4), (3, 5), (4, 6), (5, 14), (6, 15), (7, 16), (8, 17), (9, 18), (10, 19), (11, 20), (12, 21), (13, 22), (14, 23), (15, 25)]) (.inl rfl) rfl (.cellg G33 rfl rfl rfl (.cellg G33 rfl rfl rfl (.nil))) rfl r76 ⟨(lx rfl), (lx rfl), (lx rfl), (lx rfl), (lx rfl), (lx rfl), (lx rfl), (lx rfl), (lx rfl), (lx rfl), (lx rfl), (lx rfl), (lx rfl), (lx rfl), (lx rfl), (lx rfl), trivial⟩ (by simp) (by simp)
end Go.Flong
namespace Go.Flong
open Go Go.Eng
def sepB (b : Book) (m n : Int) : Bool := !(hurries b (nth b.tals m) (nth b.tals n) || twiceB b m n)
theorem twice_comm (b : Book) (m n : Int) : twiceB b m n = twiceB b n m := by
  unfold twiceB
  rw [Bool.eq_iff_iff]
  simp only [Bool.and_eq_true, decide_eq_true_eq]
  omega
theorem sepB_comm (b : Book) (m n : Int) : sepB b m n = sepB b n m := by unfold sepB; rw [hurries_comm, twice_comm]
def plAt (b : Book) (n : Int) : Int := pOf (plateT b n)
def cntP (b : Book) (l : List Int) (k : Int) : Nat := l.countP fun n => decide (plAt b n = k)
def haveP (b : Book) (k : Int) : Int := manyTo b.set k b.set.length
theorem said_count (b : Book) (l : List Int) (k : Int) : ∀ i : Nat, i ≤ l.length → saidTo b l k i = cntP b (l.take i) k
  | 0, _ => by simp [saidTo, cntP]
  | i + 1, h => by
    rw [saidTo, said_count b l k i (by omega), ← take_snoc (show i < l.length by omega)]
    unfold cntP plAt
    rw [List.countP_append]
    split
    · rename_i e; simp [e]
    · rename_i e; simp [e]
theorem mem_nth {α : Type} [Inhabited α] {l : List α} {x : α} : x ∈ l ↔ ∃ i : Nat, i < l.length ∧ nth l (i : Int) = x := by
  constructor
  · intro h
    obtain ⟨i, hi, e⟩ := List.mem_iff_getElem.1 h
    exact ⟨i, hi, by rw [nthG hi, e]⟩
  · rintro ⟨i, hi, e⟩
    rw [← e, nthG hi]; exact List.getElem_mem hi
theorem inBook_iff {b : Book} {l : List Int} : inBook b l ↔ ∀ x ∈ l, 0 ≤ x ∧ x < b.tals.length := by
  constructor
  · intro h x hx
    obtain ⟨i, hi, e⟩ := mem_nth.1 hx
    rw [← e]; exact h i hi
  · intro h i hi
    exact h _ (by rw [nthG hi]; exact List.getElem_mem hi)
theorem sep_iff {b : Book} {l : List Int} (hd : l.Nodup) : allI (sepRow b l) l.length = true ↔ ∀ x ∈ l, ∀ y ∈ l, x ≠ y → sepB b x y = true := by
  rw [allI_iff]
  constructor
  · intro h x hx y hy hne
    obtain ⟨i, hi, e1⟩ := mem_nth.1 hx
    obtain ⟨k, hk, e2⟩ := mem_nth.1 hy
    rcases Nat.lt_trichotomy i k with g | g | g
    · have := allI_iff.1 (h k hk) i g
      rw [sepB_comm, ← e1, ← e2]; exact this
    · subst g; exact absurd (e1.symm.trans e2) hne
    · have := allI_iff.1 (h i hi) k g
      rw [← e1, ← e2]; exact this
  · intro h i hi
    refine allI_iff.2 fun k hk => ?_
    have hk2 : k < l.length := by omega
    refine h _ (mem_nth.2 ⟨i, hi, rfl⟩) _ (mem_nth.2 ⟨k, hk2, rfl⟩) fun e => ?_
    rw [nthG hi, nthG hk2] at e
    have := (List.getElem_inj hd).1 e
    omega
theorem good_iff {b : Book} (hB : BookB b) (hs : b.set.length ≤ 1000) {l : List Int} (hin : ∀ x ∈ l, 0 ≤ x ∧ x < b.tals.length) (hd : l.Nodup) :
    good b l = true ↔ (∀ x ∈ l, ∀ y ∈ l, x ≠ y → sepB b x y = true) ∧ ∀ k : Nat, k < 12 → (cntP b l (k : Int) : Int) ≤ haveP b (k : Int) := by
  have hi := inBook_iff.2 hin
  rw [good_sep, Bool.and_eq_true, sep_iff hd, enough_iff hB hs hi, allI_iff]
  refine and_congr_right fun _ => forall_congr' fun k => forall_congr' fun hk => ?_
  unfold enAtR
  rw [decide_eq_true_eq, broughtR, brR_nth hB hi _ (Nat.le_refl _) k hk, countsR_nth (setPls hB.p hs) (by omega) (by omega), said_count b l _ _ (Nat.le_refl _), List.take_length]
  exact Iff.rfl
theorem good_map {b o : Book} (hB : BookB b) (hs : b.set.length ≤ 1000) (hO : BookB o) (ho : o.set.length ≤ 1000) {l : List Int} {φ : Int → Int} (hin : ∀ x ∈ l, 0 ≤ x ∧ x < b.tals.length) (hd : l.Nodup)
    (hin2 : ∀ x ∈ l, 0 ≤ φ x ∧ φ x < o.tals.length) (hj : ∀ x ∈ l, ∀ y ∈ l, φ x = φ y → x = y) (h1 : ∀ x ∈ l, ∀ y ∈ l, x ≠ y → sepB b x y = true → sepB o (φ x) (φ y) = true) (h2 : ∀ x ∈ l, plAt o (φ x) = plAt b x) (h3 : ∀ k : Nat, k < 12 → haveP b (k : Int) ≤ haveP o (k : Int))
    (hg : good b l = true) : good o (l.map φ) = true := by
  obtain ⟨g1, g2⟩ := (good_iff hB hs hin hd).1 hg
  have hd2 : (l.map φ).Nodup := by
    rw [List.nodup_iff_pairwise_ne, List.pairwise_map]
    exact (List.pairwise_iff_forall_sublist).2 fun {x y} hxy e => by
      have hx : x ∈ l := hxy.subset (by simp)
      have hy : y ∈ l := hxy.subset (by simp)
      have := hj x hx y hy e
      subst this
      have := hxy.nodup hd
      simp at this
  refine (good_iff hO ho (fun z hz => ?_) hd2).2 ⟨fun z hz w hw hne => ?_, fun k hk => ?_⟩
  · obtain ⟨x, hx, e⟩ := List.mem_map.1 hz
    rw [← e]; exact hin2 x hx
  · obtain ⟨x, hx, e⟩ := List.mem_map.1 hz
    obtain ⟨y, hy, e2⟩ := List.mem_map.1 hw
    subst e e2
    have hxy : x ≠ y := fun g => hne (by rw [g])
    exact h1 x hx y hy hxy (g1 x hx y hy hxy)
  · have e : cntP o (l.map φ) (k : Int) = cntP b l (k : Int) := by
      unfold cntP
      rw [List.countP_map]
      refine List.countP_congr fun x hx => ?_
      simp only [Function.comp_apply, decide_eq_true_eq]
      rw [h2 x hx]
    rw [e]
    have := g2 k hk
    have := h3 k hk
    omega
theorem good_perm {b : Book} (hB : BookB b) (hs : b.set.length ≤ 1000) {l m : List Int} (hin : ∀ x ∈ l, 0 ≤ x ∧ x < b.tals.length) (hd : l.Nodup) (hm : m.Perm l) : good b m = good b l := by
  have hd2 := hm.nodup_iff.2 hd
  rw [Bool.eq_iff_iff, good_iff hB hs hin hd, good_iff hB hs (fun x hx => hin x (hm.mem_iff.1 hx)) hd2]
  have e : ∀ k : Int, cntP b m k = cntP b l k := fun k => hm.countP_eq _
  simp only [hm.mem_iff, e]
def rl (b : Book) (l : List Int) : Prop := rising l 0 ((b.tals.length : Int) - 1) = true
theorem rl_in {b : Book} {l : List Int} (h : rl b l) : ∀ x ∈ l, 0 ≤ x ∧ x < b.tals.length := fun x hx => by
  obtain ⟨i, hi, e⟩ := mem_nth.1 hx
  have := (rising_parts h).1 i hi
  omega
theorem rising_nodup {l : List Int} {lo hi : Int} (h : rising l lo hi = true) : l.Nodup := by
  rw [List.nodup_iff_pairwise_ne, List.pairwise_iff_getElem]
  intro i j h1 h2 hij
  have := incr_lt (rising_parts h).2 hij h2
  rw [nthG h1, nthG h2] at this
  omega
theorem rl_nd {b : Book} {l : List Int} (h : rl b l) : l.Nodup := rising_nodup h
theorem rl_bits {b : Book} (h8 : b.tals.length ≤ 8) {s : Nat} (hs : s < 2 ^ b.tals.length) : rl b (bitsL s) := (comp_ok h8 hs).2.2
theorem rl_code {b : Book} (h8 : b.tals.length ≤ 8) {l : List Int} (h : rl b l) : codeL l < 2 ^ b.tals.length ∧ bitsL (codeL l) = l := rising_code h8 h
theorem co_sum_all : (List.range 9).all (fun n => (List.range (2 ^ n)).all fun s => decide (popc (2 ^ n - 1 - s) + popc s = n) && (List.range 8).all fun i => (2 ^ n - 1 - s).testBit i == (decide (i < n) && !s.testBit i)) = true := by decide +kernel
theorem co_sum {n s : Nat} (h : n ≤ 8) (hs : s < 2 ^ n) : popc (2 ^ n - 1 - s) + popc s = n ∧ ∀ i : Nat, i < 8 → (2 ^ n - 1 - s).testBit i = (decide (i < n) && !s.testBit i) := by
  have := List.all_eq_true.1 (List.all_eq_true.1 co_sum_all n (List.mem_range.2 (by omega))) s (List.mem_range.2 hs)
  simp only [Bool.and_eq_true, decide_eq_true_eq, List.all_eq_true, beq_iff_eq, List.mem_range] at this
  exact this
theorem coS_lt {b : Book} (h8 : b.tals.length ≤ 8) (s : Nat) : coS b s < 2 ^ b.tals.length := by
  have := pow_ok h8; unfold coS; omega
theorem coS_co {b : Book} {s : Nat} (hs : s < 2 ^ b.tals.length) : coS b (coS b s) = s := by unfold coS; omega
theorem ot_bits {b : Book} (h8 : b.tals.length ≤ 8) {s : Nat} (hs : s < 2 ^ b.tals.length) : othersR b (bitsL s) = bitsL (coS b s) := (comp_ok h8 hs).1
theorem few_le {b : Book} (h8 : b.tals.length ≤ 8) {l : List Int} (h : rl b l) (hg : good b l = true) : fewS b + l.length ≤ b.tals.length := by
  have h1 := rl_code h8 h
  have h2 := coS_lt h8 (codeL l)
  have h3 := (few_ok h8).l _ h2 (by unfold okS; rw [coS_co h1.1, h1.2]; exact hg)
  have h4 := (co_sum h8 h1.1).1
  unfold coS at h3
  have h5 : popc (codeL l) = l.length := by unfold popc; rw [h1.2]
  omega
theorem few_at {b : Book} (h8 : b.tals.length ≤ 8) : ∃ l, rl b l ∧ good b l = true ∧ fewS b + l.length = b.tals.length := by
  obtain ⟨s, hs⟩ := List.exists_mem_of_ne_nil _ (stL_ne h8)
  have h1 := ((few_ok h8).m s).1 hs
  refine ⟨bitsL (coS b s), rl_bits h8 (coS_lt h8 s), h1.2.2, ?_⟩
  have h4 := (co_sum h8 h1.1).1
  have h5 : (bitsL (coS b s)).length = popc (2 ^ b.tals.length - 1 - s) := rfl
  omega
def isSt (b : Book) (l : List Int) : Prop := rl b l ∧ good b (othersR b l) = true ∧ l.length = fewS b
theorem stL_lt {b : Book} (h8 : b.tals.length ≤ 8) : ∀ x ∈ stL b, x < 256 := fun x hx => by
  have := (((few_ok h8).m x).1 hx).1
  have := pow_ok h8
  omega
theorem mem_stS {b : Book} (h8 : b.tals.length ≤ 8) {s : Nat} : s ∈ stS b ↔ s < 2 ^ b.tals.length ∧ popc s = fewS b ∧ okS b s = true := by
  unfold stS
  rw [(sortN_perm (stL_lt h8)).mem_iff, (few_ok h8).m]
theorem mem_storS {b : Book} (h8 : b.tals.length ≤ 8) {l : List Int} : l ∈ storS b ↔ isSt b l := by
  unfold storS isSt
  rw [List.mem_map]
  constructor
  · rintro ⟨s, hs, rfl⟩
    obtain ⟨h1, h2, h3⟩ := (mem_stS h8).1 hs
    exact ⟨rl_bits h8 h1, by rw [ot_bits h8 h1]; exact h3, h2⟩
  · rintro ⟨h1, h2, h3⟩
    have h4 := rl_code h8 h1
    refine ⟨codeL l, (mem_stS h8).2 ⟨h4.1, by unfold popc; rw [h4.2]; exact h3, ?_⟩, h4.2⟩
    rw [← h4.2, ot_bits h8 h4.1] at h2
    exact h2
theorem blame_eq {b : Book} (hc : b.chk = true) : blame b = bitsL (nth (stS b) 0) := if_pos (askE_eq.2 ⟨hc, rfl⟩)
theorem blame_st {b : Book} (hc : b.chk = true) : isSt b (blame b) := by
  have h8 := (bookB hc).t
  rw [blame_eq hc]
  refine (mem_storS h8).1 (List.mem_map.2 ⟨_, mem_nth.2 ⟨0, (stS_len h8).1, rfl⟩, rfl⟩)
end Go.Flong
namespace Go.Flong
open Go Go.Eng
theorem rising_iff {l : List Int} {lo hi : Int} : rising l lo hi = true ↔ (∀ x ∈ l, lo ≤ x ∧ x ≤ hi) ∧ l.Pairwise (· < ·) := by
  constructor
  · intro h
    obtain ⟨h1, h2⟩ := rising_parts h
    refine ⟨fun x hx => ?_, ?_⟩
    · obtain ⟨i, hi2, e⟩ := mem_nth.1 hx
      rw [← e]; exact h1 i hi2
    · rw [List.pairwise_iff_getElem]
      intro i j hi2 hj hij
      have := incr_lt h2 hij hj
      rwa [nthG hi2, nthG hj] at this
  · rintro ⟨h1, h2⟩
    refine allI_iff.2 fun j hj => ?_
    have h3 := h1 _ (mem_nth.2 ⟨j, hj, rfl⟩)
    unfold risingAt within
    rw [decide_eq_true h3.1, decide_eq_true h3.2]
    by_cases e : j = 0
    · subst e; simp
    · rw [List.pairwise_iff_getElem] at h2
      have := h2 (j - 1) j (by omega) hj (by omega)
      rw [show (j : Int) - 1 = ((j - 1 : Nat) : Int) by omega, nthG hj, nthG (show j - 1 < l.length by omega), decide_eq_false (show ¬ l[j] ≤ l[j - 1] by omega)]
      simp
theorem rl_iff {b : Book} {l : List Int} : rl b l ↔ (∀ x ∈ l, 0 ≤ x ∧ x < b.tals.length) ∧ l.Pairwise (· < ·) := by
  unfold rl
  rw [rising_iff]
  refine and_congr_left fun _ => forall_congr' fun x => forall_congr' fun _ => ?_
  omega
theorem mem_others {b : Book} {l : List Int} {x : Int} : x ∈ othersR b l ↔ 0 ≤ x ∧ x < b.tals.length ∧ x ∉ l := by
  unfold othersR
  rw [otTo_mem, ← Bool.not_eq_true, inL_iff]
theorem others_rl {b : Book} (h8 : b.tals.length ≤ 8) {l : List Int} (h : rl b l) : rl b (othersR b l) := by
  have h1 := rl_code h8 h
  rw [← h1.2, ot_bits h8 h1.1]
  exact rl_bits h8 (coS_lt h8 _)
theorem others_sum {b : Book} (h8 : b.tals.length ≤ 8) {l : List Int} (h : rl b l) : (othersR b l).length + l.length = b.tals.length := by
  have h1 := rl_code h8 h
  have h2 := (co_sum h8 h1.1).1
  have h3 : (othersR b l).length = popc (2 ^ b.tals.length - 1 - codeL l) := by rw [← h1.2, ot_bits h8 h1.1, h1.2]; rfl
  have h4 : popc (codeL l) = l.length := by unfold popc; rw [h1.2]
  omega
theorem cntB_count (h : Nat → Bool) (l : List Nat) : ∀ i : Nat, i ≤ l.length → cntB h l i = (l.take i).countP h
  | 0, _ => by simp [cntB]
  | i + 1, hi => by
    rw [cntB, cntB_count h l i (by omega), ← take_snoc (show i < l.length by omega), List.countP_append]
    split
    · rename_i e; simp [e]
    · rename_i e; simp [e]
theorem cnS_count (b : Book) (h : Nat → Bool) : cnS b h = (stS b).countP h := by
  unfold cnS
  rw [cntB_count h _ _ (Nat.le_refl _), List.take_length]
theorem knB_def (b : Book) (h : Nat → Bool) : knB b h = if cnS b h = (stS b).length then 1 else if cnS b h = 0 then 2 else 3 := rfl
theorem knB_1 {b : Book} {h : Nat → Bool} : knB b h = 1 ↔ ∀ s ∈ stS b, h s = true := by
  rw [knB_def, cnS_count, ← List.countP_eq_length]
  by_cases e : ((stS b).countP h : Int) = (stS b).length
  · rw [if_pos e]; exact ⟨fun _ => by omega, fun _ => rfl⟩
  · rw [if_neg e]
    refine ⟨fun g => ?_, fun g => absurd (by omega) e⟩
    split at g <;> omega
theorem knB_2 {b : Book} (h8 : b.tals.length ≤ 8) {h : Nat → Bool} : knB b h = 2 ↔ ∀ s ∈ stS b, h s = false := by
  have h0 := (stS_len h8).1
  have e : (∀ s ∈ stS b, h s = false) ↔ (stS b).countP h = 0 := by
    rw [List.countP_eq_zero]
    exact forall_congr' fun s => forall_congr' fun _ => by simp
  rw [knB_def, cnS_count, e]
  by_cases e : ((stS b).countP h : Int) = (stS b).length
  · rw [if_pos e]; exact ⟨fun g => by omega, fun g => by omega⟩
  · rw [if_neg e]
    by_cases e2 : ((stS b).countP h : Int) = 0
    · rw [if_pos e2]; exact ⟨fun _ => by omega, fun _ => rfl⟩
    · rw [if_neg e2]; exact ⟨fun g => by omega, fun g => by omega⟩
theorem stS_256 {b : Book} (h8 : b.tals.length ≤ 8) {s : Nat} (hs : s ∈ stS b) : s < 256 := by
  have := ((mem_stS h8).1 hs).1
  have := pow_ok h8
  omega
end Go.Flong
namespace Go.Flong
open Go Go.Eng
def cutT (l : List Tal) (k : Int) : List Tal := ([] ++ (l.take k.toNat).drop (0 : Int).toNat) ++ (l.take (l.length : Int).toNat).drop (k + 1).toNat
def Book.wo (b : Book) (k : Int) : Book := { b with tals := cutT b.tals k }
theorem cutT_eq (l : List Tal) (k : Int) (h : 0 ≤ k) : cutT l k = l.eraseIdx k.toNat := by
  unfold cutT
  rw [List.nil_append, show (0 : Int).toNat = 0 from rfl, List.drop_zero, show ((l.length : Int)).toNat = l.length by omega, List.take_length, show (k + 1).toNat = k.toNat + 1 by omega, ← List.eraseIdx_eq_take_drop_succ]
theorem cutT_len (l : List Tal) (k : Int) (h : 0 ≤ k ∧ k < l.length) : (cutT l k).length = l.length - 1 := by
  rw [cutT_eq l k h.1, List.length_eraseIdx_of_lt (by omega)]
def phi (k x : Int) : Int := if x < k then x else x + 1
def psi (k x : Int) : Int := if x < k then x else x - 1
theorem cutT_nth (l : List Tal) (k : Int) (h : 0 ≤ k ∧ k < l.length) {x : Int} (hx : 0 ≤ x ∧ x < (l.length : Int) - 1) : nth (cutT l k) x = nth l (phi k x) := by
  have h1 := cutT_len l k h
  have e1 : nth (cutT l k) x = nth (cutT l k) ((x.toNat : Nat) : Int) := by rw [show ((x.toNat : Nat) : Int) = x by omega]
  have e2 : nth l (phi k x) = nth l (((phi k x).toNat : Nat) : Int) := by
    have : 0 ≤ phi k x := by unfold phi; split <;> omega
    rw [show (((phi k x).toNat : Nat) : Int) = phi k x by omega]
  have h2 : (phi k x).toNat < l.length := by unfold phi; split <;> omega
  rw [e1, e2, nthG (by omega), nthG h2]
  have e3 : (cutT l k)[x.toNat]'(by omega) = (l.eraseIdx k.toNat)[x.toNat]'(by rw [← cutT_eq l k h.1]; omega) := by
    congr 1
    exact cutT_eq l k h.1
  rw [e3, List.getElem_eraseIdx]
  unfold phi
  split
  · rename_i g
    simp only [show x < k by omega, if_true]
  · rename_i g
    simp only [show ¬ x < k by omega, if_false, show (x + 1).toNat = x.toNat + 1 by omega]
theorem wo_chk {b : Book} (hc : b.chk = true) {k : Int} (h : 0 ≤ k ∧ k < b.tals.length) : (b.wo k).chk = true := by
  have hl := cutT_len b.tals k h
  simp only [Book.chk, Book.head, Bool.and_eq_true, decide_eq_true_eq] at hc ⊢
  obtain ⟨⟨⟨⟨⟨⟨h1, h2⟩, h3⟩, h4⟩, h5⟩, h6⟩, h7⟩ := hc
  refine ⟨⟨⟨⟨⟨⟨h1, h2⟩, h3⟩, h4⟩, ?_⟩, h6⟩, ?_⟩
  · show ((cutT b.tals k).length : Int) ≤ 8
    omega
  · refine allI_iff.2 fun i hi => ?_
    have hi2 : i < (cutT b.tals k).length := hi
    have h8 := allI_iff.1 h7 (phi k (i : Int)).toNat (by unfold phi; split <;> omega)
    unfold Book.talOK at h8 ⊢
    have e : nth (b.wo k).tals (i : Int) = nth b.tals (phi k (i : Int)) := cutT_nth b.tals k h (by omega)
    rw [e]
    rw [show (((phi k (i : Int)).toNat : Nat) : Int) = phi k (i : Int) by unfold phi; split <;> omega] at h8
    exact h8
theorem phi_in {b : Book} {k : Int} (h : 0 ≤ k ∧ k < b.tals.length) {x : Int} (hx : 0 ≤ x ∧ x < (b.tals.length : Int) - 1) : 0 ≤ phi k x ∧ phi k x < b.tals.length := by unfold phi; split <;> omega
theorem wo_tals {b : Book} {k : Int} (h : 0 ≤ k ∧ k < b.tals.length) {x : Int} (hx : 0 ≤ x ∧ x < (b.tals.length : Int) - 1) : nth (b.wo k).tals x = nth b.tals (phi k x) := cutT_nth b.tals k h hx
theorem wo_len {b : Book} {k : Int} (h : 0 ≤ k ∧ k < b.tals.length) : (b.wo k).tals.length = b.tals.length - 1 := cutT_len b.tals k h
theorem wo_sep {b : Book} {k : Int} (h : 0 ≤ k ∧ k < b.tals.length) {x y : Int} (hx : 0 ≤ x ∧ x < (b.tals.length : Int) - 1) (hy : 0 ≤ y ∧ y < (b.tals.length : Int) - 1) : sepB (b.wo k) x y = sepB b (phi k x) (phi k y) := by
  unfold sepB twiceB
  rw [wo_tals h hx, wo_tals h hy]; rfl
theorem wo_pl {b : Book} {k : Int} (h : 0 ≤ k ∧ k < b.tals.length) {x : Int} (hx : 0 ≤ x ∧ x < (b.tals.length : Int) - 1) : plAt (b.wo k) x = plAt b (phi k x) := by
  unfold plAt plateT
  rw [wo_tals h hx]; rfl
theorem wo_down {b : Book} (hc : b.chk = true) (hs : b.set.length ≤ 1000) {k : Int} (h : 0 ≤ k ∧ k < b.tals.length) {l : List Int} (hl : rl b l) (hg : good b l = true) (hk : k ∉ l) : rl (b.wo k) (l.map (psi k)) ∧ good (b.wo k) (l.map (psi k)) = true := by
  have hO := bookB (wo_chk hc h)
  have hB := bookB hc
  have hw := wo_len h
  have hin := rl_in hl
  have hne : ∀ x ∈ l, x ≠ k := fun x hx e => hk (e ▸ hx)
  have hps : ∀ x ∈ l, 0 ≤ psi k x ∧ psi k x < (b.tals.length : Int) - 1 ∧ phi k (psi k x) = x := fun x hx => by
    have := hin x hx
    have := hne x hx
    by_cases g : x < k
    · have e : psi k x = x := if_pos g
      rw [e, show phi k x = x from if_pos g]; omega
    · have e : psi k x = x - 1 := if_neg g
      rw [e, show phi k (x - 1) = x - 1 + 1 from if_neg (by omega)]; omega
  refine ⟨?_, ?_⟩
  · rw [rl_iff] at hl ⊢
    refine ⟨fun z hz => ?_, ?_⟩
    · obtain ⟨x, hx, rfl⟩ := List.mem_map.1 hz
      have := hps x hx
      omega
    · rw [List.pairwise_map]
      refine List.Pairwise.imp_of_mem (fun {x y} hx hy hxy => ?_) hl.2
      have := hne x hx
      have := hne y hy
      unfold psi; split <;> split <;> omega
  · refine good_map hB hs hO hs hin (rl_nd hl) (fun x hx => by have := hps x hx; omega) (fun x hx y hy e => ?_) (fun x hx y hy hne2 hh => ?_) (fun x hx => ?_) (fun q _ => Int.le_refl _) hg
    · rw [← (hps x hx).2.2, ← (hps y hy).2.2, e]
    · rw [wo_sep h (by have := hps x hx; omega) (by have := hps y hy; omega), (hps x hx).2.2, (hps y hy).2.2]; exact hh
    · rw [wo_pl h (by have := hps x hx; omega), (hps x hx).2.2]
theorem wo_small {b : Book} (h : b.Small) (k : Int) : (b.wo k).Small := ⟨h.h, h.s, h.w, by
  have h1 := h.t
  show (cutT b.tals k).length ≤ 40
  have h2 : (cutT b.tals k).length ≤ b.tals.length + b.tals.length := by
    unfold cutT
    simp only [List.nil_append, List.length_append, List.length_drop, List.length_take]
    omega
  by_cases h0 : 0 ≤ k
  · have : (cutT b.tals k).length ≤ b.tals.length := by
      rw [cutT_eq _ _ h0]; exact List.length_eraseIdx_le _ _
    omega
  · unfold cutT
    simp only [List.nil_append, List.length_append, List.length_drop, List.length_take]
    omega⟩
theorem rdV_eq {b : Book} (hc : b.chk = true) {m ed mi : Int} (h : isPrintB b m ed mi = true) : rdE b m ed mi = 0 ∧ rdV b m ed mi = knB b (rdS b m ed mi) := by
  have e : rdE b m ed mi = 0 := by
    rw [← rdE_ref]
    exact askE_eq.2 ⟨hc, h⟩
  exact ⟨e, if_pos e⟩
end Go.Flong
namespace Go.Flong
open Go Go.Eng
theorem isSet_of {l : List Plate} (h1 : ∀ p ∈ l, p.chk = true) (h2 : l.Pairwise fun p q => pOf p < pOf q) : isSet l = true := by
  refine allI_iff.2 fun i hi => ?_
  have h3 := h1 _ (mem_nth.2 ⟨i, hi, rfl⟩)
  unfold setAt
  rw [h3, Bool.true_and, Bool.not_eq_true', Bool.and_eq_false_iff, decide_eq_false_iff_not, decide_eq_false_iff_not]
  by_cases e : i = 0
  · left; omega
  · right
    rw [List.pairwise_iff_getElem] at h2
    have := h2 (i - 1) i (by omega) hi (by omega)
    rw [show (i : Int) - 1 = ((i - 1 : Nat) : Int) by omega, nthG hi, nthG (show i - 1 < l.length by omega)]
    unfold pOf at this
    omega
theorem setTo_many (c : List Int) (n : Nat) {k : Nat} (hk : k < n) : manyTo (setTo c n) (k : Int) (setTo c n).length = if 0 < nth c (k : Int) then nth c (k : Int) else 0 := by
  have hm := setTo_mem c
  have hp := setTo_pw c n
  rw [List.pairwise_iff_getElem] at hp
  have hpl : ∀ (i j : Nat) (hi : i < (setTo c n).length) (hj : j < (setTo c n).length), i < j → plc (nth (setTo c n) (i : Int)).page (nth (setTo c n) (i : Int)).bore < plc (nth (setTo c n) (j : Int)).page (nth (setTo c n) (j : Int)).bore := fun i j hi hj hij => by
    have := hp i j hi hj hij
    rw [nthG hi, nthG hj]; exact this
  split
  · rename_i g
    obtain ⟨m, hm1, hm2⟩ := mem_nth.1 ((hm ⟨(k : Int).tdiv 3, (k : Int) % 3, nth c (k : Int)⟩ n).2 ⟨k, hk, g, rfl⟩)
    have e : plc (nth (setTo c n) (m : Int)).page (nth (setTo c n) (m : Int)).bore = (k : Int) := by rw [hm2]; exact plc_div k
    rw [manyTo_one (m := m) e hm1 fun j hj hne e2 => ?_, hm2]
    rcases Nat.lt_or_gt_of_ne hne with g2 | g2
    · have := hpl j m hj hm1 g2; omega
    · have := hpl m j hm1 hj g2; omega
  · rename_i g
    refine manyTo_none fun j hj e => ?_
    obtain ⟨q, h1, h2, h3⟩ := (hm _ n).1 (mem_nth.2 ⟨j, hj, rfl⟩)
    rw [h3] at e
    have e2 := plc_div q
    simp only [] at e
    rw [e2] at e
    have : q = k := by omega
    subst this
    exact g h2
structure Left2 (b : Book) : Prop where
  z : askE b true = 0
  n : (lfV b).length ≤ 40
  s : isSet (lfV b) = true
  l : isListB b (blame b) = true
  i : inBook b (othersR b (blame b))
  c : ∀ k : Nat, k < 12 → nth (broughtR b (othersR b (blame b))) (k : Int) + nth (countsR (lfV b)) (k : Int) = nth (countsR b.set) (k : Int)
  p : ∀ pg : Int, 0 ≤ pg → pg ≤ 3 → plE b pg = 0 ∧ (plV b pg).1 ≤ pgL b pg (othersR b (blame b)) (othersR b (blame b)).length ∧ pgL b pg (othersR b (blame b)) (othersR b (blame b)).length ≤ (plV b pg).2 ∧ 0 ≤ (plV b pg).1
theorem plTo_bnd (b : Book) (pg : Int) : ∀ i : Nat, 0 ≤ (plTo b pg i).1 ∧ ∀ j : Nat, j < i → (plTo b pg i).1 ≤ pgS b pg (nth (stS b) (j : Int)) ∧ pgS b pg (nth (stS b) (j : Int)) ≤ (plTo b pg i).2
  | 0 => ⟨by simp [plTo], fun j hj => by omega⟩
  | i + 1 => by
    obtain ⟨h1, h2⟩ := plTo_bnd b pg i
    have h3 := (pgTo_bnd b pg (nth (stS b) (i : Int)) b.tals.length).1
    have h3 : 0 ≤ pgS b pg (nth (stS b) (i : Int)) := h3
    refine ⟨by simp only [plTo]; omega, fun j hj => ?_⟩
    simp only [plTo]
    by_cases e : j = i
    · subst e; omega
    · have := h2 j (by omega); omega
theorem left_law2 {b : Book} (hc : b.chk = true) (hn : b.set.length ≤ 40) : Left2 b := by
  have hB := bookB hc
  have h8 := hB.t
  have h0 : askE b true = 0 := askE_eq.2 ⟨hc, rfl⟩
  have hl0 := (stS_len h8).1
  have hb := blame_eq hc
  have hst := blame_st hc
  have hs0 : nth (storS b) 0 = blame b := by rw [hb]; exact storS_nth (i := 0) hl0
  have hlf : lfV b = lfTo b b.set.length := if_pos h0
  have hlen := lfTo_len b b.set.length
  have hlaw := left_law hc (show b.set.length ≤ 1000 by omega)
  have hc12 : (subTo (countsR b.set) (goneL b) 12).length = 12 := by rw [subTo_len, countsR_len]
  have hin := others_in b (blame b)
  have hgone : ∀ k : Nat, k < 12 → nth (broughtR b (othersR b (blame b))) (k : Int) = cntP b (othersR b (blame b)) (k : Int) := fun k hk => by
    unfold broughtR
    rw [brR_nth hB hin _ (Nat.le_refl _) k hk, said_count b _ _ _ (Nat.le_refl _), List.take_length]
  have hgd := (good_iff hB (show b.set.length ≤ 1000 by omega) (rl_in (others_rl h8 hst.1)) (rl_nd (others_rl h8 hst.1))).1 hst.2.1
  have hsub : ∀ k : Nat, k < 12 → nth (subTo (countsR b.set) (goneL b) 12) (k : Int) = haveP b (k : Int) - cntP b (othersR b (blame b)) (k : Int) := fun k hk => by
    rw [subTo_nth _ _ 12 k (by rw [countsR_len]; omega), if_pos hk, countsR_nth (setPls hB.p (by omega)) (by omega) (by omega)]
    unfold goneL
    rw [hs0, hgone k hk]; rfl
  have hset : isSet (lfV b) = true := by
    rw [hlf]
    refine isSet_of (fun p hp => ?_) (lfTo_pw hB.p _ (Nat.le_refl _))
    obtain ⟨k, hk, hr, e⟩ := (lfTo_mem b p _).1 hp
    have h1 := isSetB hB.p hk
    have h2 := (br_le b (nth (stS b) 0) b.tals.length [(nth b.set (k : Int)).page, (nth b.set (k : Int)).bore]).1
    have h3 : remN b k ≤ (nth b.set (k : Int)).many := by unfold remN brS; omega
    subst e
    simp only [Plate.chk, within, Bool.and_eq_true, decide_eq_true_eq]
    omega
  refine ⟨h0, by rw [hlf]; omega, hset, ?_, hin, fun k hk => ?_, fun pg p0 p3 => ?_⟩
  · unfold isListB
    have := blame_len b
    rw [decide_eq_true (by omega), Bool.true_and]
    exact hst.1
  · have hpo := setPls hset (show (lfV b).length ≤ 1000 by rw [hlf]; omega)
    rw [hgone k hk, countsR_nth hpo (by omega) (by omega), countsR_nth (setPls hB.p (by omega)) (by omega) (by omega)]
    have h1 : lfV b = setTo (subTo (countsR b.set) (goneL b) 12) 12 := by
      rw [hlf, ← hlaw]; unfold setOf; rw [hc12]
    rw [h1, setTo_many _ 12 hk, hsub k hk]
    have := hgd.2 k hk
    unfold haveP at *
    split <;> omega
  · have e1 : plE b pg = 0 := askE_eq.2 ⟨hc, by unfold within; rw [decide_eq_true p0, decide_eq_true p3]; rfl⟩
    have e2 : plV b pg = plTo b pg (stS b).length := if_pos e1
    have e3 : pgL b pg (othersR b (blame b)) (othersR b (blame b)).length = pgS b pg (nth (stS b) 0) := by rw [hb]; exact pg_law h8 pg (stS_lt h8 0 hl0)
    have h1 := plTo_bnd b pg (stS b).length
    have h2 := h1.2 0 hl0
    rw [e2, e3]
    exact ⟨e1, h2.1, h2.2, h1.1⟩
def Book.plus (b : Book) (c : List Int) : Book := { b with set := setOf c }
def Book.more (b : Book) (t : Tal) : Book := { b with tals := ([] ++ b.tals) ++ [t] }
end Go.Flong
namespace Go.Flong
open Go Go.Eng
theorem perm_of {α : Type} [DecidableEq α] : ∀ {a c : List α}, a.Nodup → c.Nodup → (∀ x, x ∈ a ↔ x ∈ c) → a.Perm c
  | [], [], _, _, _ => .nil
  | [], y :: c, _, _, h => absurd ((h y).2 (by simp)) (by simp)
  | x :: a, c, ha, hc, h => by
    have hx : x ∈ c := (h x).1 (by simp)
    rw [List.nodup_cons] at ha
    refine (List.Perm.cons x (perm_of ha.2 (hc.erase x) fun y => ?_)).trans (List.perm_cons_erase hx).symm
    rw [hc.mem_erase_iff]
    constructor
    · intro hy
      exact ⟨fun e => ha.1 (e ▸ hy), (h y).1 (List.mem_cons_of_mem _ hy)⟩
    · rintro ⟨h1, h2⟩
      rcases List.mem_cons.1 ((h y).2 h2) with e | e
      · exact absurd e h1
      · exact e
theorem nodup_le {α : Type} [DecidableEq α] : ∀ {a c : List α}, a.Nodup → (∀ x ∈ a, x ∈ c) → a.length ≤ c.length
  | [], _, _, _ => by simp
  | x :: a, c, ha, h => by
    rw [List.nodup_cons] at ha
    have hx : x ∈ c := h x (by simp)
    have h1 := nodup_le (c := c.erase x) ha.2 fun y hy => (List.mem_erase_of_ne (fun (e : y = x) => ha.1 (by rw [← e]; exact hy))).2 (h y (List.mem_cons_of_mem _ hy))
    rw [List.length_erase_of_mem hx] at h1
    have : 0 < c.length := List.length_pos_of_mem hx
    simp only [List.length_cons]; omega
structure Rel (b o : Book) (p : Int → Int) (q : Int → Int) : Prop where
  c : b.chk = true
  d : o.chk = true
  s : b.set.length ≤ 1000
  h : o.hall = b.hall
  e : o.set = b.set
  w : o.walk = b.walk
  n : o.tals.length = b.tals.length
  pi : ∀ x : Int, 0 ≤ x → x < b.tals.length → 0 ≤ p x ∧ p x < b.tals.length
  qi : ∀ x : Int, 0 ≤ x → x < b.tals.length → 0 ≤ q x ∧ q x < b.tals.length
  pq : ∀ x : Int, 0 ≤ x → x < b.tals.length → p (q x) = x
  qp : ∀ x : Int, 0 ≤ x → x < b.tals.length → q (p x) = x
  t : ∀ x : Int, 0 ≤ x → x < b.tals.length → nth o.tals x = nth b.tals (p x)
theorem Rel.symm {b o : Book} {p q : Int → Int} (r : Rel b o p q) : Rel o b q p :=
  ⟨r.d, r.c, by rw [r.e]; exact r.s, r.h.symm, r.e.symm, r.w.symm, r.n.symm, fun x h1 h2 => by rw [r.n] at h2 ⊢; exact r.qi x h1 h2, fun x h1 h2 => by rw [r.n] at h2 ⊢; exact r.pi x h1 h2, fun x h1 h2 => r.qp x h1 (by rw [r.n] at h2; exact h2), fun x h1 h2 => r.pq x h1 (by rw [r.n] at h2; exact h2),
    fun x h1 h2 => by
      rw [r.n] at h2
      have := r.qi x h1 h2
      rw [r.t _ this.1 this.2, r.pq x h1 h2]⟩
theorem Rel.h8 {b o : Book} {p q : Int → Int} (r : Rel b o p q) : b.tals.length ≤ 8 := (bookB r.c).t
theorem Rel.g8 {b o : Book} {p q : Int → Int} (r : Rel b o p q) : o.tals.length ≤ 8 := (bookB r.d).t
def trL (b : Book) (p : Int → Int) (l : List Int) : List Int := othersR b (othersR b (l.map p))
theorem Rel.mem {b o : Book} {p q : Int → Int} (r : Rel b o p q) {l : List Int} (hl : rl o l) {x : Int} : x ∈ trL b p l ↔ 0 ≤ x ∧ x < b.tals.length ∧ q x ∈ l := by
  unfold trL
  rw [mem_others, mem_others, List.mem_map]
  have hin := rl_in hl
  constructor
  · rintro ⟨h1, h2, h3⟩
    refine ⟨h1, h2, ?_⟩
    apply Classical.byContradiction
    intro g
    refine h3 ⟨h1, h2, ?_⟩
    rintro ⟨y, hy, e⟩
    have hy2 := hin y hy
    rw [r.n] at hy2
    apply g
    rw [← e, r.qp y hy2.1 hy2.2]; exact hy
  · rintro ⟨h1, h2, h3⟩
    refine ⟨h1, h2, ?_⟩
    rintro ⟨_, _, g⟩
    exact g ⟨q x, h3, r.pq x h1 h2⟩
theorem others_pw (b : Book) (l : List Int) : rl b (othersR b l) := by
  rw [rl_iff]
  refine ⟨fun x hx => by have := mem_others.1 hx; omega, ?_⟩
  unfold othersR
  have : ∀ i : Nat, (otTo l i).Pairwise (· < ·) := by
    intro i
    induction i with
    | zero => exact .nil
    | succ i ih =>
      unfold otTo
      split
      · exact ih
      · rw [List.pairwise_append]
        refine ⟨ih, List.pairwise_singleton _ _, fun x hx y hy => ?_⟩
        have := (otTo_mem l i x).1 hx
        rw [List.mem_singleton] at hy
        omega
  exact this _
theorem Rel.rl {b o : Book} {p q : Int → Int} (r : Rel b o p q) (l : List Int) : Flong.rl b (trL b p l) := others_pw b _
theorem Rel.mem2 {b o : Book} {p q : Int → Int} (r : Rel b o p q) {l : List Int} (hl : Flong.rl o l) {x : Int} (hx : 0 ≤ x ∧ x < b.tals.length) : p x ∈ trL b p l ↔ x ∈ l := by
  rw [r.mem hl, r.qp x hx.1 hx.2]
  have := r.pi x hx.1 hx.2
  exact ⟨fun h => h.2.2, fun h => ⟨this.1, this.2, h⟩⟩
theorem Rel.perm {b o : Book} {p q : Int → Int} (r : Rel b o p q) {l : List Int} (hl : Flong.rl o l) : (trL b p l).Perm (l.map p) := by
  have hin := rl_in hl
  refine perm_of (rl_nd (r.rl l)) ?_ fun x => ?_
  · rw [List.nodup_iff_pairwise_ne, List.pairwise_map]
    refine List.Pairwise.imp_of_mem (fun {x y} hx hy hne e => ?_) (List.nodup_iff_pairwise_ne.1 (rl_nd hl))
    have h1 := hin x hx
    have h2 := hin y hy
    rw [r.n] at h1 h2
    apply hne
    rw [← r.qp x h1.1 h1.2, ← r.qp y h2.1 h2.2, e]
  · rw [r.mem hl, List.mem_map]
    constructor
    · rintro ⟨h1, h2, h3⟩; exact ⟨q x, h3, r.pq x h1 h2⟩
    · rintro ⟨y, hy, e⟩
      have h1 := hin y hy
      rw [r.n] at h1
      have h2 := r.pi y h1.1 h1.2
      rw [← e, r.qp y h1.1 h1.2]
      exact ⟨h2.1, h2.2, hy⟩
theorem Rel.len {b o : Book} {p q : Int → Int} (r : Rel b o p q) {l : List Int} (hl : Flong.rl o l) : (trL b p l).length = l.length := by
  rw [(r.perm hl).length_eq, List.length_map]
theorem Rel.good {b o : Book} {p q : Int → Int} (r : Rel b o p q) {l : List Int} (hl : Flong.rl o l) (hg : Flong.good o l = true) : Flong.good b (trL b p l) = true := by
  have hB := bookB r.c
  have hO := bookB r.d
  have hin := rl_in hl
  have hin2 : ∀ x ∈ l, 0 ≤ x ∧ x < (b.tals.length : Int) := fun x hx => by have := hin x hx; rw [r.n] at this; exact this
  have hpin : ∀ z ∈ l.map p, 0 ≤ z ∧ z < (b.tals.length : Int) := fun z hz => by
    obtain ⟨x, hx, e⟩ := List.mem_map.1 hz
    rw [← e]; exact r.pi x (hin2 x hx).1 (hin2 x hx).2
  have h := good_map (φ := p) hO (by rw [r.e]; exact r.s) hB r.s hin (rl_nd hl) (fun x hx => r.pi x (hin2 x hx).1 (hin2 x hx).2) (fun x hx y hy e => by rw [← r.qp x (hin2 x hx).1 (hin2 x hx).2, ← r.qp y (hin2 y hy).1 (hin2 y hy).2, e]) (fun x hx y hy _ hh => ?_) (fun x hx => ?_) (fun k _ => by unfold haveP; rw [r.e]; exact Int.le_refl _) hg
  · have hd : (l.map p).Nodup := (r.perm hl).nodup_iff.1 (rl_nd (r.rl l))
    rw [good_perm hB r.s hpin hd (r.perm hl)]; exact h
  · unfold sepB twiceB hurries at hh ⊢
    rw [r.t x (hin2 x hx).1 (hin2 x hx).2, r.t y (hin2 y hy).1 (hin2 y hy).2, r.w] at hh
    exact hh
  · unfold plAt plateT
    rw [r.t x (hin2 x hx).1 (hin2 x hx).2, r.h]
theorem Rel.few {b o : Book} {p q : Int → Int} (r : Rel b o p q) : fewS b ≤ fewS o := by
  obtain ⟨l, h1, h2, h3⟩ := few_at r.g8
  have := few_le r.h8 (r.rl l) (r.good h1 h2)
  rw [r.len h1] at this
  have := r.n
  omega
theorem Rel.few_eq {b o : Book} {p q : Int → Int} (r : Rel b o p q) : fewS b = fewS o := Nat.le_antisymm r.few r.symm.few
theorem Rel.others {b o : Book} {p q : Int → Int} (r : Rel b o p q) {l : List Int} (hl : Flong.rl o l) : othersR b (trL b p l) = trL b p (othersR o l) := by
  refine eq_of_pwG (R := (· < ·)) (fun x => by omega) (fun x y z h g => by omega) (rl_iff.1 (others_pw b _)).2 (rl_iff.1 (r.rl _)).2 fun x => ?_
  rw [mem_others, r.mem (others_pw o l), mem_others, r.mem hl]
  constructor
  · rintro ⟨h1, h2, h3⟩
    have h4 := r.qi x h1 h2
    refine ⟨h1, h2, h4.1, by rw [r.n]; exact h4.2, fun g => h3 ⟨h1, h2, g⟩⟩
  · rintro ⟨h1, h2, _, _, h3⟩
    exact ⟨h1, h2, fun g => h3 g.2.2⟩
theorem Rel.st {b o : Book} {p q : Int → Int} (r : Rel b o p q) {l : List Int} (h : isSt o l) : isSt b (trL b p l) := by
  refine ⟨r.rl l, ?_, ?_⟩
  · rw [r.others h.1]
    exact r.good (others_pw o l) h.2.1
  · rw [r.len h.1, h.2.2, r.few_eq]
theorem Rel.back {b o : Book} {p q : Int → Int} (r : Rel b o p q) {l : List Int} (hl : Flong.rl o l) : trL o q (trL b p l) = l := by
  refine eq_of_pwG (R := (· < ·)) (fun x => by omega) (fun x y z h g => by omega) (rl_iff.1 (others_pw o _)).2 (rl_iff.1 hl).2 fun x => ?_
  rw [r.symm.mem (r.rl l)]
  constructor
  · rintro ⟨h1, h2, h3⟩
    rw [r.n] at h2
    exact (r.mem2 hl ⟨h1, h2⟩).1 h3
  · intro hx
    have h1 := rl_in hl x hx
    refine ⟨h1.1, h1.2, ?_⟩
    rw [r.n] at h1
    exact (r.mem2 hl h1).2 hx
theorem Rel.all {b o : Book} {p q : Int → Int} (r : Rel b o p q) {P Q : List Int → Prop} (h : ∀ l, isSt o l → (P (trL b p l) → Q l)) (g : ∀ l, isSt b l → P l) : ∀ l, isSt o l → Q l := fun l hl => h l hl (g _ (r.st hl))
theorem rd_iff {b : Book} (h8 : b.tals.length ≤ 8) {m ed mi : Int} {s : Nat} (hs : s < 256) : rdS b m ed mi s = true ↔ ∀ j : Nat, j < (nth b.hall.eds ed).length → ∃ x ∈ othersR b (bitsL s), (nth b.tals x).page = nth (nth b.hall.eds ed) (j : Int) ∧ (nth b.tals x).mach = m ∧ (nth b.tals x).min ≤ mi := by
  unfold rdS
  rw [Bool.not_eq_true', anyG_false]
  refine forall_congr' fun j => forall_congr' fun hj => ?_
  rw [← lack_law h8 m mi _ hs, ← Bool.not_eq_true, allI_iff]
  constructor
  · intro h
    apply Classical.byContradiction
    intro g
    refine h fun k hk => ?_
    unfold rdAtL
    rw [Bool.not_eq_true']
    cases e : (decide ((nth b.tals (nth (othersR b (bitsL s)) (k : Int))).mach = m) && decide ((nth b.tals (nth (othersR b (bitsL s)) (k : Int))).page = nth (nth b.hall.eds ed) (j : Int))) && decide ((nth b.tals (nth (othersR b (bitsL s)) (k : Int))).min ≤ mi) with
    | false => rfl
    | true =>
      simp only [Bool.and_eq_true, decide_eq_true_eq] at e
      exact absurd ⟨_, mem_nth.2 ⟨k, hk, rfl⟩, e.1.2, e.1.1, e.2⟩ g
  · rintro ⟨x, hx, h1, h2, h3⟩ h
    obtain ⟨k, hk, e⟩ := mem_nth.1 hx
    have := h k hk
    unfold rdAtL at this
    rw [e, decide_eq_true h1, decide_eq_true h2, decide_eq_true h3] at this
    cases this
theorem pg_count {b : Book} (h8 : b.tals.length ≤ 8) (pg : Int) {s : Nat} (hs : s < 256) : pgS b pg s = (othersR b (bitsL s)).countP fun n => decide ((nth b.tals n).page = pg) := by
  unfold pgS othersR
  rw [pgTo_count h8 pg hs _ (Nat.le_refl _)]
theorem Rel.pg {b o : Book} {p q : Int → Int} (r : Rel b o p q) (pg : Int) {l : List Int} (hl : Flong.rl o l) : (othersR o l).countP (fun n => decide ((nth o.tals n).page = pg)) = (othersR b (trL b p l)).countP fun n => decide ((nth b.tals n).page = pg) := by
  rw [r.others hl, (r.perm (others_pw o l)).countP_eq, List.countP_map]
  refine List.countP_congr fun x hx => ?_
  have h1 := rl_in (others_pw o l) x hx
  rw [r.n] at h1
  simp only [Function.comp_apply]
  rw [r.t x h1.1 h1.2]
theorem Rel.pgS {b o : Book} {p q : Int → Int} (r : Rel b o p q) (pg : Int) {s : Nat} (hs : s ∈ stS o) : ∃ u ∈ stS b, Flong.pgS b pg u = Flong.pgS o pg s := by
  have hst := (mem_storS r.g8).1 (List.mem_map.2 ⟨s, hs, rfl⟩)
  obtain ⟨u, hu, e⟩ := List.mem_map.1 ((mem_storS r.h8).2 (r.st hst))
  refine ⟨u, hu, ?_⟩
  rw [pg_count r.h8 pg (stS_256 r.h8 hu), pg_count r.g8 pg (stS_256 r.g8 hs), r.pg pg hst.1, e]
end Go.Flong
namespace Go.Eng
open Go
section
variable {cx : Cx} {S : St} {dst : Option Tmp} {ty : TypeId} {pos : String} {af : Array Edge} {gd : Option (Nat × Bool)} {x y : Operand} {t t' : TypeId}
theorem o_idxv {T e : TypeId} {n sz : Nat} {i : Int} {cs cs' : List At} (hT : cx.P.underlying T = some (.array n e)) (hG : TyG cx.P e sz) (hx : S.op x = some (.e (.g cs))) (hi : S.op y = some (.i i)) (h0 : 0 ≤ i) (h1 : i < n) (hc : (cs.drop (i.toNat * sz)).take sz = cs') :
    OpG cx S ⟨dst, .index T x y, ty, pos, af, gd⟩ (.val (.e (.g cs'))) :=
  OpG.pure (fun _ => by simp) fun M ε I a w hs => ⟨fun z hz => hs.on (sv := .e (.g cs)) hx z (by subst hc; exact List.mem_of_mem_drop (List.mem_of_mem_take hz)), by
    have h := hs.eval hx
    have h' := hs.eval hi
    simp only [SV.den, El.den, At.den] at h h'
    have h2 : ((cs.map (At.den ε)).toArray.extract (i.toNat * sz) (i.toNat * sz + sz)) = (cs'.map (At.den ε)).toArray := by
      subst hc
      rw [List.extract_toArray, List.extract_eq_take_drop, Nat.add_sub_cancel_left, List.map_take, List.map_drop]
    simp [execOp, h, h', Instr.index, asIntOf, run_underlying hT, h0, h1, hG.sz, part, hG.ag, h2, SV.den, El.den]
    rw [← hc, List.map_take, List.map_drop]⟩
theorem o_idxv1 {T e : TypeId} {n : Nat} {i : Int} {cs : List At} {z : At} (hT : cx.P.underlying T = some (.array n e)) (hS : TyS cx.P e) (hx : S.op x = some (.e (.g cs))) (hi : S.op y = some (.i i)) (h0 : 0 ≤ i) (h1 : i < n) (hc : cs[i.toNat]? = some z) :
    OpG cx S ⟨dst, .index T x y, ty, pos, af, gd⟩ (.val (.e (.a z))) :=
  OpG.pure (fun _ => by simp) fun M ε I a w hs => ⟨hs.on (sv := .e (.g cs)) hx z (List.mem_of_getElem? hc), by
    have h := hs.eval hx
    have h' := hs.eval hi
    simp only [SV.den, El.den, At.den] at h h'
    have h2 : Option.map (At.den ε) cs[i.toNat]? = some (z.den ε) := by rw [hc]; rfl
    simp [execOp, h, h', Instr.index, asIntOf, run_underlying hT, h0, h1, hS.sz, part, hS.ag, h2, SV.den, El.den]⟩
theorem o_ishr {a b r : Int} (hx : S.op x = some (.i a)) (hy : S.op y = some (.i b)) (hb : 0 ≤ b) (hr : a.fdiv (2 ^ min b.toNat 64) = r) : OpG cx S ⟨dst, .binOp .shr t x y t', ty, pos, af, gd⟩ (.val (.i r)) :=
  o_binv (a := .int .i64 a) (b := .int .i64 b) hx hy fun w => by
    have h : ¬ b < 0 := by omega
    rw [← hr]
    show (do eqGuard BinOp.shr t x y _ _; Op.shift .shr .i64 a .i64 b : Sem Value).run cx.P w = _
    unfold Op.shift
    rw [if_neg h]; rfl
theorem o_ishl {a b r : Int} (hx : S.op x = some (.i a)) (hy : S.op y = some (.i b)) (hb : 0 ≤ b) (hr : IntKind.i64.wrap (a * 2 ^ min b.toNat 64) = r) : OpG cx S ⟨dst, .binOp .shl t x y t', ty, pos, af, gd⟩ (.val (.i r)) :=
  o_binv (a := .int .i64 a) (b := .int .i64 b) hx hy fun w => by
    have h : ¬ b < 0 := by omega
    rw [← hr]
    show (do eqGuard BinOp.shl t x y _ _; Op.shift .shl .i64 a .i64 b : Sem Value).run cx.P w = _
    unfold Op.shift
    rw [if_neg h]; rfl
theorem o_ior {a b r : Int} (hx : S.op x = some (.i a)) (hy : S.op y = some (.i b)) (hr : IntKind.i64.wrap (BitVec.ofInt 64 a ||| BitVec.ofInt 64 b).toNat = r) :
    OpG cx S ⟨dst, .binOp .or t x y t', ty, pos, af, gd⟩ (.val (.i r)) :=
  o_binv (a := .int .i64 a) (b := .int .i64 b) hx hy fun w => by rw [← hr]; rfl
end
end Go.Eng
namespace Go.Flong
open Go Go.Eng
abbrev Plan := List (List Int)
def sTo (p : Plan) : Nat → List Int
  | 0 => []
  | i + 1 => sTo p i ++ nth p (i : Int)
def okAt (h : Hall) (p : Plan) (i j : Nat) : Bool := within (nth (nth p (i : Int)) (j : Int)) 0 ((h.buns.length : Int) - 1) && !inL (sTo p i ++ (nth p (i : Int)).take j) (nth (nth p (i : Int)) (j : Int))
def okRow (h : Hall) (p : Plan) (i : Nat) : Bool := allI (okAt h p i) (nth p (i : Int)).length
def isPlanR (h : Hall) (p : Plan) : Bool := decide ((p.length : Int) = h.machs.length) && allI (okRow h p) p.length
structure RowsP (p : Plan) : Prop where
  n : p.length ≤ 40
  r : ∀ i : Nat, i < p.length → (nth p (i : Int)).length ≤ 40
theorem rowsP_of {p : Plan} (h : longP p = false) : RowsP p := ⟨(longP_len h).1, (longP_len h).2⟩
theorem sTo_len {p : Plan} (h : RowsP p) : ∀ i : Nat, i ≤ p.length → (sTo p i).length ≤ 40 * i
  | 0, _ => by simp [sTo]
  | i + 1, hi => by
    have h1 := sTo_len h i (by omega)
    have h2 := h.r i (by omega)
    rw [sTo, List.length_append]; omega
theorem seen_len {p : Plan} (h : RowsP p) {i j : Nat} (hi : i ≤ p.length) : (sTo p i ++ (nth p (i : Int)).take j).length ≤ 1600 + j := by
  have h1 := sTo_len h i hi
  have h2 := h.n
  rw [List.length_append, List.length_take]; omega
structure PlanQ (h : Hall) (p : Plan) : Prop where
  n : p.length = h.machs.length
  k : ∀ i : Nat, i < p.length → ∀ j : Nat, j < (nth p (i : Int)).length → okAt h p i j = true
  b : ∀ i : Nat, i < p.length → ∀ j : Nat, j < (nth p (i : Int)).length → 0 ≤ nth (nth p (i : Int)) (j : Int) ∧ nth (nth p (i : Int)) (j : Int) < h.buns.length
theorem planQ {h : Hall} {p : Plan} (hp : isPlanR h p = true) : PlanQ h p := by
  unfold isPlanR at hp
  rw [Bool.and_eq_true, decide_eq_true_eq, allI_iff] at hp
  have hk : ∀ i : Nat, i < p.length → ∀ j : Nat, j < (nth p (i : Int)).length → okAt h p i j = true := fun i hi j hj => allI_iff.1 (hp.2 i hi) j hj
  refine ⟨by omega, hk, fun i hi j hj => ?_⟩
  have := hk i hi j hj
  unfold okAt within at this
  simp only [Bool.and_eq_true, decide_eq_true_eq] at this
  omega
def msk (l : List Int) : Nat := l.foldl (fun s x => s ||| 2 ^ x.toNat) 0
theorem msk_snoc (l : List Int) (x : Int) : msk (l ++ [x]) = msk l ||| 2 ^ x.toNat := by
  unfold msk; rw [List.foldl_append]; rfl
theorem msk_all : (List.range 32).all (fun s => (List.range 5).all fun x => decide ((s : Int).fdiv (2 ^ min x 64) = ((s >>> x : Nat) : Int)) && decide (IntKind.i64.wrap (BitVec.ofInt 64 ((s >>> x : Nat) : Int) &&& BitVec.ofInt 64 1).toNat = (((s >>> x) % 2 : Nat) : Int)) && decide (IntKind.i64.wrap (1 * 2 ^ min x 64) = ((2 ^ x : Nat) : Int)) && decide (IntKind.i64.wrap (BitVec.ofInt 64 (s : Int) ||| BitVec.ofInt 64 ((2 ^ x : Nat) : Int)).toNat = ((s ||| 2 ^ x : Nat) : Int)) && decide (s ||| 2 ^ x < 32) && (List.range 5).all fun y => decide (((s ||| 2 ^ x) >>> y) % 2 = 1) == (decide ((s >>> y) % 2 = 1) || decide (y = x))) = true := by decide +kernel
structure MskOK (s x : Nat) : Prop where
  r : (s : Int).fdiv (2 ^ min x 64) = ((s >>> x : Nat) : Int)
  a : IntKind.i64.wrap (BitVec.ofInt 64 ((s >>> x : Nat) : Int) &&& BitVec.ofInt 64 1).toNat = (((s >>> x) % 2 : Nat) : Int)
  l : IntKind.i64.wrap (1 * 2 ^ min x 64) = ((2 ^ x : Nat) : Int)
  o : IntKind.i64.wrap (BitVec.ofInt 64 (s : Int) ||| BitVec.ofInt 64 ((2 ^ x : Nat) : Int)).toNat = ((s ||| 2 ^ x : Nat) : Int)
  b : s ||| 2 ^ x < 32
  y : ∀ y : Nat, y < 5 → (((s ||| 2 ^ x) >>> y) % 2 = 1 ↔ ((s >>> y) % 2 = 1 ∨ y = x))
theorem msk_ok {s x : Nat} (hs : s < 32) (hx : x < 5) : MskOK s x := by
  have := List.all_eq_true.1 (List.all_eq_true.1 msk_all s (List.mem_range.2 hs)) x (List.mem_range.2 hx)
  simp only [Bool.and_eq_true, decide_eq_true_eq, List.all_eq_true, List.mem_range, beq_iff_eq] at this
  obtain ⟨⟨⟨⟨⟨h1, h2⟩, h3⟩, h4⟩, h5⟩, h6⟩ := this
  refine ⟨h1, h2, h3, h4, h5, fun y hy => ?_⟩
  have := h6 y hy
  rw [Bool.eq_iff_iff, Bool.or_eq_true, decide_eq_true_eq, decide_eq_true_eq, decide_eq_true_eq] at this
  exact this
theorem msk_mem : ∀ {l : List Int}, (∀ x ∈ l, 0 ≤ x ∧ x < 5) → msk l < 32 ∧ ∀ y : Nat, y < 5 → ((msk l >>> y) % 2 = 1 ↔ (y : Int) ∈ l) := by
  intro l
  have : ∀ n : Nat, ∀ l : List Int, l.length = n → (∀ x ∈ l, 0 ≤ x ∧ x < 5) → msk l < 32 ∧ ∀ y : Nat, y < 5 → ((msk l >>> y) % 2 = 1 ↔ (y : Int) ∈ l) := by
    intro n
    induction n with
    | zero =>
      intro l hl _
      have : l = [] := List.length_eq_zero_iff.1 hl
      subst this
      refine ⟨by decide, fun y hy => ?_⟩
      have : msk [] >>> y = 0 := by simp [msk]
      rw [this]; simp
    | succ n ih =>
      intro l hl h
      have hne : l ≠ [] := fun e => by rw [e] at hl; simp at hl
      obtain ⟨m, x, rfl⟩ : ∃ m x, l = m ++ [x] := ⟨l.dropLast, l.getLast hne, (List.dropLast_concat_getLast hne).symm⟩
      obtain ⟨h1, h2⟩ := ih m (by simpa using hl) fun y hy => h y (by simp [hy])
      have hx := h x (by simp)
      have ho := msk_ok h1 (show x.toNat < 5 by omega)
      rw [msk_snoc]
      refine ⟨ho.b, fun y hy => ?_⟩
      rw [ho.y y hy, h2 y hy, List.mem_append, List.mem_singleton]
      constructor
      · rintro (g | g)
        · exact .inl g
        · exact .inr (by omega)
      · rintro (g | g)
        · exact .inl g
        · exact .inr (by omega)
  exact this l.length l rfl
theorem seen_in {h : Hall} {p : Plan} (hp : PlanQ h p) (h5 : h.buns.length ≤ 5) : ∀ i : Nat, i ≤ p.length → ∀ x ∈ sTo p i, 0 ≤ x ∧ x < 5
  | 0, _, x, hx => by simp [sTo] at hx
  | i + 1, hi, x, hx => by
    rw [sTo, List.mem_append] at hx
    rcases hx with hx | hx
    · exact seen_in hp h5 i (by omega) x hx
    · obtain ⟨j, hj, e⟩ := mem_nth.1 hx
      have := hp.b i (by omega) j hj
      omega
structure SeenOK (h : Hall) (p : Plan) (i j : Nat) : Prop where
  x : 0 ≤ nth (nth p (i : Int)) (j : Int) ∧ nth (nth p (i : Int)) (j : Int) < h.buns.length
  m : MskOK (msk (sTo p i ++ (nth p (i : Int)).take j)) (nth (nth p (i : Int)) (j : Int)).toNat
  n : ¬ (msk (sTo p i ++ (nth p (i : Int)).take j) >>> (nth (nth p (i : Int)) (j : Int)).toNat) % 2 = 1
theorem seen_ok {h : Hall} {p : Plan} (hp : PlanQ h p) (h5 : h.buns.length ≤ 5) {i j : Nat} (hi : i < p.length) (hj : j < (nth p (i : Int)).length) : SeenOK h p i j := by
  have hx := hp.b i hi j hj
  have hk := hp.k i hi j hj
  unfold okAt at hk
  rw [Bool.and_eq_true, Bool.not_eq_true'] at hk
  have hin : ∀ x ∈ sTo p i ++ (nth p (i : Int)).take j, 0 ≤ x ∧ x < 5 := fun x hx2 => by
    rw [List.mem_append] at hx2
    rcases hx2 with g | g
    · exact seen_in hp h5 i (by omega) x g
    · obtain ⟨k, hk2, e⟩ := mem_nth.1 (List.mem_of_mem_take g)
      have := hp.b i hi k hk2
      omega
  obtain ⟨h1, h2⟩ := msk_mem hin
  refine ⟨hx, msk_ok h1 (by omega), fun g => ?_⟩
  have := (h2 _ (by omega)).1 g
  rw [show (((nth (nth p (i : Int)) (j : Int)).toNat : Nat) : Int) = nth (nth p (i : Int)) (j : Int) by omega] at this
  have h3 := inL_iff.2 this
  rw [hk.2] at h3; cases h3
def zer12 : List Int := [0, 0, 0, 0, 0, 0, 0, 0, 0, 0, 0, 0]
abbrev edOf (h : Hall) (x : Int) : List Int := nth h.eds (nth h.buns x).edition
def setPg (l ed : List Int) (bore : Int) : Nat → List Int
  | 0 => l
  | k + 1 => lset (setPg l ed bore k) (nth ed (k : Int) * 3 + bore) 1
def rowTo (h : Hall) (p : Plan) (m : Nat) : Nat → List Int
  | 0 => zer12
  | j + 1 => setPg (rowTo h p m j) (edOf h (nth (nth p (m : Int)) (j : Int))) (nth h.bores (m : Int)) (edOf h (nth (nth p (m : Int)) (j : Int))).length
def eachN (a b : List Int) : Nat → List Int
  | 0 => zer12
  | n + 1 => lset (eachN a b n) (n : Int) (nth a (n : Int) + nth b (n : Int))
def needTo (h : Hall) (p : Plan) : Nat → List Int
  | 0 => zer12
  | m + 1 => eachN (needTo h p m) (rowTo h p m (nth p (m : Int)).length) 12
def needL (h : Hall) (p : Plan) : List Int := needTo h p p.length
theorem setPg_len (l ed : List Int) (bore : Int) : ∀ k, (setPg l ed bore k).length = l.length
  | 0 => rfl
  | k + 1 => by rw [setPg, lset_len, setPg_len l ed bore k]
theorem rowTo_len (h : Hall) (p : Plan) (m : Nat) : ∀ j, (rowTo h p m j).length = 12
  | 0 => rfl
  | j + 1 => by rw [rowTo, setPg_len, rowTo_len h p m j]
theorem eachN_len (a b : List Int) : ∀ n, (eachN a b n).length = 12
  | 0 => rfl
  | n + 1 => by rw [eachN, lset_len, eachN_len a b n]
theorem needTo_len (h : Hall) (p : Plan) (m : Nat) : (needTo h p m).length = 12 := by
  cases m with
  | zero => rfl
  | succ m => exact eachN_len _ _ _
theorem each_step {a b : List Int} {n : Nat} {x : Int} (h : ((n : Nat) : Int) = x) : eachN a b (n + 1) = lset (eachN a b n) x (nth a x + nth b x) := by subst h; rfl
theorem eachN_nth (a b : List Int) : ∀ (n : Nat), n ≤ 12 → ∀ k : Nat, k < n → nth (eachN a b n) (k : Int) = nth a (k : Int) + nth b (k : Int)
  | n + 1, hn, k, hk => by
    rw [eachN, nth_ls (by omega) (by rw [eachN_len]; omega) (k : Int) (by omega)]
    by_cases e : k = n
    · subst e; rw [if_pos rfl]
    · rw [if_neg (by omega)]; exact eachN_nth a b n (by omega) k (by omega)
theorem zer_nth {k : Nat} (h : k < 12) : nth zer12 (k : Int) = 0 := by
  have : (List.range 12).all (fun k => decide (nth zer12 (k : Int) = 0)) = true := by decide
  exact of_decide_eq_true (List.all_eq_true.1 this k (List.mem_range.2 h))
def needsR (h : Hall) (row : List Int) (pg : Int) : Bool := !allI (fun j => !inL (edOf h (nth row (j : Int))) pg) row.length
theorem needsR_iff {h : Hall} {row : List Int} {pg : Int} : needsR h row pg = true ↔ ∃ j : Nat, j < row.length ∧ pg ∈ edOf h (nth row (j : Int)) := by
  unfold needsR
  rw [Bool.not_eq_true', ← Bool.not_eq_true, allI_iff]
  constructor
  · intro g
    apply Classical.byContradiction
    intro g2
    refine g fun j hj => ?_
    rw [Bool.not_eq_true', ← Bool.not_eq_true, inL_iff]
    exact fun g3 => g2 ⟨j, hj, g3⟩
  · rintro ⟨j, hj, g⟩ g2
    have := g2 j hj
    rw [Bool.not_eq_true', ← Bool.not_eq_true, inL_iff] at this
    exact this g
theorem setPg_nth {l ed : List Int} {bore : Int} (hl : l.length = 12) (hb : 0 ≤ bore ∧ bore ≤ 2) (he : ∀ j : Nat, j < ed.length → 0 ≤ nth ed (j : Int) ∧ nth ed (j : Int) < 4) : ∀ n : Nat, n ≤ ed.length → ∀ k : Nat, k < 12 → nth (setPg l ed bore n) (k : Int) = if ∃ j : Nat, j < n ∧ nth ed (j : Int) * 3 + bore = (k : Int) then 1 else nth l (k : Int)
  | 0, _, k, _ => by rw [setPg, if_neg]; rintro ⟨j, hj, _⟩; omega
  | n + 1, hn, k, hk => by
    have h1 := he n (by omega)
    rw [setPg, nth_ls (by omega) (by rw [setPg_len]; omega) (k : Int) (by omega), setPg_nth hl hb he n (by omega) k hk]
    by_cases e : (k : Int) = nth ed (n : Int) * 3 + bore
    · rw [if_pos e, if_pos ⟨n, by omega, e.symm⟩]
    · rw [if_neg e]
      by_cases g : ∃ j : Nat, j < n ∧ nth ed (j : Int) * 3 + bore = (k : Int)
      · obtain ⟨j, hj, g2⟩ := g
        rw [if_pos ⟨j, hj, g2⟩, if_pos ⟨j, by omega, g2⟩]
      · rw [if_neg g, if_neg]
        rintro ⟨j, hj, g2⟩
        by_cases e2 : j = n
        · subst e2; exact e g2.symm
        · exact g ⟨j, by omega, g2⟩
structure HallC (h : Hall) : Prop extends HallB h where
  n5 : h.buns.length ≤ 5
  ed : ∀ x : Int, 0 ≤ x → x < h.buns.length → 0 ≤ (nth h.buns x).edition ∧ (nth h.buns x).edition < h.eds.length
theorem hallC {h : Hall} (hc : h.chk = true) : HallC h := by
  have hb := hallB hc
  have hc2 := hc
  simp only [Hall.chk, Bool.and_eq_true] at hc2
  have hbe := hc2.2
  have hhd := hc2.1.1.1
  simp only [Hall.hallHd, Bool.and_eq_true, decide_eq_true_eq] at hhd
  have hho := hhd.1.1
  have h3 := Hall.machs3 hho
  simp only [Hall.house, Bool.and_eq_true] at hho
  refine ⟨hb, by omega, fun x h0 h1 => ?_⟩
  have h4 := allI_iff.1 hho.2 x.toNat (by omega)
  have h5 := allI_iff.1 hbe x.toNat (by omega)
  unfold Hall.bunOK TBd.chk within at h4
  unfold Hall.beOK at h5
  simp only [Bool.and_eq_true, decide_eq_true_eq] at h4 h5
  rw [show ((x.toNat : Nat) : Int) = x by omega] at h4 h5
  omega
theorem edOf_in {h : Hall} (hc : HallC h) {x : Int} (h0 : 0 ≤ x) (h1 : x < h.buns.length) : ∀ j : Nat, j < (edOf h x).length → 0 ≤ nth (edOf h x) (j : Int) ∧ nth (edOf h x) (j : Int) < 4 := by
  have h2 := hc.ed x h0 h1
  intro j hj
  have := hc.p (nth h.buns x).edition.toNat (by omega) j (by
    rw [show (((nth h.buns x).edition.toNat : Nat) : Int) = (nth h.buns x).edition by omega]; exact hj)
  rw [show (((nth h.buns x).edition.toNat : Nat) : Int) = (nth h.buns x).edition by omega] at this
  exact this
theorem rowTo_nth {h : Hall} {p : Plan} (hc : HallC h) (hp : PlanQ h p) {m : Nat} (hm : m < p.length) : ∀ n : Nat, n ≤ (nth p (m : Int)).length → ∀ k : Nat, k < 12 → nth (rowTo h p m n) (k : Int) = if (∃ j : Nat, j < n ∧ ((k : Int) / 3) ∈ edOf h (nth (nth p (m : Int)) (j : Int))) ∧ nth h.bores (m : Int) = (k : Int) % 3 then 1 else 0
  | 0, _, k, hk => by rw [rowTo, zer_nth hk, if_neg]; rintro ⟨⟨j, hj, _⟩, _⟩; omega
  | n + 1, hn, k, hk => by
    have hb := hc.b m (by have := hp.n; have := hc.o; omega)
    have hx := hp.b m hm n (by omega)
    have he := edOf_in hc hx.1 hx.2
    rw [rowTo, setPg_nth (rowTo_len h p m n) hb he _ (Nat.le_refl _) k hk, rowTo_nth hc hp hm n (by omega) k hk]
    by_cases e : ∃ j : Nat, j < (edOf h (nth (nth p (m : Int)) (n : Int))).length ∧ nth (edOf h (nth (nth p (m : Int)) (n : Int))) (j : Int) * 3 + nth h.bores (m : Int) = (k : Int)
    · rw [if_pos e]
      obtain ⟨j, hj, e2⟩ := e
      have h1 := he j hj
      rw [if_pos]
      refine ⟨⟨n, by omega, mem_nth.2 ⟨j, hj, by omega⟩⟩, by omega⟩
    · rw [if_neg e]
      by_cases g : (∃ j : Nat, j < n ∧ ((k : Int) / 3) ∈ edOf h (nth (nth p (m : Int)) (j : Int))) ∧ nth h.bores (m : Int) = (k : Int) % 3
      · obtain ⟨⟨j, hj, g2⟩, g3⟩ := g
        rw [if_pos ⟨⟨j, hj, g2⟩, g3⟩, if_pos ⟨⟨j, by omega, g2⟩, g3⟩]
      · rw [if_neg g, if_neg]
        rintro ⟨⟨j, hj, g2⟩, g3⟩
        by_cases e2 : j = n
        · subst e2
          obtain ⟨q, hq, g4⟩ := mem_nth.1 g2
          exact e ⟨q, hq, by omega⟩
        · exact g ⟨⟨j, by omega, g2⟩, g3⟩
theorem row_needs {h : Hall} {p : Plan} (hc : HallC h) (hp : PlanQ h p) {m : Nat} (hm : m < p.length) {k : Nat} (hk : k < 12) : nth (rowTo h p m (nth p (m : Int)).length) (k : Int) = if needsR h (nth p (m : Int)) ((k : Int) / 3) = true ∧ nth h.bores (m : Int) = (k : Int) % 3 then 1 else 0 := by
  rw [rowTo_nth hc hp hm _ (Nat.le_refl _) k hk]
  simp only [needsR_iff]
theorem needTo_nth {h : Hall} {p : Plan} (hc : HallC h) (hp : PlanQ h p) : ∀ m : Nat, m ≤ p.length → ∀ k : Nat, k < 12 → 0 ≤ nth (needTo h p m) (k : Int) ∧ nth (needTo h p m) (k : Int) ≤ m
  | 0, _, k, hk => by rw [needTo, zer_nth hk]; omega
  | m + 1, hm, k, hk => by
    have h1 := needTo_nth hc hp m (by omega) k hk
    rw [needTo, eachN_nth _ _ 12 (Nat.le_refl _) k hk, row_needs hc hp (by omega) hk]
    split <;> omega
theorem need_step {h : Hall} {p : Plan} (hc : HallC h) (hp : PlanQ h p) {m : Nat} (hm : m < p.length) {k : Nat} (hk : k < 12) : nth (needTo h p (m + 1)) (k : Int) = nth (needTo h p m) (k : Int) + if needsR h (nth p (m : Int)) ((k : Int) / 3) = true ∧ nth h.bores (m : Int) = (k : Int) % 3 then 1 else 0 := by
  rw [needTo, eachN_nth _ _ 12 (Nat.le_refl _) k hk, row_needs hc hp hm hk]
abbrev AddD := { z : Int × Int // (0 ≤ z.1 ∧ z.1 ≤ 1000) ∧ (0 ≤ z.2 ∧ z.2 ≤ 1000) }
theorem row12 {L : List Int} : ∀ {i : Nat}, i < 4 → (([ai (nth L 0), ai (nth L 1), ai (nth L 2), ai (nth L 3), ai (nth L 4), ai (nth L 5), ai (nth L 6), ai (nth L 7), ai (nth L 8), ai (nth L 9), ai (nth L 10), ai (nth L 11)] : List At).drop (((i : Int)).toNat * 3)).take 3 = [ai (nth L ((i : Int) * 3 + 0)), ai (nth L ((i : Int) * 3 + 1)), ai (nth L ((i : Int) * 3 + 2))]
  | 0, _ => rfl
  | 1, _ => rfl
  | 2, _ => rfl
  | 3, _ => rfl
theorem col3 {L : List Int} {i : Nat} : ∀ {j : Nat}, j < 3 → ([ai (nth L ((i : Int) * 3 + 0)), ai (nth L ((i : Int) * 3 + 1)), ai (nth L ((i : Int) * 3 + 2))] : List At)[((j : Int)).toNat]? = some (ai (nth L ((i : Int) * 3 + (j : Int))))
  | 0, _ => rfl
  | 1, _ => rfl
  | 2, _ => rfl
theorem setTo_at {L : List Int} {i j : Nat} (hi : i < 4) (hj : j < 3) : (⟨(i : Int), (j : Int), nth L ((i : Int) * 3 + (j : Int))⟩ : Plate) = ⟨(((3 * i + j : Nat) : Int)).tdiv 3, ((3 * i + j : Nat) : Int) % 3, nth L ((3 * i + j : Nat) : Int)⟩ := by
  rw [Int.tdiv_eq_ediv_of_nonneg (by omega)]
  congr 1
  · omega
  · omega
  · congr 1; omega
theorem set_step1 {L : List Int} {i j : Nat} (hi : i < 4) (hj : j < 3) (h : 0 < nth L ((i : Int) * 3 + (j : Int))) : setTo L (3 * i + j) ++ [(⟨(i : Int), (j : Int), nth L ((i : Int) * 3 + (j : Int))⟩ : Plate)] = setTo L (3 * i + (j + 1)) := by
  have e : (((3 * i + j : Nat)) : Int) = (i : Int) * 3 + (j : Int) := by omega
  rw [show 3 * i + (j + 1) = (3 * i + j) + 1 from rfl, setTo, if_pos (by rw [e]; exact h), setTo_at hi hj]
theorem set_step2 {L : List Int} {i j : Nat} (hi : i < 4) (hj : j < 3) (h : ¬ 0 < nth L ((i : Int) * 3 + (j : Int))) : setTo L (3 * i + j) = setTo L (3 * i + (j + 1)) := by
  have e : (((3 * i + j : Nat)) : Int) = (i : Int) * 3 + (j : Int) := by omega
  rw [show 3 * i + (j + 1) = (3 * i + j) + 1 from rfl, setTo, if_neg (by rw [e]; exact h)]
end Go.Flong
namespace Go.Flong
open Go Go.Eng Go.Proofs
theorem e29 : Enters' Tryz.prog 29 := Tryz.call29
theorem e149 : Enters' Tryz.prog 149 := Tryz.call149
abbrev Add2  : Pred := Pred.fall fun (o : AddD) => FvP Tryz.prog [.i (o.1.1), .i (o.1.2)] [] (.i (o.1.1 + o.1.2)) []
theorem e151 : Enters' Tryz.prog 151 := Tryz.call151
theorem e150 : Enters' Tryz.prog 150 := Tryz.call150
theorem G121 : TyG Tryz.prog 121 3 := ⟨Tryz.isAgg121, Tryz.sizeOf121⟩
theorem Z121 : Zero Tryz.prog 121 [ai (0), ai (0), ai (0)] := .mk Tryz.zeroValue121 rfl rfl
theorem e127 : Enters' Tryz.prog 127 := Tryz.call127
theorem e128 : Enters' Tryz.prog 128 := Tryz.call128
theorem e129 : Enters' Tryz.prog 129 := Tryz.call129
theorem w70 {h : Hall} {p : Plan} : ∀ x ∈ ([.e (.g [.q 0, .q 1, .q 2, ai (h.change)]), .e (.a (.q 3))] : List SV), x.res (keys (α := Pred) [(0, PL ETm (h.machs)), (1, PL EBd (h.buns)), (2, PL EP.int (h.trains)), (3, PL (EP.sl EP.int) (p))]) := by simp [SV.res, El.res, At.res, keys]
theorem r70 {h : Hall} {p : Plan} : SV.res (keys (α := Pred) []) (.b (isPlanR h p)) := by simp [SV.res, El.res, At.res, keys]
set_option maxHeartbeats 4000000 in
theorem c70 (h : Hall) (p : Plan) (hm : h.Small) (hr : RowsP p) : Sig Tryz.prog 70 [.e (.g [.q 0, .q 1, .q 2, ai (h.change)]), .e (.a (.q 3))] [(0, PL ETm (h.machs)), (1, PL EBd (h.buns)), (2, PL EP.int (h.trains)), (3, PL (EP.sl EP.int) (p))] (.b (isPlanR h p)) [] := by
  have hm1 := hm.m
  have hm2 := hm.b
  have hn := hr.n
  refine Sig.intro Tryz.func70 rfl 4 [(0, .e (.g [.q 0, .q 1, .q 2, ai (h.change)])), (1, .e (.a (.q 3)))] rfl w70 rfl rfl fun I w => ?_
  refine WP.seq (WP.region ?_)
  refine WPl.l 4 5 rfl rfl rfl (o_boxg rfl) ?_
  refine WPl.v rfl (o_assign rfl) ?_
  refine WPl.nil (EX.then (WP.seq (WP.seq (WP.region ?_))))
  refine WPl.v rfl (o_move rfl) ?_
  refine WPl.v rfl (o_lenq L27 rfl (lx rfl)) ?_
  refine WPl.v rfl (o_fldp F26_0 rfl) ?_
  refine WPl.v rfl (o_ldp S22 rfl rfl rfl) ?_
  refine WPl.v rfl (o_lenq L22 rfl (lx rfl)) ?_
  refine WPl.v rfl (o_neq rfl rfl) ?_
  refine WPl.nil (EX.then ?_)
  refine WP.cond rfl (fun hc1 => ?_) (fun hc1 => ?_)
  · try simp only [cnd] at hc1
    refine WP.seq (WP.region ?_)
    refine WPl.v rfl (o_assign rfl) ?_
    refine WPl.nil (EX.then (WP.ret (EX.ret_then ?_)))
    rw [show isPlanR h p = false from by unfold isPlanR; rw [decide_eq_false hc1]; rfl]
    exact EX.fin id (.inl rfl) rfl (.tmp rfl .nil) rfl (by simp [SV.res, El.res, At.res, keys]) trivial (by simp) (by simp)
  · try simp only [cnd] at hc1
    refine WP.skip (EX.then (WP.seq (WP.region ?_)))
    refine WPl.v rfl (o_assign rfl) ?_
    refine WPl.imp (Imp.namo EP.int 5 6 3 rfl rfl) ?_
    refine WPl.imp (Imp.swF 5 5 rfl (lx rfl)) ?_
    refine WPl.nil (EX.then (WP.seq (WP.seq (WP.region ?_))))
    refine WPl.v rfl (o_assign rfl) ?_
    refine WPl.nil (EX.then (WP.block ?_))
    refine WP.loop (Gh := Nat) (fun i => ⟨6, [(1, .e (.a (.q 3))), (2, .e (.a (.p 4 (0)))), (4, .b (false)), (5, .e (.a (.q 5))), (6, .i ((i : Int)))], [(0, PL ETm (h.machs)), (1, PL EBd (h.buns)), (2, PL EP.int (h.trains)), (3, PL (EP.sl EP.int) (p))], [(4, .blk [.q 0, .q 1, .q 2, ai (h.change)] 26), (5, .own 3 EP.int.size (sTo p i).length (RP EP.int (sTo p i)))], [], []⟩) (fun i => i ≤ p.length ∧ allI (okRow h p) i = true) (fun i => p.length - i) (0) id ?_ (LeR.of ⟨rfl, rfl, rfl, rfl, rfl, trivial⟩ ⟨(lx rfl), (lx rfl), (lx rfl), (lx rfl), trivial⟩ ⟨rfl, rfl, trivial⟩ rfl rfl rfl rfl rfl) ?_
    · exact ⟨by omega, rfl⟩
    intro i hφ
    have hi : i ≤ p.length := hφ.1
    have hall := hφ.2
    refine WP.seq (WP.seq (WP.region ?_))
    refine WPl.v rfl (o_move rfl) ?_
    refine WPl.v rfl (o_move rfl) ?_
    refine WPl.v rfl (o_lenq L27 rfl (lx rfl)) ?_
    refine WPl.v rfl (o_lss rfl rfl) ?_
    refine WPl.nil (EX.then ?_)
    refine WP.cond rfl (fun hc2 => ?_) (fun hc2 => ?_)
    · try simp only [cnd] at hc2
      have hri := hr.r i (by omega)
      refine WP.skip (EX.then (WP.seq (WP.block (WP.seq (WP.region ?_)))))
      refine WPl.v rfl (o_assign rfl) ?_
      refine WPl.nil (EX.then (WP.block ?_))
      refine WP.loop (Gh := Nat) (fun j => ⟨6, [(1, .e (.a (.q 3))), (2, .e (.a (.p 4 (0)))), (4, .b (false)), (5, .e (.a (.q 5))), (6, .i ((i : Int))), (15, .i ((i : Int))), (16, .e (.a (.q 3))), (17, .i ((p.length : Int))), (18, .b (decide ((i : Int) < (p.length : Int)))), (7, .i ((j : Int)))], [(0, PL ETm (h.machs)), (1, PL EBd (h.buns)), (2, PL EP.int (h.trains)), (3, PL (EP.sl EP.int) (p))], [(4, .blk [.q 0, .q 1, .q 2, ai (h.change)] 26), (5, .own 3 EP.int.size ((sTo p i ++ (nth p (i : Int)).take j)).length (RP EP.int ((sTo p i ++ (nth p (i : Int)).take j))))], [], []⟩) (fun j => j ≤ (nth p (i : Int)).length ∧ allI (okAt h p i) j = true) (fun j => (nth p (i : Int)).length - j) (0) id ?_ (LeR.of ⟨rfl, rfl, rfl, rfl, rfl, rfl, rfl, rfl, rfl, rfl, trivial⟩ ⟨(lx rfl), (lx rfl), (lx rfl), (lx rfl), trivial⟩ ⟨rfl, (congrArg (fun z => some (Ent.own 3 EP.int.size (List.length z) (RP EP.int z))) (show (sTo p i) = ((fun j => (sTo p i ++ (nth p (i : Int)).take j)) 0) from by dsimp only; rw [List.take_zero, List.append_nil])), trivial⟩ rfl rfl rfl rfl rfl) ?_
      · exact ⟨by omega, rfl⟩
      intro j hφ
      have hj : j ≤ (nth p (i : Int)).length := hφ.1
      have hrow := hφ.2
      refine WP.seq (WP.seq (WP.region ?_))
      refine WPl.v rfl (o_move rfl) ?_
      refine WPl.v rfl (o_move rfl) ?_
      refine WPl.v rfl (o_move rfl) ?_
      refine WPl.x 6 7 rfl rfl rfl (o_idx L27 rfl (lx rfl) rfl (by first | omega | (simp; omega)) (by first | omega | (simp; omega))) ?_
      refine WPl.x 7 8 rfl rfl rfl (o_ldqx S24 rfl (lx rfl) slx) ?_
      refine WPl.v rfl (o_lenq L24 rfl (lx rfl)) ?_
      refine WPl.v rfl (o_lss rfl rfl) ?_
      refine WPl.nil (EX.then ?_)
      refine WP.cond rfl (fun hc3 => ?_) (fun hc3 => ?_)
      · try simp only [cnd] at hc3
        have hsl := seen_len hr (i := i) (j := j) (by omega)
        refine WP.skip (EX.then (WP.seq (WP.block (WP.seq (WP.seq (WP.region ?_))))))
        refine WPl.v rfl (o_move rfl) ?_
        refine WPl.v rfl (o_move rfl) ?_
        refine WPl.x 8 9 rfl rfl rfl (o_idx L27 rfl (lx rfl) rfl (by first | omega | (simp; omega)) (by first | omega | (simp; omega))) ?_
        refine WPl.x 9 10 rfl rfl rfl (o_ldqx S24 rfl (lx rfl) slx) ?_
        refine WPl.v rfl (o_move rfl) ?_
        refine WPl.x 10 11 rfl rfl rfl (o_idx L24 rfl (lx rfl) rfl (by first | omega | (simp; omega)) (by first | omega | (simp; omega))) ?_
        refine WPl.v rfl (o_ldq S3 rfl (lx rfl) intc) ?_
        refine WPl.v rfl (o_assign rfl) ?_
        refine WPl.nil (EX.then (WP.seq (WP.region ?_)))
        refine WPl.v rfl (o_move rfl) ?_
        refine WPl.v rfl (o_fldp F26_1 rfl) ?_
        refine WPl.v rfl (o_ldp S23 rfl rfl rfl) ?_
        refine WPl.v rfl (o_lenq L23 rfl (lx rfl)) ?_
        refine WPl.v rfl (o_sub rfl rfl (by first | omega | (simp; omega)) (by first | omega | (simp; omega))) ?_
        refine WPl.cs 11 rfl rfl rfl rfl (o_sig 11 id (c125 (nth (nth p (i : Int)) (j : Int)) 0 ((h.buns.length : Int) - 1)) e125 rfl rfl rfl w125 trivial r125) ?_
        refine WPl.v rfl (o_not rfl) ?_
        refine WPl.v rfl (o_move rfl) ?_
        refine WPl.bit 11 12 (!(!(within (nth (nth p (i : Int)) (j : Int)) 0 ((h.buns.length : Int) - 1)))) rfl rfl ?_
        refine WPl.gv 11 rfl rfl (.plain rfl (by first | (simp; done) | simp only [Bool.not_eq_true']) rfl) (fun hb => o_move rfl) ?_
        refine WPl.gv 11 rfl rfl (.plain rfl (by first | (simp; done) | simp only [Bool.not_eq_true']) rfl) (fun hb => o_move rfl) ?_
        refine WPl.gc0 11 rfl rfl (.plain rfl (by first | (simp; done) | simp only [Bool.not_eq_true']) rfl) (fun hb => o_sigbc 12 (ren [(0, 5)]) (Sig.free (c29 (sTo p i ++ (nth p (i : Int)).take j) (nth (nth p (i : Int)) (j : Int)) (by omega))) e29 rfl rfl SvsOK.rf w29 ⟨.own rfl rfl, trivial⟩ r29) ?_
        refine WPl.v rfl (o_or rfl rfl rfl (by first | (simp; done) | exact fun h => by rw [h]; rfl | exact fun h => Bool.and_eq_true_iff.2 ⟨hb, by rw [h]; rfl⟩ | simp_all)) ?_
        refine WPl.nil (EX.then ?_)
        refine WP.cond rfl (fun hc4 => ?_) (fun hc4 => ?_)
        · try simp only [cnd] at hc4
          refine WP.seq (WP.region ?_)
          refine WPl.v rfl (o_assign rfl) ?_
          refine WPl.nil (EX.then (WP.ret (EX.ret_then (EX.ret_blk (EX.ret_then (EX.ret_then (EX.ret_blk (EX.ret_blk (EX.ret_then (EX.ret_then (EX.ret_blk (EX.ret_then ?_))))))))))))
          rw [show isPlanR h p = false from by unfold isPlanR; rw [not_allI (show i < p.length by omega) (show okRow h p i = false from not_allI (show j < (nth p (i : Int)).length by omega) (by simp only [okAt, Bool.and_eq_false_iff, Bool.not_eq_false']; exact hc4))]; simp]
          exact EX.fin id (.inl rfl) rfl (.tmp rfl .nil) rfl (by simp [SV.res, El.res, At.res, keys]) trivial (by simp) (by simp)
        · try simp only [cnd] at hc4
          refine WP.skip (EX.then (WP.region ?_))
          refine WPl.v rfl (o_move rfl) ?_
          refine WPl.v rfl (o_move rfl) ?_
          refine WPl.v rfl (o_move rfl) ?_
          refine WPl.x 12 13 rfl rfl rfl (o_idx L27 rfl (lx rfl) rfl (by first | omega | (simp; omega)) (by first | omega | (simp; omega))) ?_
          refine WPl.x 13 14 rfl rfl rfl (o_ldqx S24 rfl (lx rfl) slx) ?_
          refine WPl.v rfl (o_move rfl) ?_
          refine WPl.x 14 15 rfl rfl rfl (o_idx L24 rfl (lx rfl) rfl (by first | omega | (simp; omega)) (by first | omega | (simp; omega))) ?_
          refine WPl.v rfl (o_ldq S3 rfl (lx rfl) intc) ?_
          refine WPl.l 15 16 rfl rfl rfl (o_bsl (E := EP.int) (l := [nth (nth p (i : Int)) (j : Int)]) R24 rfl rfl (.cons (rfl) rfl (eok_int) (.nil)) rfl rfl) ?_
          refine WPl.u1 (k := 16) (m := 17) rfl rfl rfl (o_appo R24 EP.int_one rfl rfl rfl rfl (by simp at hsl ⊢; omega) (by simp at hsl ⊢; omega)) ?_
          refine WPl.v rfl (o_assign rfl) ?_
          refine WPl.nil (EX.blk (EX.then (WP.region ?_)))
          refine WPl.v rfl (o_move rfl) ?_
          refine WPl.v rfl (o_add rfl rfl (by first | omega | (simp; omega)) (by first | omega | (simp; omega))) ?_
          refine WPl.v rfl (o_assign rfl) ?_
          refine WPl.nil ?_
          refine EX.again (j + 1) (ren [(5, 16)]) (by exact ⟨by omega, by simp only [allI, hrow, Bool.true_and, okAt, Bool.and_eq_true, Bool.not_eq_true']; exact hc4⟩) (by omega) (LeR.of ⟨rfl, rfl, rfl, rfl, rfl, rfl, rfl, rfl, rfl, rfl, trivial⟩ ⟨(lx rfl), (lx rfl), (lx rfl), (lx rfl), trivial⟩ ⟨rfl, (congrArg (fun z => some (Ent.own 3 EP.int.size (List.length z) (RP EP.int z))) (show ((sTo p i ++ (nth p (i : Int)).take j) ++ [nth (nth p (i : Int)) (j : Int)]) = ((fun j => (sTo p i ++ (nth p (i : Int)).take j)) (j + 1)) from by dsimp only; rw [List.append_assoc, take_snoc (by omega)])), trivial⟩ rfl rfl rfl rfl rfl)
      · try simp only [cnd] at hc3
        refine WP.exit (EX.exit_then (EX.exit_then (EX.exit_blk (EX.blk (EX.then (WP.region ?_))))))
        refine WPl.v rfl (o_move rfl) ?_
        refine WPl.v rfl (o_add rfl rfl (by first | omega | (simp; omega)) (by first | omega | (simp; omega))) ?_
        refine WPl.v rfl (o_assign rfl) ?_
        refine WPl.nil ?_
        have hje : j = (nth p (i : Int)).length := by omega
        refine EX.again (i + 1) id (by exact ⟨by omega, by simp only [allI, hall, Bool.true_and]; unfold okRow; rw [← hje]; exact hrow⟩) (by omega) (LeR.of ⟨rfl, rfl, rfl, rfl, rfl, trivial⟩ ⟨(lx rfl), (lx rfl), (lx rfl), (lx rfl), trivial⟩ ⟨rfl, (congrArg (fun z => some (Ent.own 3 EP.int.size (List.length z) (RP EP.int z))) (show ((sTo p i ++ (nth p (i : Int)).take j)) = ((fun i => sTo p i) (i + 1)) from by dsimp only; rw [hje, List.take_length]; rfl)), trivial⟩ rfl rfl rfl rfl rfl)
    · try simp only [cnd] at hc2
      refine WP.exit (EX.exit_then (EX.exit_then (EX.exit_blk (EX.then (WP.seq (WP.region ?_))))))
      refine WPl.v rfl (o_assign rfl) ?_
      refine WPl.nil (EX.then (WP.ret ?_))
      have hie : i = p.length := by omega
      rw [show isPlanR h p = true from by unfold isPlanR; rw [decide_eq_true (by first | exact hc1 | simpa using hc1), ← hie, hall]; rfl]
      exact EX.fin id (.inl rfl) rfl (.tmp rfl .nil) rfl (by simp [SV.res, El.res, At.res, keys]) trivial (by simp) (by simp)
theorem w149 {h : Hall} {p : Plan} : ∀ x ∈ ([.e (.g [.q 0, .q 1, .q 2, ai (h.change)]), .e (.a (.q 3))] : List SV), x.res (keys (α := Pred) [(0, PL ETm (h.machs)), (1, PL EBd (h.buns)), (2, PL EP.int (h.trains)), (3, PL (EP.sl EP.int) (p))]) := by simp [SV.res, El.res, At.res, keys]
theorem r149  : SV.res (keys (α := Pred) []) (.b (true)) := by simp [SV.res, El.res, At.res, keys]
set_option maxHeartbeats 4000000 in
theorem c149 (h : Hall) (p : Plan) (hc : h.chk = true) (hp : isPlanR h p = true) (hr : RowsP p) : Sig Tryz.prog 149 [.e (.g [.q 0, .q 1, .q 2, ai (h.change)]), .e (.a (.q 3))] [(0, PL ETm (h.machs)), (1, PL EBd (h.buns)), (2, PL EP.int (h.trains)), (3, PL (EP.sl EP.int) (p))] (.b (true)) [] := by
  have hC := hallC hc
  have hP := planQ hp
  have h5 := hC.n5
  have hn := hr.n
  refine Sig.intro Tryz.func149 rfl 4 [(0, .e (.g [.q 0, .q 1, .q 2, ai (h.change)])), (1, .e (.a (.q 3)))] rfl w149 rfl rfl fun I w => ?_
  refine WP.seq (WP.region ?_)
  refine WPl.l 4 5 rfl rfl rfl (o_boxg rfl) ?_
  refine WPl.v rfl (o_assign rfl) ?_
  refine WPl.nil (EX.then (WP.seq (WP.region ?_)))
  refine WPl.v rfl (o_assign rfl) ?_
  refine WPl.nil (EX.then (WP.seq (WP.seq (WP.region ?_))))
  refine WPl.v rfl (o_move rfl) ?_
  refine WPl.v rfl (o_lenq L27 rfl (lx rfl)) ?_
  refine WPl.v rfl (o_move rfl) ?_
  refine WPl.nil (EX.then (WP.block ?_))
  refine WP.loop (Gh := Nat) (fun i => ⟨5, [(1, .e (.a (.q 3))), (2, .e (.a (.p 4 (0)))), (4, .b (false)), (5, .i (((msk (sTo p i) : Nat) : Int))), (10, .e (.a (.q 3))), (11, .i ((p.length : Int))), (12, .i ((i : Int)))], [(0, PL ETm (h.machs)), (1, PL EBd (h.buns)), (2, PL EP.int (h.trains)), (3, PL (EP.sl EP.int) (p))], [(4, .blk [.q 0, .q 1, .q 2, ai (h.change)] 26)], [], []⟩) (fun i => i ≤ p.length) (fun i => p.length - i) (0) id ?_ (LeR.of ⟨rfl, rfl, rfl, (congrArg (fun z => some (SV.i z)) (show (0) = ((fun i => ((msk (sTo p i) : Nat) : Int)) 0) from rfl)), rfl, rfl, rfl, trivial⟩ ⟨(lx rfl), (lx rfl), (lx rfl), (lx rfl), trivial⟩ ⟨rfl, trivial⟩ rfl rfl rfl rfl rfl) ?_
  · first | trivial | omega | (constructor <;> omega) | simp
  intro i hφ
  have hi : i ≤ p.length := hφ
  refine WP.seq (WP.region ?_)
  refine WPl.v rfl (o_lss rfl rfl) ?_
  refine WPl.nil (EX.then (WP.seq ?_))
  refine WP.cond rfl (fun hc1 => ?_) (fun hc1 => ?_)
  · try simp only [cnd] at hc1
    refine WP.skip (EX.then (WP.seq (WP.block (WP.seq (WP.region ?_)))))
    refine WPl.x 5 6 rfl rfl rfl (o_idx L27 rfl (lx rfl) rfl (by first | omega | (simp; omega)) (by first | omega | (simp; omega))) ?_
    refine WPl.x 6 7 rfl rfl rfl (o_ldqx S24 rfl (lx rfl) slx) ?_
    refine WPl.v rfl (o_assign rfl) ?_
    refine WPl.nil (EX.then (WP.seq (WP.region ?_)))
    refine WPl.v rfl (o_move rfl) ?_
    refine WPl.v rfl (o_lenq L24 rfl (lx rfl)) ?_
    refine WPl.v rfl (o_move rfl) ?_
    refine WPl.nil (EX.then (WP.block ?_))
    refine WP.loop (Gh := Nat) (fun j => ⟨7, [(1, .e (.a (.q 3))), (2, .e (.a (.p 4 (0)))), (4, .b (false)), (5, .i (((msk (sTo p i ++ (nth p (i : Int)).take j) : Nat) : Int))), (10, .e (.a (.q 3))), (11, .i ((p.length : Int))), (12, .i ((i : Int))), (13, .b (decide ((i : Int) < (p.length : Int)))), (14, .e (.a (.q 5))), (15, .e (.a (.q 6))), (7, .e (.a (.q 6))), (16, .e (.a (.q 6))), (17, .i (((nth p (i : Int)).length : Int))), (18, .i ((j : Int)))], [(0, PL ETm (h.machs)), (1, PL EBd (h.buns)), (2, PL EP.int (h.trains)), (3, PL (EP.sl EP.int) (p)), (5, PP (EP.sl EP.int) (nth p (i : Int))), (6, PL EP.int (nth p (i : Int)))], [(4, .blk [.q 0, .q 1, .q 2, ai (h.change)] 26)], [], []⟩) (fun j => j ≤ (nth p (i : Int)).length) (fun j => (nth p (i : Int)).length - j) (0) id ?_ (LeR.of ⟨rfl, rfl, rfl, (congrArg (fun z => some (SV.i z)) (show (((msk (sTo p i) : Nat) : Int)) = ((fun j => ((msk (sTo p i ++ (nth p (i : Int)).take j) : Nat) : Int)) 0) from by dsimp only; rw [List.take_zero, List.append_nil])), rfl, rfl, rfl, rfl, rfl, rfl, rfl, rfl, rfl, rfl, trivial⟩ ⟨(lx rfl), (lx rfl), (lx rfl), (lx rfl), (lx rfl), (lx rfl), trivial⟩ ⟨rfl, trivial⟩ rfl rfl rfl rfl rfl) ?_
    · first | trivial | omega | (constructor <;> omega) | simp
    intro j hφ
    have hj : j ≤ (nth p (i : Int)).length := hφ
    refine WP.seq (WP.region ?_)
    refine WPl.v rfl (o_lss rfl rfl) ?_
    refine WPl.nil (EX.then (WP.seq ?_))
    refine WP.cond rfl (fun hc2 => ?_) (fun hc2 => ?_)
    · try simp only [cnd] at hc2
      have hri := hr.r i (by omega)
      have hsk := seen_ok hP h5 (i := i) (j := j) (by omega) (by omega)
      have hx := hsk.x
      refine WP.skip (EX.then (WP.seq (WP.block (WP.seq (WP.region ?_)))))
      refine WPl.x 7 8 rfl rfl rfl (o_idx L24 rfl (lx rfl) rfl (by first | omega | (simp; omega)) (by first | omega | (simp; omega))) ?_
      refine WPl.v rfl (o_ldq S3 rfl (lx rfl) intc) ?_
      refine WPl.v rfl (o_assign rfl) ?_
      refine WPl.nil (EX.then (WP.seq (WP.seq (WP.region ?_))))
      refine WPl.v rfl (o_move rfl) ?_
      refine WPl.v rfl (o_fldp F26_1 rfl) ?_
      refine WPl.v rfl (o_ldp S23 rfl rfl rfl) ?_
      refine WPl.v rfl (o_lenq L23 rfl (lx rfl)) ?_
      refine WPl.v rfl (o_sub rfl rfl (by first | omega | (simp; omega)) (by first | omega | (simp; omega))) ?_
      refine WPl.cs 8 rfl rfl rfl rfl (o_sig 8 id (c164 (nth (nth p (i : Int)) (j : Int)) 0 ((h.buns.length : Int) - 1)) e164 rfl rfl rfl w164 trivial r164) ?_
      refine WPl.v rfl (o_not rfl) ?_
      refine WPl.v rfl (o_move rfl) ?_
      refine WPl.bit 8 9 (!(!(within (nth (nth p (i : Int)) (j : Int)) 0 ((h.buns.length : Int) - 1)))) rfl rfl ?_
      refine WPl.gv 8 rfl rfl (.plain rfl (by first | (simp; done) | simp only [Bool.not_eq_true']) rfl) (fun hb => o_move rfl) ?_
      refine WPl.gv 8 rfl rfl (.plain rfl (by first | (simp; done) | simp only [Bool.not_eq_true']) rfl) (fun hb => o_move rfl) ?_
      refine WPl.gv 8 rfl rfl (.plain rfl (by first | (simp; done) | simp only [Bool.not_eq_true']) rfl) (fun hb => o_ishr rfl rfl (by omega) hsk.m.r) ?_
      refine WPl.gv 8 rfl rfl (.plain rfl (by first | (simp; done) | simp only [Bool.not_eq_true']) rfl) (fun hb => o_iand rfl rfl hsk.m.a) ?_
      refine WPl.gv 8 rfl rfl (.plain rfl (by first | (simp; done) | simp only [Bool.not_eq_true']) rfl) (fun hb => o_eql rfl rfl) ?_
      refine WPl.v rfl (o_or rfl rfl rfl (by first | (simp; done) | exact fun h => by rw [h]; rfl | exact fun h => Bool.and_eq_true_iff.2 ⟨hb, by rw [h]; rfl⟩ | simp_all)) ?_
      refine WPl.nil (EX.then ?_)
      refine WP.cond rfl (fun hc3 => ?_) (fun hc3 => ?_)
      · try simp only [cnd] at hc3
        exfalso
        rcases hc3 with g | g
        · simp only [within, Bool.and_eq_false_iff, decide_eq_false_iff_not] at g; omega
        · exact hsk.n (by omega)
      · try simp only [cnd] at hc3
        refine WP.skip (EX.then (WP.region ?_))
        refine WPl.v rfl (o_move rfl) ?_
        refine WPl.v rfl (o_move rfl) ?_
        refine WPl.v rfl (o_ishl rfl rfl (by omega) hsk.m.l) ?_
        refine WPl.v rfl (o_ior rfl rfl hsk.m.o) ?_
        refine WPl.v rfl (o_assign rfl) ?_
        refine WPl.nil (EX.blk (EX.then (WP.region ?_)))
        refine WPl.v rfl (o_add rfl rfl (by first | omega | (simp; omega)) (by first | omega | (simp; omega))) ?_
        refine WPl.v rfl (o_move rfl) ?_
        refine WPl.nil ?_
        refine EX.again (j + 1) id (by first | omega | (constructor <;> omega)) (by omega) (LeR.of ⟨rfl, rfl, rfl, (congrArg (fun z => some (SV.i z)) (show (((msk (sTo p i ++ (nth p (i : Int)).take j) ||| 2 ^ (nth (nth p (i : Int)) (j : Int)).toNat : Nat) : Int)) = ((fun j => ((msk (sTo p i ++ (nth p (i : Int)).take j) : Nat) : Int)) (j + 1)) from by dsimp only; rw [← take_snoc (show j < (nth p (i : Int)).length by omega), ← List.append_assoc, msk_snoc])), rfl, rfl, rfl, rfl, rfl, rfl, rfl, rfl, rfl, rfl, trivial⟩ ⟨(lx rfl), (lx rfl), (lx rfl), (lx rfl), (lx rfl), (lx rfl), trivial⟩ ⟨rfl, trivial⟩ rfl rfl rfl rfl rfl)
    · try simp only [cnd] at hc2
      refine WP.exit (EX.exit_then (EX.exit_then (EX.exit_blk (EX.blk (EX.then (WP.region ?_))))))
      refine WPl.v rfl (o_add rfl rfl (by first | omega | (simp; omega)) (by first | omega | (simp; omega))) ?_
      refine WPl.v rfl (o_move rfl) ?_
      refine WPl.nil ?_
      have hje : j = (nth p (i : Int)).length := by omega
      refine EX.again (i + 1) id (by first | omega | (constructor <;> omega)) (by omega) (LeR.of ⟨rfl, rfl, rfl, (congrArg (fun z => some (SV.i z)) (show (((msk (sTo p i ++ (nth p (i : Int)).take j) : Nat) : Int)) = ((fun i => ((msk (sTo p i) : Nat) : Int)) (i + 1)) from by dsimp only; rw [hje, List.take_length]; rfl)), rfl, rfl, rfl, trivial⟩ ⟨(lx rfl), (lx rfl), (lx rfl), (lx rfl), trivial⟩ ⟨rfl, trivial⟩ rfl rfl rfl rfl rfl)
  · try simp only [cnd] at hc1
    refine WP.exit (EX.exit_then (EX.exit_then (EX.exit_blk (EX.then (WP.seq (WP.region ?_))))))
    refine WPl.v rfl (o_move rfl) ?_
    refine WPl.v rfl (o_lenq L27 rfl (lx rfl)) ?_
    refine WPl.v rfl (o_fldp F26_0 rfl) ?_
    refine WPl.v rfl (o_ldp S22 rfl rfl rfl) ?_
    refine WPl.v rfl (o_lenq L22 rfl (lx rfl)) ?_
    refine WPl.v rfl (o_eql rfl rfl) ?_
    refine WPl.v rfl (o_assign rfl) ?_
    refine WPl.nil (EX.then (WP.ret ?_))
    refine EX.imp (Imp.bitF 4 (b' := true) rfl (decide_eq_true (by have h := hP.n; omega))) ?_
    exact EX.fin id (.inl rfl) rfl (.tmp rfl .nil) rfl (by simp [SV.res, El.res, At.res, keys]) trivial (by simp) (by simp)
theorem w127 {h : Hall} {p : Plan} : ∀ x ∈ ([.e (.g [.q 0, .q 1, .q 2, ai (h.change)]), .e (.a (.q 3))] : List SV), x.res (keys (α := Pred) [(0, PL ETm (h.machs)), (1, PL EBd (h.buns)), (2, PL EP.int (h.trains)), (3, PL (EP.sl EP.int) (p))]) := by simp [SV.res, El.res, At.res, keys]
theorem r127  : SV.res (keys (α := Pred) []) (.t [.a (.v (.bool (true))), .a (ai (0))]) := by simp [SV.res, El.res, At.res, keys]
set_option maxHeartbeats 4000000 in
theorem c127 (h : Hall) (p : Plan) (hm : h.Small) (hc : h.chk = true) (hp : isPlanR h p = true) (hr : RowsP p) : Sig Tryz.prog 127 [.e (.g [.q 0, .q 1, .q 2, ai (h.change)]), .e (.a (.q 3))] [(0, PL ETm (h.machs)), (1, PL EBd (h.buns)), (2, PL EP.int (h.trains)), (3, PL (EP.sl EP.int) (p))] (.t [.a (.v (.bool (true))), .a (ai (0))]) [] := by
  have hh : h.house = true := by simp only [Hall.chk, Hall.hallHd, Bool.and_eq_true] at hc; exact hc.1.1.1.1.1
  refine Sig.intro Tryz.func127 rfl 4 [(0, .e (.g [.q 0, .q 1, .q 2, ai (h.change)])), (1, .e (.a (.q 3)))] rfl w127 rfl rfl fun I w => ?_
  refine WP.seq (WP.region ?_)
  refine WPl.l 4 5 rfl rfl rfl (o_boxg rfl) ?_
  refine WPl.v rfl (o_assign rfl) ?_
  refine WPl.v rfl (o_assign rfl) ?_
  refine WPl.nil (EX.then (WP.seq (WP.seq (WP.region ?_))))
  refine WPl.v rfl (o_ldpa G26 rfl rfl rfl) ?_
  refine WPl.cs 5 rfl rfl rfl rfl (o_sig 5 (ren [(0, 0), (1, 1), (2, 2)]) (c148 h hm) e148 rfl rfl rfl w148 ⟨(lx rfl), (lx rfl), (lx rfl), trivial⟩ r148) ?_
  refine WPl.v rfl (o_assign rfl) ?_
  refine WPl.nil (EX.then (WP.seq (WP.region ?_)))
  refine WPl.v rfl (o_move rfl) ?_
  refine WPl.v rfl (o_neq rfl rfl) ?_
  refine WPl.nil (EX.then ?_)
  refine WP.cond rfl (fun hc1 => ?_) (fun hc1 => ?_)
  · try simp only [cnd] at hc1
    exact absurd (errH_eq.2 hh) hc1
  · try simp only [cnd] at hc1
    refine WP.skip (EX.then (WP.seq (WP.region ?_)))
    refine WPl.v rfl (o_ldpa G26 rfl rfl rfl) ?_
    refine WPl.v rfl (o_move rfl) ?_
    refine WPl.cs 5 rfl rfl rfl rfl (o_sig 5 (ren [(0, 0), (1, 1), (2, 2), (3, 3)]) (c149 h p hc hp hr) e149 rfl rfl rfl w149 ⟨(lx rfl), (lx rfl), (lx rfl), (lx rfl), trivial⟩ r149) ?_
    refine WPl.v rfl (o_assign rfl) ?_
    refine WPl.v rfl (o_assign rfl) ?_
    refine WPl.nil (EX.then (WP.ret ?_))
    exact EX.fin id (.inl rfl) rfl (.tmp rfl (.tmp rfl .nil)) rfl r127 trivial (by simp) (by simp)
theorem w151 {a b : Int} : ∀ x ∈ ([.i (a), .i (b)] : List SV), x.res (keys (α := Pred) []) := by simp [SV.res, El.res, At.res, keys]
theorem r151 {a b : Int} : SV.res (keys (α := Pred) []) (.i (a + b)) := by simp [SV.res, El.res, At.res, keys]
set_option maxHeartbeats 4000000 in
theorem c151 (a b : Int) (h1 : 0 ≤ a ∧ a ≤ 1000) (h2 : 0 ≤ b ∧ b ≤ 1000) : Sig Tryz.prog 151 [.i (a), .i (b)] [] (.i (a + b)) [] := by
  refine Sig.intro Tryz.func151 rfl 0 [(0, .i (a)), (1, .i (b))] rfl w151 rfl rfl fun I w => ?_
  refine WP.seq (WP.region ?_)
  refine WPl.v rfl (o_assign rfl) ?_
  refine WPl.nil (EX.then (WP.seq (WP.region ?_)))
  refine WPl.v rfl (o_move rfl) ?_
  refine WPl.v rfl (o_move rfl) ?_
  refine WPl.v rfl (o_add rfl rfl (by first | omega | (simp; omega)) (by first | omega | (simp; omega))) ?_
  refine WPl.v rfl (o_assign rfl) ?_
  refine WPl.nil (EX.then (WP.ret ?_))
  exact EX.fin id (.inl rfl) rfl (.tmp rfl .nil) rfl r151 trivial (by simp) (by simp)
theorem w150 {a b : List Int} : ∀ x ∈ ([.e (.g [ai (nth a 0), ai (nth a 1), ai (nth a 2), ai (nth a 3), ai (nth a 4), ai (nth a 5), ai (nth a 6), ai (nth a 7), ai (nth a 8), ai (nth a 9), ai (nth a 10), ai (nth a 11)]), .e (.g [ai (nth b 0), ai (nth b 1), ai (nth b 2), ai (nth b 3), ai (nth b 4), ai (nth b 5), ai (nth b 6), ai (nth b 7), ai (nth b 8), ai (nth b 9), ai (nth b 10), ai (nth b 11)]), .e (.a (.q 0))] : List SV), x.res (keys (α := Pred) [(0, Add2)]) := by simp [SV.res, El.res, At.res, keys]
theorem r150 {a b : List Int} : SV.res (keys (α := Pred) []) (.e (.g [ai (nth (eachN a b 12) 0), ai (nth (eachN a b 12) 1), ai (nth (eachN a b 12) 2), ai (nth (eachN a b 12) 3), ai (nth (eachN a b 12) 4), ai (nth (eachN a b 12) 5), ai (nth (eachN a b 12) 6), ai (nth (eachN a b 12) 7), ai (nth (eachN a b 12) 8), ai (nth (eachN a b 12) 9), ai (nth (eachN a b 12) 10), ai (nth (eachN a b 12) 11)])) := by simp [SV.res, El.res, At.res, keys]
set_option maxHeartbeats 4000000 in
theorem c150 (a b : List Int) (ha : a.length = 12) (hb : b.length = 12) (h1 : ∀ k : Nat, k < 12 → 0 ≤ nth a (k : Int) ∧ nth a (k : Int) ≤ 1000) (h2 : ∀ k : Nat, k < 12 → 0 ≤ nth b (k : Int) ∧ nth b (k : Int) ≤ 1000) : Sig Tryz.prog 150 [.e (.g [ai (nth a 0), ai (nth a 1), ai (nth a 2), ai (nth a 3), ai (nth a 4), ai (nth a 5), ai (nth a 6), ai (nth a 7), ai (nth a 8), ai (nth a 9), ai (nth a 10), ai (nth a 11)]), .e (.g [ai (nth b 0), ai (nth b 1), ai (nth b 2), ai (nth b 3), ai (nth b 4), ai (nth b 5), ai (nth b 6), ai (nth b 7), ai (nth b 8), ai (nth b 9), ai (nth b 10), ai (nth b 11)]), .e (.a (.q 0))] [(0, Add2)] (.e (.g [ai (nth (eachN a b 12) 0), ai (nth (eachN a b 12) 1), ai (nth (eachN a b 12) 2), ai (nth (eachN a b 12) 3), ai (nth (eachN a b 12) 4), ai (nth (eachN a b 12) 5), ai (nth (eachN a b 12) 6), ai (nth (eachN a b 12) 7), ai (nth (eachN a b 12) 8), ai (nth (eachN a b 12) 9), ai (nth (eachN a b 12) 10), ai (nth (eachN a b 12) 11)])) [] := by
  refine Sig.intro Tryz.func150 rfl 1 [(0, .e (.g [ai (nth a 0), ai (nth a 1), ai (nth a 2), ai (nth a 3), ai (nth a 4), ai (nth a 5), ai (nth a 6), ai (nth a 7), ai (nth a 8), ai (nth a 9), ai (nth a 10), ai (nth a 11)])), (1, .e (.g [ai (nth b 0), ai (nth b 1), ai (nth b 2), ai (nth b 3), ai (nth b 4), ai (nth b 5), ai (nth b 6), ai (nth b 7), ai (nth b 8), ai (nth b 9), ai (nth b 10), ai (nth b 11)])), (2, .e (.a (.q 0)))] rfl w150 rfl rfl fun I w => ?_
  refine WP.seq (WP.region ?_)
  refine WPl.l 1 2 rfl rfl rfl (o_boxg rfl) ?_
  refine WPl.l 2 3 rfl rfl rfl (o_boxg rfl) ?_
  refine WPl.l 3 4 rfl rfl rfl (o_alloc Z123) ?_
  refine WPl.nil (EX.then (WP.seq (WP.seq (WP.region ?_))))
  refine WPl.v rfl (o_move rfl) ?_
  refine WPl.nil (EX.then (WP.block ?_))
  refine WP.loop (Gh := Nat) (fun i => ⟨4, [(2, .e (.a (.q 0))), (3, .e (.a (.p 1 (0)))), (4, .e (.a (.p 2 (0)))), (6, .e (.a (.p 3 (0)))), (9, .i ((i : Int)))], [(0, Add2)], [(1, .blk [ai (nth a 0), ai (nth a 1), ai (nth a 2), ai (nth a 3), ai (nth a 4), ai (nth a 5), ai (nth a 6), ai (nth a 7), ai (nth a 8), ai (nth a 9), ai (nth a 10), ai (nth a 11)] 123), (2, .blk [ai (nth b 0), ai (nth b 1), ai (nth b 2), ai (nth b 3), ai (nth b 4), ai (nth b 5), ai (nth b 6), ai (nth b 7), ai (nth b 8), ai (nth b 9), ai (nth b 10), ai (nth b 11)] 123), (3, .blk [ai (nth (eachN a b (3 * i)) 0), ai (nth (eachN a b (3 * i)) 1), ai (nth (eachN a b (3 * i)) 2), ai (nth (eachN a b (3 * i)) 3), ai (nth (eachN a b (3 * i)) 4), ai (nth (eachN a b (3 * i)) 5), ai (nth (eachN a b (3 * i)) 6), ai (nth (eachN a b (3 * i)) 7), ai (nth (eachN a b (3 * i)) 8), ai (nth (eachN a b (3 * i)) 9), ai (nth (eachN a b (3 * i)) 10), ai (nth (eachN a b (3 * i)) 11)] 123)], [], []⟩) (fun i => i ≤ 4) (fun i => 4 - i) (0) id ?_ (LeR.of ⟨rfl, rfl, rfl, rfl, rfl, trivial⟩ ⟨(lx rfl), trivial⟩ ⟨rfl, rfl, rfl, trivial⟩ rfl rfl rfl rfl rfl) ?_
  · first | trivial | omega | (constructor <;> omega) | simp
  intro i hφ
  have hi : i ≤ 4 := hφ
  refine WP.seq (WP.region ?_)
  refine WPl.v rfl (o_lss rfl rfl) ?_
  refine WPl.nil (EX.then (WP.seq ?_))
  refine WP.cond rfl (fun hc1 => ?_) (fun hc1 => ?_)
  · try simp only [cnd] at hc1
    refine WP.skip (EX.then (WP.seq (WP.block (WP.seq (WP.region ?_)))))
    refine WPl.v rfl (o_move rfl) ?_
    refine WPl.v rfl (o_assign rfl) ?_
    refine WPl.nil (EX.then (WP.seq (WP.region ?_)))
    refine WPl.v rfl (o_move rfl) ?_
    refine WPl.nil (EX.then (WP.block ?_))
    refine WP.loop (Gh := Nat) (fun j => ⟨4, [(2, .e (.a (.q 0))), (3, .e (.a (.p 1 (0)))), (4, .e (.a (.p 2 (0)))), (6, .e (.a (.p 3 (0)))), (9, .i ((i : Int))), (10, .b (decide ((i : Int) < 4))), (11, .i ((i : Int))), (7, .i ((i : Int))), (12, .i ((j : Int)))], [(0, Add2)], [(1, .blk [ai (nth a 0), ai (nth a 1), ai (nth a 2), ai (nth a 3), ai (nth a 4), ai (nth a 5), ai (nth a 6), ai (nth a 7), ai (nth a 8), ai (nth a 9), ai (nth a 10), ai (nth a 11)] 123), (2, .blk [ai (nth b 0), ai (nth b 1), ai (nth b 2), ai (nth b 3), ai (nth b 4), ai (nth b 5), ai (nth b 6), ai (nth b 7), ai (nth b 8), ai (nth b 9), ai (nth b 10), ai (nth b 11)] 123), (3, .blk [ai (nth (eachN a b (3 * i + j)) 0), ai (nth (eachN a b (3 * i + j)) 1), ai (nth (eachN a b (3 * i + j)) 2), ai (nth (eachN a b (3 * i + j)) 3), ai (nth (eachN a b (3 * i + j)) 4), ai (nth (eachN a b (3 * i + j)) 5), ai (nth (eachN a b (3 * i + j)) 6), ai (nth (eachN a b (3 * i + j)) 7), ai (nth (eachN a b (3 * i + j)) 8), ai (nth (eachN a b (3 * i + j)) 9), ai (nth (eachN a b (3 * i + j)) 10), ai (nth (eachN a b (3 * i + j)) 11)] 123)], [], []⟩) (fun j => j ≤ 3) (fun j => 3 - j) (0) id ?_ (LeR.of ⟨rfl, rfl, rfl, rfl, rfl, rfl, rfl, rfl, rfl, trivial⟩ ⟨(lx rfl), trivial⟩ ⟨rfl, rfl, rfl, trivial⟩ rfl rfl rfl rfl rfl) ?_
    · first | trivial | omega | (constructor <;> omega) | simp
    intro j hφ
    have hj : j ≤ 3 := hφ
    refine WP.seq (WP.region ?_)
    refine WPl.v rfl (o_lss rfl rfl) ?_
    refine WPl.nil (EX.then (WP.seq ?_))
    refine WP.cond rfl (fun hc2 => ?_) (fun hc2 => ?_)
    · try simp only [cnd] at hc2
      have hij : ((3 * i + j : Nat) : Int) = ((i : Int) * 3 + (j : Int)) := by omega
      have hk1 := h1 (3 * i + j) (by omega)
      have hk2 := h2 (3 * i + j) (by omega)
      rw [hij] at hk1 hk2
      refine WP.skip (EX.then (WP.seq (WP.block (WP.seq (WP.region ?_)))))
      refine WPl.v rfl (o_move rfl) ?_
      refine WPl.v rfl (o_assign rfl) ?_
      refine WPl.nil (EX.then ?_)
      refine WP.draw (nf := 4) [⟨[16, 17, 18, 19, 20, 21, 22, 23, 24, 25, 26, 27, 28], [], [], [], []⟩, ⟨[15, 17, 18, 19, 20, 21, 22, 23, 24, 25, 26, 27, 28, 29], [], [], [], []⟩, ⟨[15, 16, 18, 19, 20, 21, 22, 23, 24, 25, 26, 27, 29], [], [], [], []⟩, ⟨[15, 16, 17, 19, 23, 24, 25, 26, 27, 29], [], [], [], []⟩, ⟨[15, 16, 17, 18, 20, 23, 24, 25, 26, 27, 29], [], [], [], []⟩, ⟨[15, 16, 17, 19, 23, 24, 25, 26, 27, 29], [], [], [], [3]⟩, ⟨[15, 16, 17, 23, 24, 25, 26, 27, 29], [], [], [], [3, 4, 5]⟩, ⟨[15, 16, 17, 23, 24, 25, 26, 27, 29], [], [], [], [3, 4, 5, 6]⟩, ⟨[15, 16, 17, 18, 19, 20, 21, 22, 24, 29], [], [], [], []⟩, ⟨[15, 16, 17, 18, 19, 20, 21, 22, 23, 25, 29], [], [], [], []⟩, ⟨[15, 16, 17, 18, 19, 20, 21, 22, 24, 29], [], [], [], [8]⟩, ⟨[15, 16, 17, 18, 19, 20, 21, 22, 29], [], [], [], [8, 9, 10]⟩, ⟨[15, 16, 17, 18, 19, 20, 21, 22, 29], [], [], [], [8, 9, 10, 11]⟩, ⟨[15, 16, 29], [], [], [], [2, 3, 4, 5, 6, 7, 8, 9, 10, 11, 12]⟩, ⟨[16, 17, 18, 19, 20, 21, 22, 23, 24, 25, 26, 27, 28], [], [], [], [0]⟩, ⟨[], [], [], [], [0, 1, 2, 3, 4, 5, 6, 7, 8, 9, 10, 11, 12, 13, 14]⟩, ⟨[], [], [], [3], [0, 1, 2, 3, 4, 5, 6, 7, 8, 9, 10, 11, 12, 13, 14, 15]⟩] (by kernel_rfl) (by kernel_rfl) ?_
      refine DRQ.v rfl rfl rfl (o_move rfl) ?_
      refine DRQ.v rfl rfl rfl (o_move rfl) ?_
      refine DRQ.v rfl rfl rfl (o_move rfl) ?_
      refine DRQ.v rfl rfl rfl (o_move rfl) ?_
      refine DRQ.v rfl rfl rfl (o_move rfl) ?_
      refine DRQ.v rfl rfl rfl (o_idxpr A123 rfl rfl (by first | omega | (simp; omega)) (by first | omega | (simp; omega))) ?_
      refine DRQ.v rfl rfl rfl (o_idxpc ((i : Int) * 3 + (j : Int)) A121 rfl rfl (by first | omega | (simp; omega)) (by first | omega | (simp; omega)) (by omega)) ?_
      refine DRQ.v rfl rfl rfl (o_ldpn (n := 12) (l := a) S3 rfl rfl rfl (by omega) (by omega)) ?_
      refine DRQ.v rfl rfl rfl (o_move rfl) ?_
      refine DRQ.v rfl rfl rfl (o_move rfl) ?_
      refine DRQ.v rfl rfl rfl (o_idxpr A123 rfl rfl (by first | omega | (simp; omega)) (by first | omega | (simp; omega))) ?_
      refine DRQ.v rfl rfl rfl (o_idxpc ((i : Int) * 3 + (j : Int)) A121 rfl rfl (by first | omega | (simp; omega)) (by first | omega | (simp; omega)) (by omega)) ?_
      refine DRQ.v rfl rfl rfl (o_ldpn (n := 12) (l := b) S3 rfl rfl rfl (by omega) (by omega)) ?_
      refine DRQ.cs rfl rfl rfl rfl (o_callfv (svs := [.i ((⟨(nth a ((i : Int) * 3 + (j : Int)), nth b ((i : Int) * 3 + (j : Int))), hk1, hk2⟩ : AddD).1.1), .i ((⟨(nth a ((i : Int) * 3 + (j : Int)), nth b ((i : Int) * 3 + (j : Int))), hk1, hk2⟩ : AddD).1.2)]) 4 id rfl (show Has _ 0 (FvP Tryz.prog [.i ((⟨(nth a ((i : Int) * 3 + (j : Int)), nth b ((i : Int) * 3 + (j : Int))), hk1, hk2⟩ : AddD).1.1), .i ((⟨(nth a ((i : Int) * 3 + (j : Int)), nth b ((i : Int) * 3 + (j : Int))), hk1, hk2⟩ : AddD).1.2)] [] (.i ((⟨(nth a ((i : Int) * 3 + (j : Int)), nth b ((i : Int) * 3 + (j : Int))), hk1, hk2⟩ : AddD).1.1 + (⟨(nth a ((i : Int) * 3 + (j : Int)), nth b ((i : Int) * 3 + (j : Int))), hk1, hk2⟩ : AddD).1.2)) []) from (Has.of (lx rfl) fun _ _ h => Pred.fall_at h ((⟨(nth a ((i : Int) * 3 + (j : Int)), nth b ((i : Int) * 3 + (j : Int))), hk1, hk2⟩ : AddD)))) rfl rfl SvsOK.rf (by simp [SV.res, El.res, At.res, keys]) trivial (by simp [SV.res, El.res, At.res, keys])) ?_
      refine DRQ.v rfl rfl rfl (o_idxpr A123 rfl rfl (by first | omega | (simp; omega)) (by first | omega | (simp; omega))) ?_
      refine DRQ.v rfl rfl rfl (o_idxpc ((i : Int) * 3 + (j : Int)) A121 rfl rfl (by first | omega | (simp; omega)) (by first | omega | (simp; omega)) (by omega)) ?_
      refine DRQ.s 3 rfl rfl rfl (o_stpn (n := 12) (l := eachN a b (3 * i + j)) (cs' := [ai (nth (lset (eachN a b (3 * i + j)) ((i : Int) * 3 + (j : Int)) ((⟨(nth a ((i : Int) * 3 + (j : Int)), nth b ((i : Int) * 3 + (j : Int))), hk1, hk2⟩ : AddD).1.1 + (⟨(nth a ((i : Int) * 3 + (j : Int)), nth b ((i : Int) * 3 + (j : Int))), hk1, hk2⟩ : AddD).1.2)) 0), ai (nth (lset (eachN a b (3 * i + j)) ((i : Int) * 3 + (j : Int)) ((⟨(nth a ((i : Int) * 3 + (j : Int)), nth b ((i : Int) * 3 + (j : Int))), hk1, hk2⟩ : AddD).1.1 + (⟨(nth a ((i : Int) * 3 + (j : Int)), nth b ((i : Int) * 3 + (j : Int))), hk1, hk2⟩ : AddD).1.2)) 1), ai (nth (lset (eachN a b (3 * i + j)) ((i : Int) * 3 + (j : Int)) ((⟨(nth a ((i : Int) * 3 + (j : Int)), nth b ((i : Int) * 3 + (j : Int))), hk1, hk2⟩ : AddD).1.1 + (⟨(nth a ((i : Int) * 3 + (j : Int)), nth b ((i : Int) * 3 + (j : Int))), hk1, hk2⟩ : AddD).1.2)) 2), ai (nth (lset (eachN a b (3 * i + j)) ((i : Int) * 3 + (j : Int)) ((⟨(nth a ((i : Int) * 3 + (j : Int)), nth b ((i : Int) * 3 + (j : Int))), hk1, hk2⟩ : AddD).1.1 + (⟨(nth a ((i : Int) * 3 + (j : Int)), nth b ((i : Int) * 3 + (j : Int))), hk1, hk2⟩ : AddD).1.2)) 3), ai (nth (lset (eachN a b (3 * i + j)) ((i : Int) * 3 + (j : Int)) ((⟨(nth a ((i : Int) * 3 + (j : Int)), nth b ((i : Int) * 3 + (j : Int))), hk1, hk2⟩ : AddD).1.1 + (⟨(nth a ((i : Int) * 3 + (j : Int)), nth b ((i : Int) * 3 + (j : Int))), hk1, hk2⟩ : AddD).1.2)) 4), ai (nth (lset (eachN a b (3 * i + j)) ((i : Int) * 3 + (j : Int)) ((⟨(nth a ((i : Int) * 3 + (j : Int)), nth b ((i : Int) * 3 + (j : Int))), hk1, hk2⟩ : AddD).1.1 + (⟨(nth a ((i : Int) * 3 + (j : Int)), nth b ((i : Int) * 3 + (j : Int))), hk1, hk2⟩ : AddD).1.2)) 5), ai (nth (lset (eachN a b (3 * i + j)) ((i : Int) * 3 + (j : Int)) ((⟨(nth a ((i : Int) * 3 + (j : Int)), nth b ((i : Int) * 3 + (j : Int))), hk1, hk2⟩ : AddD).1.1 + (⟨(nth a ((i : Int) * 3 + (j : Int)), nth b ((i : Int) * 3 + (j : Int))), hk1, hk2⟩ : AddD).1.2)) 6), ai (nth (lset (eachN a b (3 * i + j)) ((i : Int) * 3 + (j : Int)) ((⟨(nth a ((i : Int) * 3 + (j : Int)), nth b ((i : Int) * 3 + (j : Int))), hk1, hk2⟩ : AddD).1.1 + (⟨(nth a ((i : Int) * 3 + (j : Int)), nth b ((i : Int) * 3 + (j : Int))), hk1, hk2⟩ : AddD).1.2)) 7), ai (nth (lset (eachN a b (3 * i + j)) ((i : Int) * 3 + (j : Int)) ((⟨(nth a ((i : Int) * 3 + (j : Int)), nth b ((i : Int) * 3 + (j : Int))), hk1, hk2⟩ : AddD).1.1 + (⟨(nth a ((i : Int) * 3 + (j : Int)), nth b ((i : Int) * 3 + (j : Int))), hk1, hk2⟩ : AddD).1.2)) 8), ai (nth (lset (eachN a b (3 * i + j)) ((i : Int) * 3 + (j : Int)) ((⟨(nth a ((i : Int) * 3 + (j : Int)), nth b ((i : Int) * 3 + (j : Int))), hk1, hk2⟩ : AddD).1.1 + (⟨(nth a ((i : Int) * 3 + (j : Int)), nth b ((i : Int) * 3 + (j : Int))), hk1, hk2⟩ : AddD).1.2)) 9), ai (nth (lset (eachN a b (3 * i + j)) ((i : Int) * 3 + (j : Int)) ((⟨(nth a ((i : Int) * 3 + (j : Int)), nth b ((i : Int) * 3 + (j : Int))), hk1, hk2⟩ : AddD).1.1 + (⟨(nth a ((i : Int) * 3 + (j : Int)), nth b ((i : Int) * 3 + (j : Int))), hk1, hk2⟩ : AddD).1.2)) 10), ai (nth (lset (eachN a b (3 * i + j)) ((i : Int) * 3 + (j : Int)) ((⟨(nth a ((i : Int) * 3 + (j : Int)), nth b ((i : Int) * 3 + (j : Int))), hk1, hk2⟩ : AddD).1.1 + (⟨(nth a ((i : Int) * 3 + (j : Int)), nth b ((i : Int) * 3 + (j : Int))), hk1, hk2⟩ : AddD).1.2)) 11)]) S3 rfl rfl rfl rfl rfl (by rw [eachN_len]) (by omega) (by omega)) ?_
      refine DRQ.nil' ?_
      refine EX.blk (EX.then (WP.region ?_))
      refine WPl.v rfl (o_add rfl rfl (by first | omega | (simp; omega)) (by first | omega | (simp; omega))) ?_
      refine WPl.v rfl (o_move rfl) ?_
      refine WPl.nil ?_
      refine EX.again (j + 1) id (by first | omega | (constructor <;> omega)) (by omega) (LeR.of ⟨rfl, rfl, rfl, rfl, rfl, rfl, rfl, rfl, rfl, trivial⟩ ⟨(lx rfl), trivial⟩ ⟨rfl, rfl, (congrArg (fun z => some (Ent.blk z 123)) (List.cons_eq_cons.2 ⟨(congrArg (fun z => ai z) (show (nth (lset (eachN a b (3 * i + j)) ((i : Int) * 3 + (j : Int)) ((⟨(nth a ((i : Int) * 3 + (j : Int)), nth b ((i : Int) * 3 + (j : Int))), hk1, hk2⟩ : AddD).1.1 + (⟨(nth a ((i : Int) * 3 + (j : Int)), nth b ((i : Int) * 3 + (j : Int))), hk1, hk2⟩ : AddD).1.2)) 0) = ((fun j => nth (eachN a b (3 * i + j)) 0) (j + 1)) from by dsimp only; rw [show 3 * i + (j + 1) = (3 * i + j) + 1 from rfl, each_step hij])), (List.cons_eq_cons.2 ⟨(congrArg (fun z => ai z) (show (nth (lset (eachN a b (3 * i + j)) ((i : Int) * 3 + (j : Int)) ((⟨(nth a ((i : Int) * 3 + (j : Int)), nth b ((i : Int) * 3 + (j : Int))), hk1, hk2⟩ : AddD).1.1 + (⟨(nth a ((i : Int) * 3 + (j : Int)), nth b ((i : Int) * 3 + (j : Int))), hk1, hk2⟩ : AddD).1.2)) 1) = ((fun j => nth (eachN a b (3 * i + j)) 1) (j + 1)) from by dsimp only; rw [show 3 * i + (j + 1) = (3 * i + j) + 1 from rfl, each_step hij])), (List.cons_eq_cons.2 ⟨(congrArg (fun z => ai z) (show (nth (lset (eachN a b (3 * i + j)) ((i : Int) * 3 + (j : Int)) ((⟨(nth a ((i : Int) * 3 + (j : Int)), nth b ((i : Int) * 3 + (j : Int))), hk1, hk2⟩ : AddD).1.1 + (⟨(nth a ((i : Int) * 3 + (j : Int)), nth b ((i : Int) * 3 + (j : Int))), hk1, hk2⟩ : AddD).1.2)) 2) = ((fun j => nth (eachN a b (3 * i + j)) 2) (j + 1)) from by dsimp only; rw [show 3 * i + (j + 1) = (3 * i + j) + 1 from rfl, each_step hij])), (List.cons_eq_cons.2 ⟨(congrArg (fun z => ai z) (show (nth (lset (eachN a b (3 * i + j)) ((i : Int) * 3 + (j : Int)) ((⟨(nth a ((i : Int) * 3 + (j : Int)), nth b ((i : Int) * 3 + (j : Int))), hk1, hk2⟩ : AddD).1.1 + (⟨(nth a ((i : Int) * 3 + (j : Int)), nth b ((i : Int) * 3 + (j : Int))), hk1, hk2⟩ : AddD).1.2)) 3) = ((fun j => nth (eachN a b (3 * i + j)) 3) (j + 1)) from by dsimp only; rw [show 3 * i + (j + 1) = (3 * i + j) + 1 from rfl, each_step hij])), (List.cons_eq_cons.2 ⟨(congrArg (fun z => ai z) (show (nth (lset (eachN a b (3 * i + j)) ((i : Int) * 3 + (j : Int)) ((⟨(nth a ((i : Int) * 3 + (j : Int)), nth b ((i : Int) * 3 + (j : Int))), hk1, hk2⟩ : AddD).1.1 + (⟨(nth a ((i : Int) * 3 + (j : Int)), nth b ((i : Int) * 3 + (j : Int))), hk1, hk2⟩ : AddD).1.2)) 4) = ((fun j => nth (eachN a b (3 * i + j)) 4) (j + 1)) from by dsimp only; rw [show 3 * i + (j + 1) = (3 * i + j) + 1 from rfl, each_step hij])), (List.cons_eq_cons.2 ⟨(congrArg (fun z => ai z) (show (nth (lset (eachN a b (3 * i + j)) ((i : Int) * 3 + (j : Int)) ((⟨(nth a ((i : Int) * 3 + (j : Int)), nth b ((i : Int) * 3 + (j : Int))), hk1, hk2⟩ : AddD).1.1 + (⟨(nth a ((i : Int) * 3 + (j : Int)), nth b ((i : Int) * 3 + (j : Int))), hk1, hk2⟩ : AddD).1.2)) 5) = ((fun j => nth (eachN a b (3 * i + j)) 5) (j + 1)) from by dsimp only; rw [show 3 * i + (j + 1) = (3 * i + j) + 1 from rfl, each_step hij])), (List.cons_eq_cons.2 ⟨(congrArg (fun z => ai z) (show (nth (lset (eachN a b (3 * i + j)) ((i : Int) * 3 + (j : Int)) ((⟨(nth a ((i : Int) * 3 + (j : Int)), nth b ((i : Int) * 3 + (j : Int))), hk1, hk2⟩ : AddD).1.1 + (⟨(nth a ((i : Int) * 3 + (j : Int)), nth b ((i : Int) * 3 + (j : Int))), hk1, hk2⟩ : AddD).1.2)) 6) = ((fun j => nth (eachN a b (3 * i + j)) 6) (j + 1)) from by dsimp only; rw [show 3 * i + (j + 1) = (3 * i + j) + 1 from rfl, each_step hij])), (List.cons_eq_cons.2 ⟨(congrArg (fun z => ai z) (show (nth (lset (eachN a b (3 * i + j)) ((i : Int) * 3 + (j : Int)) ((⟨(nth a ((i : Int) * 3 + (j : Int)), nth b ((i : Int) * 3 + (j : Int))), hk1, hk2⟩ : AddD).1.1 + (⟨(nth a ((i : Int) * 3 + (j : Int)), nth b ((i : Int) * 3 + (j : Int))), hk1, hk2⟩ : AddD).1.2)) 7) = ((fun j => nth (eachN a b (3 * i + j)) 7) (j + 1)) from by dsimp only; rw [show 3 * i + (j + 1) = (3 * i + j) + 1 from rfl, each_step hij])), (List.cons_eq_cons.2 ⟨(congrArg (fun z => ai z) (show (nth (lset (eachN a b (3 * i + j)) ((i : Int) * 3 + (j : Int)) ((⟨(nth a ((i : Int) * 3 + (j : Int)), nth b ((i : Int) * 3 + (j : Int))), hk1, hk2⟩ : AddD).1.1 + (⟨(nth a ((i : Int) * 3 + (j : Int)), nth b ((i : Int) * 3 + (j : Int))), hk1, hk2⟩ : AddD).1.2)) 8) = ((fun j => nth (eachN a b (3 * i + j)) 8) (j + 1)) from by dsimp only; rw [show 3 * i + (j + 1) = (3 * i + j) + 1 from rfl, each_step hij])), (List.cons_eq_cons.2 ⟨(congrArg (fun z => ai z) (show (nth (lset (eachN a b (3 * i + j)) ((i : Int) * 3 + (j : Int)) ((⟨(nth a ((i : Int) * 3 + (j : Int)), nth b ((i : Int) * 3 + (j : Int))), hk1, hk2⟩ : AddD).1.1 + (⟨(nth a ((i : Int) * 3 + (j : Int)), nth b ((i : Int) * 3 + (j : Int))), hk1, hk2⟩ : AddD).1.2)) 9) = ((fun j => nth (eachN a b (3 * i + j)) 9) (j + 1)) from by dsimp only; rw [show 3 * i + (j + 1) = (3 * i + j) + 1 from rfl, each_step hij])), (List.cons_eq_cons.2 ⟨(congrArg (fun z => ai z) (show (nth (lset (eachN a b (3 * i + j)) ((i : Int) * 3 + (j : Int)) ((⟨(nth a ((i : Int) * 3 + (j : Int)), nth b ((i : Int) * 3 + (j : Int))), hk1, hk2⟩ : AddD).1.1 + (⟨(nth a ((i : Int) * 3 + (j : Int)), nth b ((i : Int) * 3 + (j : Int))), hk1, hk2⟩ : AddD).1.2)) 10) = ((fun j => nth (eachN a b (3 * i + j)) 10) (j + 1)) from by dsimp only; rw [show 3 * i + (j + 1) = (3 * i + j) + 1 from rfl, each_step hij])), (List.cons_eq_cons.2 ⟨(congrArg (fun z => ai z) (show (nth (lset (eachN a b (3 * i + j)) ((i : Int) * 3 + (j : Int)) ((⟨(nth a ((i : Int) * 3 + (j : Int)), nth b ((i : Int) * 3 + (j : Int))), hk1, hk2⟩ : AddD).1.1 + (⟨(nth a ((i : Int) * 3 + (j : Int)), nth b ((i : Int) * 3 + (j : Int))), hk1, hk2⟩ : AddD).1.2)) 11) = ((fun j => nth (eachN a b (3 * i + j)) 11) (j + 1)) from by dsimp only; rw [show 3 * i + (j + 1) = (3 * i + j) + 1 from rfl, each_step hij])), (Eq.refl [])⟩)⟩)⟩)⟩)⟩)⟩)⟩)⟩)⟩)⟩)⟩)⟩)), trivial⟩ rfl rfl rfl rfl rfl)
    · try simp only [cnd] at hc2
      refine WP.exit (EX.exit_then (EX.exit_then (EX.exit_blk (EX.blk (EX.then (WP.region ?_))))))
      refine WPl.v rfl (o_add rfl rfl (by first | omega | (simp; omega)) (by first | omega | (simp; omega))) ?_
      refine WPl.v rfl (o_move rfl) ?_
      refine WPl.nil ?_
      have hje : j = 3 := by omega
      refine EX.again (i + 1) id (by first | omega | (constructor <;> omega)) (by omega) (LeR.of ⟨rfl, rfl, rfl, rfl, rfl, trivial⟩ ⟨(lx rfl), trivial⟩ ⟨rfl, rfl, (congrArg (fun z => some (Ent.blk z 123)) (List.cons_eq_cons.2 ⟨(congrArg (fun z => ai z) (show (nth (eachN a b (3 * i + j)) 0) = ((fun i => nth (eachN a b (3 * i)) 0) (i + 1)) from by dsimp only; rw [show 3 * i + j = 3 * (i + 1) by omega])), (List.cons_eq_cons.2 ⟨(congrArg (fun z => ai z) (show (nth (eachN a b (3 * i + j)) 1) = ((fun i => nth (eachN a b (3 * i)) 1) (i + 1)) from by dsimp only; rw [show 3 * i + j = 3 * (i + 1) by omega])), (List.cons_eq_cons.2 ⟨(congrArg (fun z => ai z) (show (nth (eachN a b (3 * i + j)) 2) = ((fun i => nth (eachN a b (3 * i)) 2) (i + 1)) from by dsimp only; rw [show 3 * i + j = 3 * (i + 1) by omega])), (List.cons_eq_cons.2 ⟨(congrArg (fun z => ai z) (show (nth (eachN a b (3 * i + j)) 3) = ((fun i => nth (eachN a b (3 * i)) 3) (i + 1)) from by dsimp only; rw [show 3 * i + j = 3 * (i + 1) by omega])), (List.cons_eq_cons.2 ⟨(congrArg (fun z => ai z) (show (nth (eachN a b (3 * i + j)) 4) = ((fun i => nth (eachN a b (3 * i)) 4) (i + 1)) from by dsimp only; rw [show 3 * i + j = 3 * (i + 1) by omega])), (List.cons_eq_cons.2 ⟨(congrArg (fun z => ai z) (show (nth (eachN a b (3 * i + j)) 5) = ((fun i => nth (eachN a b (3 * i)) 5) (i + 1)) from by dsimp only; rw [show 3 * i + j = 3 * (i + 1) by omega])), (List.cons_eq_cons.2 ⟨(congrArg (fun z => ai z) (show (nth (eachN a b (3 * i + j)) 6) = ((fun i => nth (eachN a b (3 * i)) 6) (i + 1)) from by dsimp only; rw [show 3 * i + j = 3 * (i + 1) by omega])), (List.cons_eq_cons.2 ⟨(congrArg (fun z => ai z) (show (nth (eachN a b (3 * i + j)) 7) = ((fun i => nth (eachN a b (3 * i)) 7) (i + 1)) from by dsimp only; rw [show 3 * i + j = 3 * (i + 1) by omega])), (List.cons_eq_cons.2 ⟨(congrArg (fun z => ai z) (show (nth (eachN a b (3 * i + j)) 8) = ((fun i => nth (eachN a b (3 * i)) 8) (i + 1)) from by dsimp only; rw [show 3 * i + j = 3 * (i + 1) by omega])), (List.cons_eq_cons.2 ⟨(congrArg (fun z => ai z) (show (nth (eachN a b (3 * i + j)) 9) = ((fun i => nth (eachN a b (3 * i)) 9) (i + 1)) from by dsimp only; rw [show 3 * i + j = 3 * (i + 1) by omega])), (List.cons_eq_cons.2 ⟨(congrArg (fun z => ai z) (show (nth (eachN a b (3 * i + j)) 10) = ((fun i => nth (eachN a b (3 * i)) 10) (i + 1)) from by dsimp only; rw [show 3 * i + j = 3 * (i + 1) by omega])), (List.cons_eq_cons.2 ⟨(congrArg (fun z => ai z) (show (nth (eachN a b (3 * i + j)) 11) = ((fun i => nth (eachN a b (3 * i)) 11) (i + 1)) from by dsimp only; rw [show 3 * i + j = 3 * (i + 1) by omega])), (Eq.refl [])⟩)⟩)⟩)⟩)⟩)⟩)⟩)⟩)⟩)⟩)⟩)⟩)), trivial⟩ rfl rfl rfl rfl rfl)
  · try simp only [cnd] at hc1
    refine WP.exit (EX.exit_then (EX.exit_then (EX.exit_blk (EX.then (WP.seq (WP.region ?_))))))
    refine WPl.v rfl (o_ldpa G123 rfl rfl rfl) ?_
    refine WPl.s1 (o_stag G123 rfl rfl rfl ⟨rfl, rfl, rfl, rfl, rfl, rfl, rfl, rfl, rfl, rfl, rfl, rfl, trivial⟩ rfl rfl) ?_
    refine WPl.nil (EX.then (WP.ret ?_))
    have hie : i = 4 := by omega
    subst hie
    exact EX.fin id (.inl rfl) rfl (.cellg G123 rfl rfl rfl (.nil)) rfl (by simp [SV.res, El.res, At.res, keys]) trivial (by simp) (by simp)
theorem w128 {h : Hall} {p : Plan} : ∀ x ∈ ([.e (.g [.q 0, .q 1, .q 2, ai (h.change), .q 3, .q 4]), .e (.a (.q 5))] : List SV), x.res (keys (α := Pred) [(0, PL ETm (h.machs)), (1, PL EBd (h.buns)), (2, PL EP.int (h.trains)), (3, PL EP.int (h.bores)), (4, PL (EP.sl EP.int) (h.eds)), (5, PL (EP.sl EP.int) (p))]) := by simp [SV.res, El.res, At.res, keys]
theorem r128 {h : Hall} {p : Plan} : SV.res (keys (α := Pred) []) (.e (.g [ai (nth (needL h p) 0), ai (nth (needL h p) 1), ai (nth (needL h p) 2), ai (nth (needL h p) 3), ai (nth (needL h p) 4), ai (nth (needL h p) 5), ai (nth (needL h p) 6), ai (nth (needL h p) 7), ai (nth (needL h p) 8), ai (nth (needL h p) 9), ai (nth (needL h p) 10), ai (nth (needL h p) 11)])) := by simp [SV.res, El.res, At.res, keys]
set_option maxHeartbeats 4000000 in
theorem c128 (h : Hall) (p : Plan) (hm : h.Small) (hc : h.chk = true) (hp : isPlanR h p = true) (hr : RowsP p) : Sig Tryz.prog 128 [.e (.g [.q 0, .q 1, .q 2, ai (h.change), .q 3, .q 4]), .e (.a (.q 5))] [(0, PL ETm (h.machs)), (1, PL EBd (h.buns)), (2, PL EP.int (h.trains)), (3, PL EP.int (h.bores)), (4, PL (EP.sl EP.int) (h.eds)), (5, PL (EP.sl EP.int) (p))] (.e (.g [ai (nth (needL h p) 0), ai (nth (needL h p) 1), ai (nth (needL h p) 2), ai (nth (needL h p) 3), ai (nth (needL h p) 4), ai (nth (needL h p) 5), ai (nth (needL h p) 6), ai (nth (needL h p) 7), ai (nth (needL h p) 8), ai (nth (needL h p) 9), ai (nth (needL h p) 10), ai (nth (needL h p) 11)])) [] := by
  have hC := hallC hc
  have hP := planQ hp
  have hn := hr.n
  have hpn := hP.n
  have hbo := hC.o
  have hm3 := hC.m
  refine Sig.intro Tryz.func128 rfl 6 [(0, .e (.g [.q 0, .q 1, .q 2, ai (h.change), .q 3, .q 4])), (1, .e (.a (.q 5)))] rfl w128 rfl rfl fun I w => ?_
  refine WP.seq (WP.region ?_)
  refine WPl.l 6 7 rfl rfl rfl (o_boxg rfl) ?_
  refine WPl.l 7 8 rfl rfl rfl (o_alloc Z123) ?_
  refine WPl.nil (EX.then (WP.seq (WP.seq (WP.region ?_))))
  refine WPl.v rfl (o_move rfl) ?_
  refine WPl.v rfl (o_lenq L27 rfl (lx rfl)) ?_
  refine WPl.v rfl (o_move rfl) ?_
  refine WPl.nil (EX.then (WP.block ?_))
  refine WP.loop (Gh := Nat) (fun i => ⟨8, [(2, .e (.a (.p 6 (0)))), (4, .e (.a (.p 7 (0)))), (12, .e (.a (.q 5))), (13, .i ((p.length : Int))), (14, .i ((i : Int)))], [(0, PL ETm (h.machs)), (1, PL EBd (h.buns)), (2, PL EP.int (h.trains)), (3, PL EP.int (h.bores)), (4, PL (EP.sl EP.int) (h.eds)), (5, PL (EP.sl EP.int) (p))], [(6, .blk [.q 0, .q 1, .q 2, ai (h.change), .q 3, .q 4] 117), (7, .blk [ai (nth (needTo h p i) 0), ai (nth (needTo h p i) 1), ai (nth (needTo h p i) 2), ai (nth (needTo h p i) 3), ai (nth (needTo h p i) 4), ai (nth (needTo h p i) 5), ai (nth (needTo h p i) 6), ai (nth (needTo h p i) 7), ai (nth (needTo h p i) 8), ai (nth (needTo h p i) 9), ai (nth (needTo h p i) 10), ai (nth (needTo h p i) 11)] 123)], [], []⟩) (fun i => i ≤ p.length) (fun i => p.length - i) (0) id ?_ (LeR.of ⟨rfl, rfl, rfl, rfl, rfl, trivial⟩ ⟨(lx rfl), (lx rfl), (lx rfl), (lx rfl), (lx rfl), (lx rfl), trivial⟩ ⟨rfl, rfl, trivial⟩ rfl rfl rfl rfl rfl) ?_
  · first | trivial | omega | (constructor <;> omega) | simp
  intro i hφ
  have hi : i ≤ p.length := hφ
  refine WP.seq (WP.region ?_)
  refine WPl.v rfl (o_lss rfl rfl) ?_
  refine WPl.nil (EX.then (WP.seq ?_))
  refine WP.cond rfl (fun hc1 => ?_) (fun hc1 => ?_)
  · try simp only [cnd] at hc1
    have hri := hr.r i (by omega)
    have hbi := hC.b i (by omega)
    refine WP.skip (EX.then (WP.seq (WP.block (WP.seq (WP.region ?_)))))
    refine WPl.v rfl (o_move rfl) ?_
    refine WPl.x 8 9 rfl rfl rfl (o_idx L27 rfl (lx rfl) rfl (by first | omega | (simp; omega)) (by first | omega | (simp; omega))) ?_
    refine WPl.x 9 10 rfl rfl rfl (o_ldqx S24 rfl (lx rfl) slx) ?_
    refine WPl.v rfl (o_assign rfl) ?_
    refine WPl.v rfl (o_assign rfl) ?_
    refine WPl.nil (EX.then (WP.seq (WP.region ?_)))
    refine WPl.l 10 11 rfl rfl rfl (o_alloc Z123) ?_
    refine WPl.nil (EX.then (WP.seq (WP.seq (WP.region ?_))))
    refine WPl.v rfl (o_move rfl) ?_
    refine WPl.v rfl (o_lenq L24 rfl (lx rfl)) ?_
    refine WPl.v rfl (o_move rfl) ?_
    refine WPl.nil (EX.then (WP.block ?_))
    refine WP.loop (Gh := Nat) (fun j => ⟨11, [(2, .e (.a (.p 6 (0)))), (4, .e (.a (.p 7 (0)))), (12, .e (.a (.q 5))), (13, .i ((p.length : Int))), (14, .i ((i : Int))), (15, .b (decide ((i : Int) < (p.length : Int)))), (16, .i ((i : Int))), (17, .e (.a (.q 8))), (18, .e (.a (.q 9))), (5, .i ((i : Int))), (6, .e (.a (.q 9))), (7, .e (.a (.p 10 (0)))), (19, .e (.a (.q 9))), (20, .i (((nth p (i : Int)).length : Int))), (21, .i ((j : Int)))], [(0, PL ETm (h.machs)), (1, PL EBd (h.buns)), (2, PL EP.int (h.trains)), (3, PL EP.int (h.bores)), (4, PL (EP.sl EP.int) (h.eds)), (5, PL (EP.sl EP.int) (p)), (8, PP (EP.sl EP.int) (nth p (i : Int))), (9, PL EP.int (nth p (i : Int)))], [(6, .blk [.q 0, .q 1, .q 2, ai (h.change), .q 3, .q 4] 117), (7, .blk [ai (nth (needTo h p i) 0), ai (nth (needTo h p i) 1), ai (nth (needTo h p i) 2), ai (nth (needTo h p i) 3), ai (nth (needTo h p i) 4), ai (nth (needTo h p i) 5), ai (nth (needTo h p i) 6), ai (nth (needTo h p i) 7), ai (nth (needTo h p i) 8), ai (nth (needTo h p i) 9), ai (nth (needTo h p i) 10), ai (nth (needTo h p i) 11)] 123), (10, .blk [ai (nth (rowTo h p i j) 0), ai (nth (rowTo h p i j) 1), ai (nth (rowTo h p i j) 2), ai (nth (rowTo h p i j) 3), ai (nth (rowTo h p i j) 4), ai (nth (rowTo h p i j) 5), ai (nth (rowTo h p i j) 6), ai (nth (rowTo h p i j) 7), ai (nth (rowTo h p i j) 8), ai (nth (rowTo h p i j) 9), ai (nth (rowTo h p i j) 10), ai (nth (rowTo h p i j) 11)] 123)], [], []⟩) (fun j => j ≤ (nth p (i : Int)).length) (fun j => (nth p (i : Int)).length - j) (0) id ?_ (LeR.of ⟨rfl, rfl, rfl, rfl, rfl, rfl, rfl, rfl, rfl, rfl, rfl, rfl, rfl, rfl, rfl, trivial⟩ ⟨(lx rfl), (lx rfl), (lx rfl), (lx rfl), (lx rfl), (lx rfl), (lx rfl), (lx rfl), trivial⟩ ⟨rfl, rfl, rfl, trivial⟩ rfl rfl rfl rfl rfl) ?_
    · first | trivial | omega | (constructor <;> omega) | simp
    intro j hφ
    have hj : j ≤ (nth p (i : Int)).length := hφ
    refine WP.seq (WP.region ?_)
    refine WPl.v rfl (o_lss rfl rfl) ?_
    refine WPl.nil (EX.then (WP.seq ?_))
    refine WP.cond rfl (fun hc2 => ?_) (fun hc2 => ?_)
    · try simp only [cnd] at hc2
      have hx := hP.b i (by omega) j (by omega)
      have hxe := hC.ed _ hx.1 hx.2
      have hpl := hm.p (nth h.buns (nth (nth p (i : Int)) (j : Int))).edition.toNat (by omega)
      rw [show (((nth h.buns (nth (nth p (i : Int)) (j : Int))).edition.toNat : Nat) : Int) = (nth h.buns (nth (nth p (i : Int)) (j : Int))).edition by omega] at hpl
      refine WP.skip (EX.then (WP.seq (WP.block (WP.seq (WP.region ?_)))))
      refine WPl.x 11 12 rfl rfl rfl (o_idx L24 rfl (lx rfl) rfl (by first | omega | (simp; omega)) (by first | omega | (simp; omega))) ?_
      refine WPl.v rfl (o_ldq S3 rfl (lx rfl) intc) ?_
      refine WPl.v rfl (o_assign rfl) ?_
      refine WPl.nil (EX.then (WP.seq ?_))
      refine WP.draw (nf := 15) [⟨[28, 29, 30, 31, 32, 33, 34, 35, 39], [12], [], [], []⟩, ⟨[28, 29, 30, 31, 32, 33, 34, 35, 39], [12], [], [], [0]⟩, ⟨[28, 29, 30, 31, 32, 33, 34, 35, 39], [12], [], [], [0, 1]⟩, ⟨[25, 26, 27, 32, 39], [], [], [], []⟩, ⟨[25, 26, 27, 32, 39], [], [], [], [3]⟩, ⟨[25, 26, 27, 32, 39], [], [], [], [3, 4]⟩, ⟨[25, 26, 27, 32, 39], [], [], [], [3, 4, 5]⟩, ⟨[25, 26, 27, 28, 29, 30, 31, 39], [], [], [], []⟩, ⟨[25, 26, 27, 39], [], [12], [12], [3, 4, 5, 6, 7]⟩, ⟨[25, 26, 27, 39], [], [], [], [3, 4, 5, 6, 7, 8]⟩, ⟨[25, 26, 27, 39], [], [], [], [3, 4, 5, 6, 7, 8, 9]⟩, ⟨[39], [], [13], [13], [0, 1, 2, 3, 4, 5, 6, 7, 8, 9, 10]⟩, ⟨[39], [], [14], [14], [0, 1, 2, 3, 4, 5, 6, 7, 8, 9, 10, 11]⟩, ⟨[39], [], [], [], [0, 1, 2, 3, 4, 5, 6, 7, 8, 9, 10, 11, 12]⟩, ⟨[25, 26, 27, 28, 29, 30, 31, 32, 33, 34, 35, 36, 37, 38], [12, 13, 14], [], [], []⟩] (by kernel_rfl) (by kernel_rfl) ?_
      refine DRQ.v rfl rfl rfl (o_fldp F117_0 rfl) ?_
      refine DRQ.v rfl rfl rfl (o_fldp F29_2 rfl) ?_
      refine DRQ.v rfl rfl rfl (o_ldp S27 rfl rfl rfl) ?_
      refine DRQ.v rfl rfl rfl (o_fldp F117_0 rfl) ?_
      refine DRQ.v rfl rfl rfl (o_fldp F29_0 rfl) ?_
      refine DRQ.v rfl rfl rfl (o_fldp F26_1 rfl) ?_
      refine DRQ.v rfl rfl rfl (o_ldp S23 rfl rfl rfl) ?_
      refine DRQ.v rfl rfl rfl (o_move rfl) ?_
      refine DRQ.x 12 rfl rfl rfl rfl (o_idx L23 rfl (lx rfl) rfl (by first | omega | (simp; omega)) (by first | omega | (simp; omega))) ?_
      refine DRQ.v rfl rfl rfl (o_fldq F95_2 rfl (lx rfl)) ?_
      refine DRQ.v rfl rfl rfl (o_lde S3 rfl (lx rfl) (strI rfl)) ?_
      refine DRQ.x 13 rfl rfl rfl rfl (o_idx L27 rfl (lx rfl) rfl (by first | omega | (simp; omega)) (by first | omega | (simp; omega))) ?_
      refine DRQ.x 14 rfl rfl rfl rfl (o_ldqx S24 rfl (lx rfl) slx) ?_
      refine DRQ.v rfl rfl rfl (o_lenq L24 rfl (lx rfl)) ?_
      refine DRQ.v rfl rfl rfl (o_move rfl) ?_
      refine DRQ.nil' ?_
      refine EX.then (WP.block ?_)
      refine WP.loop (Gh := Nat) (fun k => ⟨15, [(2, .e (.a (.p 6 (0)))), (4, .e (.a (.p 7 (0)))), (12, .e (.a (.q 5))), (13, .i ((p.length : Int))), (14, .i ((i : Int))), (15, .b (decide ((i : Int) < (p.length : Int)))), (16, .i ((i : Int))), (17, .e (.a (.q 8))), (18, .e (.a (.q 9))), (5, .i ((i : Int))), (6, .e (.a (.q 9))), (7, .e (.a (.p 10 (0)))), (19, .e (.a (.q 9))), (20, .i (((nth p (i : Int)).length : Int))), (21, .i ((j : Int))), (22, .b (decide ((j : Int) < ((nth p (i : Int)).length : Int)))), (23, .e (.a (.q 11))), (24, .i (nth (nth p (i : Int)) (j : Int))), (9, .i (nth (nth p (i : Int)) (j : Int))), (25, .e (.a (.p 6 (0)))), (26, .e (.a (.p 6 (5)))), (27, .e (.a (.q 4))), (28, .e (.a (.p 6 (0)))), (29, .e (.a (.p 6 (0)))), (30, .e (.a (.p 6 (1)))), (31, .e (.a (.q 1))), (32, .i (nth (nth p (i : Int)) (j : Int))), (33, .e (.a (.q 12))), (34, .e (.a (.e 12 (2)))), (35, .i ((nth h.buns (nth (nth p (i : Int)) (j : Int))).edition)), (36, .e (.a (.q 13))), (37, .e (.a (.q 14))), (38, .i (((nth h.eds ((nth h.buns (nth (nth p (i : Int)) (j : Int))).edition)).length : Int))), (39, .i ((k : Int)))], [(0, PL ETm (h.machs)), (1, PL EBd (h.buns)), (2, PL EP.int (h.trains)), (3, PL EP.int (h.bores)), (4, PL (EP.sl EP.int) (h.eds)), (5, PL (EP.sl EP.int) (p)), (8, PP (EP.sl EP.int) (nth p (i : Int))), (9, PL EP.int (nth p (i : Int))), (11, PP EP.int (nth (nth p (i : Int)) (j : Int))), (12, PP EBd (nth h.buns (nth (nth p (i : Int)) (j : Int)))), (13, PP (EP.sl EP.int) (nth h.eds ((nth h.buns (nth (nth p (i : Int)) (j : Int))).edition))), (14, PL EP.int (nth h.eds ((nth h.buns (nth (nth p (i : Int)) (j : Int))).edition)))], [(6, .blk [.q 0, .q 1, .q 2, ai (h.change), .q 3, .q 4] 117), (7, .blk [ai (nth (needTo h p i) 0), ai (nth (needTo h p i) 1), ai (nth (needTo h p i) 2), ai (nth (needTo h p i) 3), ai (nth (needTo h p i) 4), ai (nth (needTo h p i) 5), ai (nth (needTo h p i) 6), ai (nth (needTo h p i) 7), ai (nth (needTo h p i) 8), ai (nth (needTo h p i) 9), ai (nth (needTo h p i) 10), ai (nth (needTo h p i) 11)] 123), (10, .blk [ai (nth (setPg (rowTo h p i j) (nth h.eds (nth h.buns (nth (nth p (i : Int)) (j : Int))).edition) (nth h.bores (i : Int)) k) 0), ai (nth (setPg (rowTo h p i j) (nth h.eds (nth h.buns (nth (nth p (i : Int)) (j : Int))).edition) (nth h.bores (i : Int)) k) 1), ai (nth (setPg (rowTo h p i j) (nth h.eds (nth h.buns (nth (nth p (i : Int)) (j : Int))).edition) (nth h.bores (i : Int)) k) 2), ai (nth (setPg (rowTo h p i j) (nth h.eds (nth h.buns (nth (nth p (i : Int)) (j : Int))).edition) (nth h.bores (i : Int)) k) 3), ai (nth (setPg (rowTo h p i j) (nth h.eds (nth h.buns (nth (nth p (i : Int)) (j : Int))).edition) (nth h.bores (i : Int)) k) 4), ai (nth (setPg (rowTo h p i j) (nth h.eds (nth h.buns (nth (nth p (i : Int)) (j : Int))).edition) (nth h.bores (i : Int)) k) 5), ai (nth (setPg (rowTo h p i j) (nth h.eds (nth h.buns (nth (nth p (i : Int)) (j : Int))).edition) (nth h.bores (i : Int)) k) 6), ai (nth (setPg (rowTo h p i j) (nth h.eds (nth h.buns (nth (nth p (i : Int)) (j : Int))).edition) (nth h.bores (i : Int)) k) 7), ai (nth (setPg (rowTo h p i j) (nth h.eds (nth h.buns (nth (nth p (i : Int)) (j : Int))).edition) (nth h.bores (i : Int)) k) 8), ai (nth (setPg (rowTo h p i j) (nth h.eds (nth h.buns (nth (nth p (i : Int)) (j : Int))).edition) (nth h.bores (i : Int)) k) 9), ai (nth (setPg (rowTo h p i j) (nth h.eds (nth h.buns (nth (nth p (i : Int)) (j : Int))).edition) (nth h.bores (i : Int)) k) 10), ai (nth (setPg (rowTo h p i j) (nth h.eds (nth h.buns (nth (nth p (i : Int)) (j : Int))).edition) (nth h.bores (i : Int)) k) 11)] 123)], [], []⟩) (fun k => k ≤ (nth h.eds (nth h.buns (nth (nth p (i : Int)) (j : Int))).edition).length) (fun k => (nth h.eds (nth h.buns (nth (nth p (i : Int)) (j : Int))).edition).length - k) (0) id ?_ (LeR.of ⟨rfl, rfl, rfl, rfl, rfl, rfl, rfl, rfl, rfl, rfl, rfl, rfl, rfl, rfl, rfl, rfl, rfl, rfl, rfl, rfl, rfl, rfl, rfl, rfl, rfl, rfl, rfl, rfl, rfl, rfl, rfl, rfl, rfl, rfl, trivial⟩ ⟨(lx rfl), (lx rfl), (lx rfl), (lx rfl), (lx rfl), (lx rfl), (lx rfl), (lx rfl), (lx rfl), (lx rfl), (lx rfl), (lx rfl), trivial⟩ ⟨rfl, rfl, rfl, trivial⟩ rfl rfl rfl rfl rfl) ?_
      · first | trivial | omega | (constructor <;> omega) | simp
      intro k hφ
      have hk : k ≤ (nth h.eds (nth h.buns (nth (nth p (i : Int)) (j : Int))).edition).length := hφ
      refine WP.seq (WP.region ?_)
      refine WPl.v rfl (o_lss rfl rfl) ?_
      refine WPl.nil (EX.then (WP.seq ?_))
      refine WP.cond rfl (fun hc3 => ?_) (fun hc3 => ?_)
      · try simp only [cnd] at hc3
        have hpg : 0 ≤ nth (nth h.eds (nth h.buns (nth (nth p (i : Int)) (j : Int))).edition) (k : Int) ∧ nth (nth h.eds (nth h.buns (nth (nth p (i : Int)) (j : Int))).edition) (k : Int) < 4 := edOf_in hC hx.1 hx.2 k (show k < (nth h.eds (nth h.buns (nth (nth p (i : Int)) (j : Int))).edition).length by omega)
        refine WP.skip (EX.then (WP.seq (WP.block (WP.seq (WP.region ?_)))))
        refine WPl.x 15 16 rfl rfl rfl (o_idx L24 rfl (lx rfl) rfl (by first | omega | (simp; omega)) (by first | omega | (simp; omega))) ?_
        refine WPl.v rfl (o_ldq S3 rfl (lx rfl) intc) ?_
        refine WPl.v rfl (o_assign rfl) ?_
        refine WPl.nil (EX.then ?_)
        refine WP.draw (nf := 17) [⟨[44, 45, 46, 47, 48, 49], [16], [], [], []⟩, ⟨[43, 47, 50], [], [], [], []⟩, ⟨[43, 47, 50], [], [], [], [1]⟩, ⟨[43, 47, 50], [], [], [], [1, 2]⟩, ⟨[43, 44, 45, 46, 50], [], [], [], []⟩, ⟨[43, 50], [], [16], [16], [1, 2, 3, 4]⟩, ⟨[43, 50], [], [], [], [1, 2, 3, 4, 5]⟩, ⟨[44, 45, 46, 47, 48, 49], [16], [], [], [0]⟩, ⟨[], [], [], [], [0, 1, 2, 3, 4, 5, 6, 7]⟩, ⟨[], [], [], [10], [0, 1, 2, 3, 4, 5, 6, 7, 8]⟩] (by kernel_rfl) (by kernel_rfl) ?_
        refine DRQ.v rfl rfl rfl (o_move rfl) ?_
        refine DRQ.v rfl rfl rfl (o_fldp F117_0 rfl) ?_
        refine DRQ.v rfl rfl rfl (o_fldp F29_1 rfl) ?_
        refine DRQ.v rfl rfl rfl (o_ldp S24 rfl rfl rfl) ?_
        refine DRQ.v rfl rfl rfl (o_move rfl) ?_
        refine DRQ.x 16 rfl rfl rfl rfl (o_idx L24 rfl (lx rfl) rfl (by first | omega | (simp; omega)) (by first | omega | (simp; omega))) ?_
        refine DRQ.v rfl rfl rfl (o_ldq S3 rfl (lx rfl) intc) ?_
        refine DRQ.v rfl rfl rfl (o_idxpr A123 rfl rfl (by first | omega | (simp; omega)) (by first | omega | (simp; omega))) ?_
        refine DRQ.v rfl rfl rfl (o_idxpc ((nth (nth h.eds ((nth h.buns (nth (nth p (i : Int)) (j : Int))).edition)) (k : Int)) * 3 + (nth h.bores (i : Int))) A121 rfl rfl (by first | omega | (simp; omega)) (by first | omega | (simp; omega)) (by omega)) ?_
        refine DRQ.s 10 rfl rfl rfl (o_stpn (n := 12) (l := setPg (rowTo h p i j) (nth h.eds (nth h.buns (nth (nth p (i : Int)) (j : Int))).edition) (nth h.bores (i : Int)) k) (cs' := [ai (nth (lset (setPg (rowTo h p i j) (nth h.eds (nth h.buns (nth (nth p (i : Int)) (j : Int))).edition) (nth h.bores (i : Int)) k) ((nth (nth h.eds ((nth h.buns (nth (nth p (i : Int)) (j : Int))).edition)) (k : Int)) * 3 + (nth h.bores (i : Int))) 1) 0), ai (nth (lset (setPg (rowTo h p i j) (nth h.eds (nth h.buns (nth (nth p (i : Int)) (j : Int))).edition) (nth h.bores (i : Int)) k) ((nth (nth h.eds ((nth h.buns (nth (nth p (i : Int)) (j : Int))).edition)) (k : Int)) * 3 + (nth h.bores (i : Int))) 1) 1), ai (nth (lset (setPg (rowTo h p i j) (nth h.eds (nth h.buns (nth (nth p (i : Int)) (j : Int))).edition) (nth h.bores (i : Int)) k) ((nth (nth h.eds ((nth h.buns (nth (nth p (i : Int)) (j : Int))).edition)) (k : Int)) * 3 + (nth h.bores (i : Int))) 1) 2), ai (nth (lset (setPg (rowTo h p i j) (nth h.eds (nth h.buns (nth (nth p (i : Int)) (j : Int))).edition) (nth h.bores (i : Int)) k) ((nth (nth h.eds ((nth h.buns (nth (nth p (i : Int)) (j : Int))).edition)) (k : Int)) * 3 + (nth h.bores (i : Int))) 1) 3), ai (nth (lset (setPg (rowTo h p i j) (nth h.eds (nth h.buns (nth (nth p (i : Int)) (j : Int))).edition) (nth h.bores (i : Int)) k) ((nth (nth h.eds ((nth h.buns (nth (nth p (i : Int)) (j : Int))).edition)) (k : Int)) * 3 + (nth h.bores (i : Int))) 1) 4), ai (nth (lset (setPg (rowTo h p i j) (nth h.eds (nth h.buns (nth (nth p (i : Int)) (j : Int))).edition) (nth h.bores (i : Int)) k) ((nth (nth h.eds ((nth h.buns (nth (nth p (i : Int)) (j : Int))).edition)) (k : Int)) * 3 + (nth h.bores (i : Int))) 1) 5), ai (nth (lset (setPg (rowTo h p i j) (nth h.eds (nth h.buns (nth (nth p (i : Int)) (j : Int))).edition) (nth h.bores (i : Int)) k) ((nth (nth h.eds ((nth h.buns (nth (nth p (i : Int)) (j : Int))).edition)) (k : Int)) * 3 + (nth h.bores (i : Int))) 1) 6), ai (nth (lset (setPg (rowTo h p i j) (nth h.eds (nth h.buns (nth (nth p (i : Int)) (j : Int))).edition) (nth h.bores (i : Int)) k) ((nth (nth h.eds ((nth h.buns (nth (nth p (i : Int)) (j : Int))).edition)) (k : Int)) * 3 + (nth h.bores (i : Int))) 1) 7), ai (nth (lset (setPg (rowTo h p i j) (nth h.eds (nth h.buns (nth (nth p (i : Int)) (j : Int))).edition) (nth h.bores (i : Int)) k) ((nth (nth h.eds ((nth h.buns (nth (nth p (i : Int)) (j : Int))).edition)) (k : Int)) * 3 + (nth h.bores (i : Int))) 1) 8), ai (nth (lset (setPg (rowTo h p i j) (nth h.eds (nth h.buns (nth (nth p (i : Int)) (j : Int))).edition) (nth h.bores (i : Int)) k) ((nth (nth h.eds ((nth h.buns (nth (nth p (i : Int)) (j : Int))).edition)) (k : Int)) * 3 + (nth h.bores (i : Int))) 1) 9), ai (nth (lset (setPg (rowTo h p i j) (nth h.eds (nth h.buns (nth (nth p (i : Int)) (j : Int))).edition) (nth h.bores (i : Int)) k) ((nth (nth h.eds ((nth h.buns (nth (nth p (i : Int)) (j : Int))).edition)) (k : Int)) * 3 + (nth h.bores (i : Int))) 1) 10), ai (nth (lset (setPg (rowTo h p i j) (nth h.eds (nth h.buns (nth (nth p (i : Int)) (j : Int))).edition) (nth h.bores (i : Int)) k) ((nth (nth h.eds ((nth h.buns (nth (nth p (i : Int)) (j : Int))).edition)) (k : Int)) * 3 + (nth h.bores (i : Int))) 1) 11)]) S3 rfl rfl rfl rfl rfl (by rw [setPg_len, rowTo_len]) (by omega) (by omega)) ?_
        refine DRQ.nil' ?_
        refine EX.blk (EX.then (WP.region ?_))
        refine WPl.v rfl (o_add rfl rfl (by first | omega | (simp; omega)) (by first | omega | (simp; omega))) ?_
        refine WPl.v rfl (o_move rfl) ?_
        refine WPl.nil ?_
        refine EX.again (k + 1) id (by first | omega | (constructor <;> omega)) (by omega) (LeR.of ⟨rfl, rfl, rfl, rfl, rfl, rfl, rfl, rfl, rfl, rfl, rfl, rfl, rfl, rfl, rfl, rfl, rfl, rfl, rfl, rfl, rfl, rfl, rfl, rfl, rfl, rfl, rfl, rfl, rfl, rfl, rfl, rfl, rfl, rfl, trivial⟩ ⟨(lx rfl), (lx rfl), (lx rfl), (lx rfl), (lx rfl), (lx rfl), (lx rfl), (lx rfl), (lx rfl), (lx rfl), (lx rfl), (lx rfl), trivial⟩ ⟨rfl, rfl, rfl, trivial⟩ rfl rfl rfl rfl rfl)
      · try simp only [cnd] at hc3
        refine WP.exit (EX.exit_then (EX.exit_then (EX.exit_blk (EX.blk (EX.then (WP.region ?_))))))
        have hke : k = (nth h.eds (nth h.buns (nth (nth p (i : Int)) (j : Int))).edition).length := by omega
        rw [show setPg (rowTo h p i j) (nth h.eds (nth h.buns (nth (nth p (i : Int)) (j : Int))).edition) (nth h.bores (i : Int)) k = setPg (rowTo h p i j) (nth h.eds (nth h.buns (nth (nth p (i : Int)) (j : Int))).edition) (nth h.bores (i : Int)) (nth h.eds (nth h.buns (nth (nth p (i : Int)) (j : Int))).edition).length from by rw [← hke]]
        refine WPl.v rfl (o_add rfl rfl (by first | omega | (simp; omega)) (by first | omega | (simp; omega))) ?_
        refine WPl.v rfl (o_move rfl) ?_
        refine WPl.nil ?_
        refine EX.again (j + 1) id (by first | omega | (constructor <;> omega)) (by omega) (LeR.of ⟨rfl, rfl, rfl, rfl, rfl, rfl, rfl, rfl, rfl, rfl, rfl, rfl, rfl, rfl, rfl, trivial⟩ ⟨(lx rfl), (lx rfl), (lx rfl), (lx rfl), (lx rfl), (lx rfl), (lx rfl), (lx rfl), trivial⟩ ⟨rfl, rfl, rfl, trivial⟩ rfl rfl rfl rfl rfl)
    · try simp only [cnd] at hc2
      refine WP.exit (EX.exit_then (EX.exit_then (EX.exit_blk (EX.then (WP.region ?_)))))
      have hje : j = (nth p (i : Int)).length := by omega
      rw [show rowTo h p i j = rowTo h p i (nth p (i : Int)).length from by rw [← hje]]
      refine WPl.v rfl (o_ldpa G123 rfl rfl rfl) ?_
      refine WPl.v rfl (o_ldpa G123 rfl rfl rfl) ?_
      refine WPl.imp (Imp.nam 11 12 (.func (.func 151) #[] #[]) (R := (Add2).and (Pred.is (.func (.func 151) #[] #[]))) (fun I => FvP.namee (fun (o : AddD) => (c151 o.1.1 o.1.2 o.2.1 o.2.2)) e151 (fun _ => (by simp [SV.res, El.res, At.res, keys])) I) rfl rfl) ?_
      refine WPl.cs 12 rfl rfl rfl rfl (o_sigc 12 (ren [(0, 11)]) (c150 (needTo h p i) (rowTo h p i (nth p (i : Int)).length) (needTo_len h p i) (rowTo_len h p i _) (fun k hk => by have h1 := needTo_nth hC hP i (by omega) k hk; omega) (fun k hk => by rw [row_needs hC hP (show i < p.length by omega) hk]; split <;> omega)) e150 rfl rfl ⟨.inl rfl, .inl rfl, .inr ⟨_, _, rfl, fun _ => rfl, (lxr rfl)⟩, trivial⟩ w150 ⟨(lxl rfl), trivial⟩ r150) ?_
      refine WPl.s1 (o_stag G123 rfl rfl rfl ⟨rfl, rfl, rfl, rfl, rfl, rfl, rfl, rfl, rfl, rfl, rfl, rfl, trivial⟩ rfl rfl) ?_
      refine WPl.nil (EX.blk (EX.then (WP.region ?_)))
      refine WPl.v rfl (o_add rfl rfl (by first | omega | (simp; omega)) (by first | omega | (simp; omega))) ?_
      refine WPl.v rfl (o_move rfl) ?_
      refine WPl.nil ?_
      refine EX.again (i + 1) id (by first | omega | (constructor <;> omega)) (by omega) (LeR.of ⟨rfl, rfl, rfl, rfl, rfl, trivial⟩ ⟨(lx rfl), (lx rfl), (lx rfl), (lx rfl), (lx rfl), (lx rfl), trivial⟩ ⟨rfl, rfl, trivial⟩ rfl rfl rfl rfl rfl)
  · try simp only [cnd] at hc1
    refine WP.exit (EX.exit_then (EX.exit_then (EX.exit_blk (EX.then (WP.seq (WP.region ?_))))))
    refine WPl.v rfl (o_ldpa G123 rfl rfl rfl) ?_
    refine WPl.s1 (o_stag G123 rfl rfl rfl ⟨rfl, rfl, rfl, rfl, rfl, rfl, rfl, rfl, rfl, rfl, rfl, rfl, trivial⟩ rfl rfl) ?_
    refine WPl.nil (EX.then (WP.ret ?_))
    have hie : i = p.length := by omega
    subst hie
    rw [show needL h p = needTo h p p.length from rfl]
    exact EX.fin id (.inl rfl) rfl (.cellg G123 rfl rfl rfl (.nil)) rfl (by simp [SV.res, El.res, At.res, keys]) trivial (by simp) (by simp)
theorem w129 {L : List Int} : ∀ x ∈ ([.e (.g [ai (nth L 0), ai (nth L 1), ai (nth L 2), ai (nth L 3), ai (nth L 4), ai (nth L 5), ai (nth L 6), ai (nth L 7), ai (nth L 8), ai (nth L 9), ai (nth L 10), ai (nth L 11)])] : List SV), x.res (keys (α := Pred) []) := by simp [SV.res, El.res, At.res, keys]
theorem r129 {L : List Int} : SV.res (keys (α := Pred) [(0, PL EPl (setOf L))]) (.e (.a (.q 0))) := by simp [SV.res, El.res, At.res, keys]
set_option maxHeartbeats 4000000 in
theorem c129 (L : List Int) (hL : L.length = 12) : Sig Tryz.prog 129 [.e (.g [ai (nth L 0), ai (nth L 1), ai (nth L 2), ai (nth L 3), ai (nth L 4), ai (nth L 5), ai (nth L 6), ai (nth L 7), ai (nth L 8), ai (nth L 9), ai (nth L 10), ai (nth L 11)])] [] (.e (.a (.q 0))) [(0, PL EPl (setOf L))] := by
  refine Sig.intro Tryz.func129 rfl 0 [(0, .e (.g [ai (nth L 0), ai (nth L 1), ai (nth L 2), ai (nth L 3), ai (nth L 4), ai (nth L 5), ai (nth L 6), ai (nth L 7), ai (nth L 8), ai (nth L 9), ai (nth L 10), ai (nth L 11)]))] rfl w129 rfl rfl fun I w => ?_
  refine WP.seq (WP.region ?_)
  refine WPl.l 0 1 rfl rfl rfl (o_boxg rfl) ?_
  refine WPl.v rfl (o_assign rfl) ?_
  refine WPl.nil (EX.then (WP.seq (WP.region ?_)))
  refine WPl.v rfl (o_assign rfl) ?_
  refine WPl.imp (Imp.namo EPl 1 2 77 rfl rfl) ?_
  refine WPl.imp (Imp.swF 3 1 rfl (lx rfl)) ?_
  refine WPl.nil (EX.then (WP.seq (WP.seq (WP.region ?_))))
  refine WPl.v rfl (o_ldpa G123 rfl rfl rfl) ?_
  refine WPl.v rfl (o_move rfl) ?_
  refine WPl.nil (EX.then (WP.block ?_))
  refine WP.loop (Gh := Nat) (fun i => ⟨2, [(2, .e (.a (.v (.slice none 0 0)))), (3, .e (.a (.q 1))), (8, .e (.g [ai (nth L 0), ai (nth L 1), ai (nth L 2), ai (nth L 3), ai (nth L 4), ai (nth L 5), ai (nth L 6), ai (nth L 7), ai (nth L 8), ai (nth L 9), ai (nth L 10), ai (nth L 11)])), (9, .i ((i : Int)))], [], [(1, .own 77 EPl.size (setTo L (3 * i)).length (RP EPl (setTo L (3 * i))))], [], []⟩) (fun i => i ≤ 4) (fun i => 4 - i) (0) id ?_ (LeR.of ⟨rfl, rfl, rfl, rfl, trivial⟩ trivial ⟨rfl, trivial⟩ rfl rfl rfl rfl rfl) ?_
  · first | trivial | omega | (constructor <;> omega) | simp
  intro i hφ
  have hi : i ≤ 4 := hφ
  refine WP.seq (WP.region ?_)
  refine WPl.v rfl (o_lss rfl rfl) ?_
  refine WPl.nil (EX.then (WP.seq ?_))
  refine WP.cond rfl (fun hc1 => ?_) (fun hc1 => ?_)
  · try simp only [cnd] at hc1
    refine WP.skip (EX.then (WP.seq (WP.block (WP.seq (WP.region ?_)))))
    refine WPl.v rfl (o_move rfl) ?_
    refine WPl.v rfl (o_idxv Tryz.underlying123 G121 rfl rfl (by omega) (by omega) (row12 (by omega))) ?_
    refine WPl.l 2 3 rfl rfl rfl (o_alloc Z121) ?_
    refine WPl.v rfl (o_assign rfl) ?_
    refine WPl.s1 (o_stag G121 rfl rfl rfl ⟨rfl, rfl, rfl, trivial⟩ rfl rfl) ?_
    refine WPl.nil (EX.then (WP.seq (WP.region ?_)))
    refine WPl.v rfl (o_ldpa G121 rfl rfl rfl) ?_
    refine WPl.v rfl (o_move rfl) ?_
    refine WPl.nil (EX.then (WP.block ?_))
    refine WP.loop (Gh := Nat) (fun j => ⟨3, [(2, .e (.a (.v (.slice none 0 0)))), (3, .e (.a (.q 1))), (8, .e (.g [ai (nth L 0), ai (nth L 1), ai (nth L 2), ai (nth L 3), ai (nth L 4), ai (nth L 5), ai (nth L 6), ai (nth L 7), ai (nth L 8), ai (nth L 9), ai (nth L 10), ai (nth L 11)])), (9, .i ((i : Int))), (10, .b (decide ((i : Int) < 4))), (11, .i ((i : Int))), (12, .e (.g [ai (nth L ((i : Int) * 3 + 0)), ai (nth L ((i : Int) * 3 + 1)), ai (nth L ((i : Int) * 3 + 2))])), (5, .e (.a (.p 2 (0)))), (4, .i ((i : Int))), (13, .e (.g [ai (nth L ((i : Int) * 3 + 0)), ai (nth L ((i : Int) * 3 + 1)), ai (nth L ((i : Int) * 3 + 2))])), (14, .i ((j : Int)))], [], [(1, .own 77 EPl.size (setTo L (3 * i + j)).length (RP EPl (setTo L (3 * i + j)))), (2, .blk [ai (nth L ((i : Int) * 3 + 0)), ai (nth L ((i : Int) * 3 + 1)), ai (nth L ((i : Int) * 3 + 2))] 121)], [], []⟩) (fun j => j ≤ 3) (fun j => 3 - j) (0) id ?_ (LeR.of ⟨rfl, rfl, rfl, rfl, rfl, rfl, rfl, rfl, rfl, rfl, rfl, trivial⟩ trivial ⟨rfl, rfl, trivial⟩ rfl rfl rfl rfl rfl) ?_
    · first | trivial | omega | (constructor <;> omega) | simp
    intro j hφ
    have hj : j ≤ 3 := hφ
    refine WP.seq (WP.region ?_)
    refine WPl.v rfl (o_lss rfl rfl) ?_
    refine WPl.nil (EX.then (WP.seq ?_))
    refine WP.cond rfl (fun hc2 => ?_) (fun hc2 => ?_)
    · try simp only [cnd] at hc2
      refine WP.skip (EX.then (WP.seq (WP.block (WP.seq (WP.region ?_)))))
      refine WPl.v rfl (o_move rfl) ?_
      refine WPl.v rfl (o_idxv1 Tryz.underlying121 S3 rfl rfl (by omega) (by omega) (col3 (by omega))) ?_
      refine WPl.v rfl (o_assign rfl) ?_
      refine WPl.v rfl (o_assign rfl) ?_
      refine WPl.nil (EX.then (WP.seq (WP.region ?_)))
      refine WPl.v rfl (o_move rfl) ?_
      refine WPl.v rfl (o_gtr rfl rfl) ?_
      refine WPl.nil (EX.then ?_)
      refine WP.cond rfl (fun hc3 => ?_) (fun hc3 => ?_)
      · try simp only [cnd] at hc3
        refine WP.region ?_
        refine WPl.v rfl (o_move rfl) ?_
        refine WPl.v rfl (o_move rfl) ?_
        refine WPl.v rfl (o_move rfl) ?_
        refine WPl.v rfl (o_move rfl) ?_
        refine WPl.v rfl (o_build B77 rfl ⟨rfl, rfl, rfl, trivial⟩ rfl rfl) ?_
        refine WPl.l 3 4 rfl rfl rfl (o_bsl (E := EPl) (l := [(⟨(i : Int), (j : Int), nth L ((i : Int) * 3 + (j : Int))⟩ : Plate)]) R30 rfl rfl (.cons (⟨rfl, rfl, rfl, trivial⟩) rfl (eok_str ⟨rfl, rfl, rfl, trivial⟩) (.nil)) rfl rfl) ?_
        refine WPl.u1 (k := 4) (m := 5) rfl rfl rfl (o_appo R30 EP.str_one rfl rfl rfl rfl (by have h1 := setTo_len L (3 * i + j); first | omega | (simp; omega)) (by have h1 := setTo_len L (3 * i + j); first | omega | (simp; omega))) ?_
        refine WPl.v rfl (o_assign rfl) ?_
        refine WPl.nil (EX.blk (EX.then (WP.region ?_)))
        refine WPl.v rfl (o_add rfl rfl (by first | omega | (simp; omega)) (by first | omega | (simp; omega))) ?_
        refine WPl.v rfl (o_move rfl) ?_
        refine WPl.nil ?_
        refine EX.again (j + 1) (ren [(1, 4)]) (by first | omega | (constructor <;> omega)) (by omega) (LeR.of ⟨rfl, rfl, rfl, rfl, rfl, rfl, rfl, rfl, rfl, rfl, rfl, trivial⟩ trivial ⟨(congrArg (fun z => some (Ent.own 77 EPl.size (List.length z) (RP EPl z))) (show ((setTo L (3 * i + j)) ++ [(⟨(i : Int), (j : Int), nth L ((i : Int) * 3 + (j : Int))⟩ : Plate)]) = ((fun j => setTo L (3 * i + j)) (j + 1)) from by dsimp only; rw [set_step1 (by omega) (by omega) hc3])), rfl, trivial⟩ rfl rfl rfl rfl rfl)
      · try simp only [cnd] at hc3
        refine WP.skip (EX.blk (EX.then (WP.region ?_)))
        refine WPl.v rfl (o_add rfl rfl (by first | omega | (simp; omega)) (by first | omega | (simp; omega))) ?_
        refine WPl.v rfl (o_move rfl) ?_
        refine WPl.nil ?_
        refine EX.again (j + 1) id (by first | omega | (constructor <;> omega)) (by omega) (LeR.of ⟨rfl, rfl, rfl, rfl, rfl, rfl, rfl, rfl, rfl, rfl, rfl, trivial⟩ trivial ⟨(congrArg (fun z => some (Ent.own 77 EPl.size (List.length z) (RP EPl z))) (show (setTo L (3 * i + j)) = ((fun j => setTo L (3 * i + j)) (j + 1)) from by dsimp only; rw [set_step2 (by omega) (by omega) hc3])), rfl, trivial⟩ rfl rfl rfl rfl rfl)
    · try simp only [cnd] at hc2
      refine WP.exit (EX.exit_then (EX.exit_then (EX.exit_blk (EX.blk (EX.then (WP.region ?_))))))
      refine WPl.v rfl (o_add rfl rfl (by first | omega | (simp; omega)) (by first | omega | (simp; omega))) ?_
      refine WPl.v rfl (o_move rfl) ?_
      refine WPl.nil ?_
      have hje : j = 3 := by omega
      refine EX.again (i + 1) id (by first | omega | (constructor <;> omega)) (by omega) (LeR.of ⟨rfl, rfl, rfl, rfl, trivial⟩ trivial ⟨(congrArg (fun z => some (Ent.own 77 EPl.size (List.length z) (RP EPl z))) (show (setTo L (3 * i + j)) = ((fun i => setTo L (3 * i)) (i + 1)) from by rw [show 3 * i + j = 3 * (i + 1) by omega])), trivial⟩ rfl rfl rfl rfl rfl)
  · try simp only [cnd] at hc1
    refine WP.exit (EX.exit_then (EX.exit_then (EX.exit_blk (EX.then (WP.seq (WP.region ?_))))))
    refine WPl.v rfl (o_move rfl) ?_
    refine WPl.v rfl (o_assign rfl) ?_
    refine WPl.nil (EX.then (WP.ret ?_))
    refine EX.imp (Imp.frz (E := EPl) (l := setTo L (3 * i)) 1 rfl rfl) ?_
    have hie : i = 4 := by omega
    subst hie
    rw [show setOf L = setTo L 12 from by unfold setOf; rw [hL]]
    exact EX.fin (ren [(0, 1)]) (.inl rfl) rfl (.tmp rfl .nil) rfl (by simp [SV.res, El.res, At.res, keys]) ⟨(lx rfl), trivial⟩ (by simp) (by simp)
theorem w72 {h : Hall} {p : Plan} : ∀ x ∈ ([.e (.g [.q 0, .q 1, .q 2, ai (h.change), .q 3, .q 4]), .e (.a (.q 5))] : List SV), x.res (keys (α := Pred) [(0, PL ETm (h.machs)), (1, PL EBd (h.buns)), (2, PL EP.int (h.trains)), (3, PL EP.int (h.bores)), (4, PL (EP.sl EP.int) (h.eds)), (5, PL (EP.sl EP.int) (p))]) := by simp [SV.res, El.res, At.res, keys]
theorem r72 {h : Hall} {p : Plan} : SV.res (keys (α := Pred) [(0, PL EPl (setOf (needL h p)))]) (.t [.a (.q 0), .a (ai (0))]) := by simp [SV.res, El.res, At.res, keys]
set_option maxHeartbeats 4000000 in
theorem c72 (h : Hall) (p : Plan) (hm : h.Small) (hc : h.chk = true) (hp : isPlanR h p = true) (hr : RowsP p) : Sig Tryz.prog 72 [.e (.g [.q 0, .q 1, .q 2, ai (h.change), .q 3, .q 4]), .e (.a (.q 5))] [(0, PL ETm (h.machs)), (1, PL EBd (h.buns)), (2, PL EP.int (h.trains)), (3, PL EP.int (h.bores)), (4, PL (EP.sl EP.int) (h.eds)), (5, PL (EP.sl EP.int) (p))] (.t [.a (.q 0), .a (ai (0))]) [(0, PL EPl (setOf (needL h p)))] := by
  refine Sig.intro Tryz.func72 rfl 6 [(0, .e (.g [.q 0, .q 1, .q 2, ai (h.change), .q 3, .q 4])), (1, .e (.a (.q 5)))] rfl w72 rfl rfl fun I w => ?_
  refine WP.seq (WP.region ?_)
  refine WPl.l 6 7 rfl rfl rfl (o_boxg rfl) ?_
  refine WPl.v rfl (o_assign rfl) ?_
  refine WPl.v rfl (o_assign rfl) ?_
  refine WPl.nil (EX.then (WP.seq (WP.region ?_)))
  refine WPl.v rfl (o_ldpa G29 rfl rfl rfl) ?_
  refine WPl.cs 12 rfl rfl rfl rfl (o_sig 7 (ren [(0, 0), (1, 1), (2, 2), (3, 3), (4, 4)]) (c93 h true hm hc rfl) e93 rfl rfl rfl w93 ⟨(lx rfl), (lx rfl), (lx rfl), (lx rfl), (lx rfl), trivial⟩ r93) ?_
  refine WPl.v rfl (o_move rfl) ?_
  refine WPl.v rfl (o_extract rfl rfl) ?_
  refine WPl.v rfl (o_extract rfl rfl) ?_
  refine WPl.l 12 13 rfl rfl rfl (o_alloc Z117) ?_
  refine WPl.s1 (o_stag G117 rfl rfl rfl ⟨(.inl ⟨_, (lx rfl), PL.one⟩), (.inl ⟨_, (lx rfl), PL.one⟩), (.inl ⟨_, (lx rfl), PL.one⟩), rfl, (.inl ⟨_, (lx rfl), PL.one⟩), (.inl ⟨_, (lx rfl), PL.one⟩), trivial⟩ rfl rfl) ?_
  refine WPl.v rfl (o_assign rfl) ?_
  refine WPl.nil (EX.then (WP.seq (WP.seq (WP.region ?_))))
  refine WPl.v rfl (o_move rfl) ?_
  refine WPl.v rfl (o_neq rfl rfl) ?_
  refine WPl.nil (EX.then ?_)
  refine WP.cond rfl (fun hc1 => ?_) (fun hc1 => ?_)
  · try simp only [cnd] at hc1
    simp at hc1
  · try simp only [cnd] at hc1
    refine WP.skip (EX.then (WP.seq (WP.seq (WP.region ?_))))
    refine WPl.v rfl (o_fldp F29_0 rfl) ?_
    refine WPl.v rfl (o_ldpg G26 rfl rfl rfl) ?_
    refine WPl.v rfl (o_move rfl) ?_
    refine WPl.cs 13 rfl rfl rfl rfl (o_sig 13 (ren [(0, 0), (1, 1), (2, 2), (3, 5)]) (c127 h p hm hc hp hr) e127 rfl rfl rfl w127 ⟨(lx rfl), (lx rfl), (lx rfl), (lx rfl), trivial⟩ r127) ?_
    refine WPl.v rfl (o_move rfl) ?_
    refine WPl.v rfl (o_extract rfl rfl) ?_
    refine WPl.v rfl (o_extract rfl rfl) ?_
    refine WPl.v rfl (o_assign rfl) ?_
    refine WPl.v rfl (o_assign rfl) ?_
    refine WPl.nil (EX.then (WP.seq (WP.region ?_)))
    refine WPl.v rfl (o_move rfl) ?_
    refine WPl.v rfl (o_not rfl) ?_
    refine WPl.nil (EX.then ?_)
    refine WP.cond rfl (fun h => by cases h) (fun _ => ?_)
    refine WP.skip (EX.then (WP.seq (WP.region ?_)))
    refine WPl.v rfl (o_ldpa G117 rfl rfl rfl) ?_
    refine WPl.v rfl (o_move rfl) ?_
    refine WPl.cs 13 rfl rfl rfl rfl (o_sig 13 (ren [(0, 7), (1, 8), (2, 9), (3, 10), (4, 11), (5, 5)]) (c128 h p hm hc hp hr) e128 rfl rfl rfl w128 ⟨(lx rfl), (lx rfl), (lx rfl), (lx rfl), (lx rfl), (lx rfl), trivial⟩ r128) ?_
    refine WPl.cs 14 rfl rfl rfl rfl (o_sig 13 id (c129 (needL h p) (needTo_len h p _)) e129 rfl rfl rfl w129 trivial r129) ?_
    refine WPl.v rfl (o_assign rfl) ?_
    refine WPl.v rfl (o_assign rfl) ?_
    refine WPl.nil (EX.then (WP.ret ?_))
    exact EX.fin (ren [(0, 13)]) (.inl rfl) rfl (.tmp rfl (.tmp rfl .nil)) rfl r72 ⟨(lx rfl), trivial⟩ (by simp) (by simp)
theorem w75 {h : Hall} {l : List Int} {pg : Int} : ∀ x ∈ ([.e (.g [.q 0, .q 1, .q 2, ai (h.change), .q 3, .q 4]), .e (.a (.q 5)), .i (pg)] : List SV), x.res (keys (α := Pred) [(0, PL ETm (h.machs)), (1, PL EBd (h.buns)), (2, PL EP.int (h.trains)), (3, PL EP.int (h.bores)), (4, PL (EP.sl EP.int) (h.eds)), (5, PL EP.int (l))]) := by simp [SV.res, El.res, At.res, keys]
theorem r75 {h : Hall} {l : List Int} {pg : Int} : SV.res (keys (α := Pred) []) (.b (needsR h l pg)) := by simp [SV.res, El.res, At.res, keys]
set_option maxHeartbeats 4000000 in
theorem c75 (h : Hall) (l : List Int) (pg : Int) (hm : h.Small) (hc : h.chk = true) (hl : l.length ≤ 1000) (hb : ∀ j : Nat, j < l.length → 0 ≤ nth l (j : Int) ∧ nth l (j : Int) < h.buns.length) : Sig Tryz.prog 75 [.e (.g [.q 0, .q 1, .q 2, ai (h.change), .q 3, .q 4]), .e (.a (.q 5)), .i (pg)] [(0, PL ETm (h.machs)), (1, PL EBd (h.buns)), (2, PL EP.int (h.trains)), (3, PL EP.int (h.bores)), (4, PL (EP.sl EP.int) (h.eds)), (5, PL EP.int (l))] (.b (needsR h l pg)) [] := by
  have hC := hallC hc
  refine Sig.intro Tryz.func75 rfl 6 [(0, .e (.g [.q 0, .q 1, .q 2, ai (h.change), .q 3, .q 4])), (1, .e (.a (.q 5))), (2, .i (pg))] rfl w75 rfl rfl fun I w => ?_
  refine WP.seq (WP.region ?_)
  refine WPl.l 6 7 rfl rfl rfl (o_boxg rfl) ?_
  refine WPl.v rfl (o_assign rfl) ?_
  refine WPl.nil (EX.then (WP.seq (WP.seq (WP.region ?_))))
  refine WPl.v rfl (o_assign rfl) ?_
  refine WPl.nil (EX.then (WP.block ?_))
  refine WP.loop (Gh := Nat) (fun i => ⟨7, [(1, .e (.a (.q 5))), (2, .i (pg)), (3, .e (.a (.p 6 (0)))), (6, .b (false)), (7, .i ((i : Int)))], [(0, PL ETm (h.machs)), (1, PL EBd (h.buns)), (2, PL EP.int (h.trains)), (3, PL EP.int (h.bores)), (4, PL (EP.sl EP.int) (h.eds)), (5, PL EP.int (l))], [(6, .blk [.q 0, .q 1, .q 2, ai (h.change), .q 3, .q 4] 29)], [], []⟩) (fun i => i ≤ l.length ∧ allI (fun j => !inL (edOf h (nth l (j : Int))) pg) i = true) (fun i => l.length - i) (0) id ?_ (LeR.of ⟨rfl, rfl, rfl, rfl, rfl, trivial⟩ ⟨(lx rfl), (lx rfl), (lx rfl), (lx rfl), (lx rfl), (lx rfl), trivial⟩ ⟨rfl, trivial⟩ rfl rfl rfl rfl rfl) ?_
  · exact ⟨by omega, rfl⟩
  intro i hφ
  have hi : i ≤ l.length := hφ.1
  have hall := hφ.2
  refine WP.seq (WP.seq (WP.region ?_))
  refine WPl.v rfl (o_move rfl) ?_
  refine WPl.v rfl (o_move rfl) ?_
  refine WPl.v rfl (o_lenq L24 rfl (lx rfl)) ?_
  refine WPl.v rfl (o_lss rfl rfl) ?_
  refine WPl.nil (EX.then ?_)
  refine WP.cond rfl (fun hc1 => ?_) (fun hc1 => ?_)
  · try simp only [cnd] at hc1
    have hx := hb i (by omega)
    have hxe := hC.ed _ hx.1 hx.2
    have hpl := hm.p (nth h.buns (nth l (i : Int))).edition.toNat (by omega)
    rw [show (((nth h.buns (nth l (i : Int))).edition.toNat : Nat) : Int) = (nth h.buns (nth l (i : Int))).edition by omega] at hpl
    refine WP.skip (EX.then (WP.seq (WP.block (WP.seq ?_))))
    refine WP.draw (nf := 11) [⟨[16, 17, 18, 19, 20, 21, 22, 23, 24, 25, 28], [7, 8], [], [], []⟩, ⟨[16, 17, 18, 19, 20, 21, 22, 23, 24, 25, 28], [7, 8], [], [], [0]⟩, ⟨[14, 15, 19, 20, 21, 22, 28], [7], [], [], []⟩, ⟨[14, 15, 19, 20, 21, 22, 28], [7], [], [], [2]⟩, ⟨[14, 15, 19, 20, 21, 22, 28], [7], [], [], [2, 3]⟩, ⟨[14, 15, 16, 17, 18, 20, 28], [], [], [], []⟩, ⟨[14, 15, 16, 17, 18, 19, 28], [], [], [], []⟩, ⟨[14, 15, 16, 17, 18, 28], [], [7], [7], [5, 6]⟩, ⟨[14, 15, 16, 17, 18, 28], [], [], [], [5, 6, 7]⟩, ⟨[14, 15, 28], [], [8], [8], [2, 3, 4, 5, 6, 7, 8]⟩, ⟨[14, 15, 28], [], [], [], [2, 3, 4, 5, 6, 7, 8, 9]⟩, ⟨[14, 15, 28], [], [], [], [2, 3, 4, 5, 6, 7, 8, 9, 10]⟩, ⟨[28], [], [9], [9], [0, 1, 2, 3, 4, 5, 6, 7, 8, 9, 10, 11]⟩, ⟨[28], [], [10], [10], [0, 1, 2, 3, 4, 5, 6, 7, 8, 9, 10, 11, 12]⟩, ⟨[14, 15, 16, 17, 18, 19, 20, 21, 22, 23, 24, 25, 26, 27], [7, 8, 9, 10], [], [], []⟩, ⟨[], [], [], [], [0, 1, 2, 3, 4, 5, 6, 7, 8, 9, 10, 11, 12, 13, 14]⟩] (by kernel_rfl) (by kernel_rfl) ?_
    refine DRQ.v rfl rfl rfl (o_fldp F29_2 rfl) ?_
    refine DRQ.v rfl rfl rfl (o_ldp S27 rfl rfl rfl) ?_
    refine DRQ.v rfl rfl rfl (o_fldp F29_0 rfl) ?_
    refine DRQ.v rfl rfl rfl (o_fldp F26_1 rfl) ?_
    refine DRQ.v rfl rfl rfl (o_ldp S23 rfl rfl rfl) ?_
    refine DRQ.v rfl rfl rfl (o_move rfl) ?_
    refine DRQ.v rfl rfl rfl (o_move rfl) ?_
    refine DRQ.x 7 rfl rfl rfl rfl (o_idx L24 rfl (lx rfl) rfl (by first | omega | (simp; omega)) (by first | omega | (simp; omega))) ?_
    refine DRQ.v rfl rfl rfl (o_ldq S3 rfl (lx rfl) intc) ?_
    refine DRQ.x 8 rfl rfl rfl rfl (o_idx L23 rfl (lx rfl) rfl (by first | omega | (simp; omega)) (by first | omega | (simp; omega))) ?_
    refine DRQ.v rfl rfl rfl (o_fldq F95_2 rfl (lx rfl)) ?_
    refine DRQ.v rfl rfl rfl (o_lde S3 rfl (lx rfl) (strI rfl)) ?_
    refine DRQ.x 9 rfl rfl rfl rfl (o_idx L27 rfl (lx rfl) rfl (by first | omega | (simp; omega)) (by first | omega | (simp; omega))) ?_
    refine DRQ.x 10 rfl rfl rfl rfl (o_ldqx S24 rfl (lx rfl) slx) ?_
    refine DRQ.v rfl rfl rfl (o_move rfl) ?_
    refine DRQ.cs rfl rfl rfl rfl (o_sig 11 (ren [(0, 10)]) (c29 (nth h.eds ((nth h.buns (nth l (i : Int))).edition)) pg (by omega)) e29 rfl rfl rfl w29 ⟨(lx rfl), trivial⟩ r29) ?_
    refine DRQ.nil' ?_
    refine EX.then ?_
    refine WP.cond rfl (fun hc2 => ?_) (fun hc2 => ?_)
    · try simp only [cnd] at hc2
      refine WP.seq (WP.region ?_)
      refine WPl.v rfl (o_assign rfl) ?_
      refine WPl.nil (EX.then (WP.ret (EX.ret_blk (EX.ret_then (EX.ret_then (EX.ret_blk (EX.ret_then ?_)))))))
      rw [show needsR h l pg = true from by unfold needsR; rw [not_allI (show i < l.length by omega) (by simp only [Bool.not_eq_false']; exact hc2)]; rfl]
      exact EX.fin id (.inl rfl) rfl (.tmp rfl .nil) rfl (by simp [SV.res, El.res, At.res, keys]) trivial (by simp) (by simp)
    · try simp only [cnd] at hc2
      refine WP.skip (EX.blk (EX.then (WP.region ?_)))
      refine WPl.v rfl (o_move rfl) ?_
      refine WPl.v rfl (o_add rfl rfl (by first | omega | (simp; omega)) (by first | omega | (simp; omega))) ?_
      refine WPl.v rfl (o_assign rfl) ?_
      refine WPl.nil ?_
      refine EX.again (i + 1) id (by exact ⟨by omega, by simp only [allI, hall, Bool.true_and, Bool.not_eq_true']; exact hc2⟩) (by omega) (LeR.of ⟨rfl, rfl, rfl, rfl, rfl, trivial⟩ ⟨(lx rfl), (lx rfl), (lx rfl), (lx rfl), (lx rfl), (lx rfl), trivial⟩ ⟨rfl, trivial⟩ rfl rfl rfl rfl rfl)
  · try simp only [cnd] at hc1
    refine WP.exit (EX.exit_then (EX.exit_then (EX.exit_blk (EX.then (WP.seq (WP.region ?_))))))
    refine WPl.v rfl (o_assign rfl) ?_
    refine WPl.nil (EX.then (WP.ret ?_))
    have hie : i = l.length := by omega
    rw [show needsR h l pg = false from by unfold needsR; rw [← hie, hall]; rfl]
    exact EX.fin id (.inl rfl) rfl (.tmp rfl .nil) rfl (by simp [SV.res, El.res, At.res, keys]) trivial (by simp) (by simp)
end Go.Flong
namespace Go.Flong
open Go Go.Eng
def tIn (h : Hall) (p : Plan) (m : Nat) (base : List Tal) : Nat → List Tal
  | 0 => base
  | g + 1 => if needsR h (nth p (m : Int)) (g : Int) then tIn h p m base g ++ [⟨0, (g : Int), (m : Int), ((tIn h p m base g).length : Int)⟩] else tIn h p m base g
def tTo (h : Hall) (p : Plan) : Nat → List Tal
  | 0 => []
  | m + 1 => tIn h p m (tTo h p m) 4
def tAll (h : Hall) (p : Plan) : List Tal := tTo h p p.length
def bornB (h : Hall) (p : Plan) : Book := ⟨h, setOf (needL h p), List.replicate h.bores.length 0, 1, tAll h p⟩
structure TInv (h : Hall) (p : Plan) (m g : Nat) (l : List Tal) : Prop where
  a : ∀ i : Nat, i < l.length → (nth l (i : Int)).boy = 0 ∧ (nth l (i : Int)).min = (i : Int) ∧ 0 ≤ (nth l (i : Int)).page ∧ (nth l (i : Int)).page < 4 ∧ 0 ≤ (nth l (i : Int)).mach ∧ ((nth l (i : Int)).mach < m ∨ (nth l (i : Int)).mach = m ∧ (nth l (i : Int)).page < g) ∧ needsR h (nth p (nth l (i : Int)).mach) (nth l (i : Int)).page = true
  o : ∀ i j : Nat, i < j → j < l.length → (nth l (i : Int)).mach < (nth l (j : Int)).mach ∨ (nth l (i : Int)).mach = (nth l (j : Int)).mach ∧ (nth l (i : Int)).page < (nth l (j : Int)).page
  e : ∀ (n q : Nat), q < 4 → (n < m ∨ n = m ∧ q < g) → needsR h (nth p (n : Int)) (q : Int) = true → ∃ i : Nat, i < l.length ∧ (nth l (i : Int)).mach = n ∧ (nth l (i : Int)).page = q
theorem nth_app1 {α : Type} [Inhabited α] {l : List α} {x : α} {i : Nat} (h : i < l.length) : nth (l ++ [x]) (i : Int) = nth l (i : Int) := by
  rw [nthG (by simp; omega), nthG h, List.getElem_append_left]
theorem nth_app2 {α : Type} [Inhabited α] {l : List α} {x : α} : nth (l ++ [x]) (l.length : Int) = x := by simp [nth, List.getD_eq_getElem?_getD]
theorem tIn_inv {h : Hall} {p : Plan} {m : Nat} {base : List Tal} (hb : TInv h p m 0 base) : ∀ g : Nat, g ≤ 4 → TInv h p m g (tIn h p m base g)
  | 0, _ => hb
  | g + 1, hg => by
    have ih := tIn_inv hb g (by omega)
    unfold tIn
    split
    · rename_i hn
      refine ⟨fun i hi => ?_, fun i j hij hj => ?_, fun n q hq hc hn2 => ?_⟩
      · rw [List.length_append, List.length_singleton] at hi
        by_cases e : i = (tIn h p m base g).length
        · subst e
          rw [nth_app2]
          exact ⟨rfl, rfl, by simp only []; omega, by simp only []; omega, by simp only []; omega, .inr ⟨rfl, by simp only []; omega⟩, hn⟩
        · have h1 := ih.a i (by omega)
          rw [nth_app1 (by omega)]
          refine ⟨h1.1, h1.2.1, h1.2.2.1, h1.2.2.2.1, h1.2.2.2.2.1, ?_, h1.2.2.2.2.2.2⟩
          rcases h1.2.2.2.2.2.1 with h2 | h2
          · exact .inl h2
          · exact .inr ⟨h2.1, by omega⟩
      · rw [List.length_append, List.length_singleton] at hj
        by_cases e : j = (tIn h p m base g).length
        · subst e
          rw [nth_app2, nth_app1 hij]
          have h1 := ih.a i hij
          simp only []
          rcases h1.2.2.2.2.2.1 with h2 | h2
          · exact .inl h2
          · exact .inr h2
        · rw [nth_app1 (by omega), nth_app1 (by omega)]
          exact ih.o i j hij (by omega)
      · by_cases e : n = m ∧ q = g
        · refine ⟨(tIn h p m base g).length, by simp, ?_⟩
          rw [nth_app2]
          simp only []
          omega
        · obtain ⟨i, hi, h1, h2⟩ := ih.e n q hq (by omega) hn2
          refine ⟨i, by rw [List.length_append]; omega, ?_⟩
          rw [nth_app1 hi]; exact ⟨h1, h2⟩
    · rename_i hn
      refine ⟨fun i hi => ?_, ih.o, fun n q hq hc hn2 => ?_⟩
      · have h1 := ih.a i hi
        refine ⟨h1.1, h1.2.1, h1.2.2.1, h1.2.2.2.1, h1.2.2.2.2.1, ?_, h1.2.2.2.2.2.2⟩
        rcases h1.2.2.2.2.2.1 with h2 | h2
        · exact .inl h2
        · exact .inr ⟨h2.1, by omega⟩
      · by_cases e : n = m ∧ q = g
        · obtain ⟨rfl, rfl⟩ := e
          exact absurd hn2 hn
        · exact ih.e n q hq (by omega) hn2
theorem tTo_inv (h : Hall) (p : Plan) : ∀ m : Nat, TInv h p m 0 (tTo h p m)
  | 0 => ⟨fun i hi => by simp [tTo] at hi, fun i j hij hj => by simp [tTo] at hj, fun n q hq hc hn => by omega⟩
  | m + 1 => by
    have ih := tIn_inv (tTo_inv h p m) 4 (Nat.le_refl _)
    rw [tTo]
    refine ⟨fun i hi => ?_, ih.o, fun n q hq hc hn => ih.e n q hq (by omega) hn⟩
    have h1 := ih.a i hi
    exact ⟨h1.1, h1.2.1, h1.2.2.1, h1.2.2.2.1, h1.2.2.2.2.1, by omega, h1.2.2.2.2.2.2⟩
theorem tIn_len (h : Hall) (p : Plan) (m : Nat) (base : List Tal) : ∀ g, (tIn h p m base g).length ≤ base.length + g
  | 0 => by simp [tIn]
  | g + 1 => by have := tIn_len h p m base g; unfold tIn; split <;> simp <;> omega
theorem tTo_len (h : Hall) (p : Plan) : ∀ m, (tTo h p m).length ≤ 4 * m
  | 0 => by simp [tTo]
  | m + 1 => by have := tTo_len h p m; have := tIn_len h p m (tTo h p m) 4; rw [tTo]; omega
def plT (h : Hall) (t : Tal) : Int := plc t.page (nth h.bores t.mach)
theorem tIn_cnt {h : Hall} (hC : HallC h) {p : Plan} {m : Nat} (hm : m < h.bores.length) (base : List Tal) {k : Nat} (hk : k < 12) : ∀ g : Nat, g ≤ 4 → ((tIn h p m base g).countP (fun t => decide (plT h t = (k : Int))) : Int) = (base.countP (fun t => decide (plT h t = (k : Int))) : Int) + if (k : Int) / 3 < g ∧ needsR h (nth p (m : Int)) ((k : Int) / 3) = true ∧ nth h.bores (m : Int) = (k : Int) % 3 then 1 else 0
  | 0, _ => by rw [tIn, if_neg (by omega)]; omega
  | g + 1, hg => by
    have ih := tIn_cnt (p := p) hC hm base hk g (by omega)
    have hb := hC.b m hm
    unfold tIn
    split
    · rename_i hn
      rw [List.countP_append, Int.natCast_add, ih]
      have e : (List.countP (fun t => decide (plT h t = (k : Int))) [(⟨0, (g : Int), (m : Int), ((tIn h p m base g).length : Int)⟩ : Tal)] : Int) = if (g : Int) * 3 + nth h.bores (m : Int) = (k : Int) then 1 else 0 := by
        by_cases e : (g : Int) * 3 + nth h.bores (m : Int) = (k : Int)
        · rw [if_pos e]
          have : plT h ⟨0, (g : Int), (m : Int), ((tIn h p m base g).length : Int)⟩ = (k : Int) := e
          simp [this]
        · rw [if_neg e]
          have : ¬ plT h ⟨0, (g : Int), (m : Int), ((tIn h p m base g).length : Int)⟩ = (k : Int) := e
          simp [this]
      rw [e]
      by_cases g1 : (g : Int) * 3 + nth h.bores (m : Int) = (k : Int)
      · have h3 : (k : Int) / 3 = g := by omega
        have h4 : nth h.bores (m : Int) = (k : Int) % 3 := by omega
        rw [if_pos g1, if_neg (by omega), if_pos ⟨by omega, by rw [h3]; exact hn, h4⟩]
        omega
      · rw [if_neg g1]
        by_cases g2 : (k : Int) / 3 < g ∧ needsR h (nth p (m : Int)) ((k : Int) / 3) = true ∧ nth h.bores (m : Int) = (k : Int) % 3
        · rw [if_pos g2, if_pos ⟨by omega, g2.2⟩]; omega
        · rw [if_neg g2, if_neg]
          · omega
          · rintro ⟨a, b, c⟩
            exact g2 ⟨by omega, b, c⟩
    · rename_i hn
      rw [ih]
      congr 1
      by_cases g2 : (k : Int) / 3 < g ∧ needsR h (nth p (m : Int)) ((k : Int) / 3) = true ∧ nth h.bores (m : Int) = (k : Int) % 3
      · rw [if_pos g2, if_pos ⟨by omega, g2.2⟩]
      · rw [if_neg g2, if_neg]
        rintro ⟨a, b, c⟩
        by_cases e : (k : Int) / 3 = g
        · rw [e] at b; exact hn b
        · exact g2 ⟨by omega, b, c⟩
theorem tTo_cnt {h : Hall} (hC : HallC h) {p : Plan} (hP : PlanQ h p) {k : Nat} (hk : k < 12) : ∀ m : Nat, m ≤ p.length → ((tTo h p m).countP (fun t => decide (plT h t = (k : Int))) : Int) = nth (needTo h p m) (k : Int)
  | 0, _ => by rw [tTo, needTo, zer_nth hk]; rfl
  | m + 1, hm => by
    have hb := hC.o
    have hn := hP.n
    rw [tTo, tIn_cnt hC (by omega) _ hk 4 (Nat.le_refl _), tTo_cnt hC hP hk m (by omega), need_step hC hP (by omega) hk]
    congr 1
    by_cases g : needsR h (nth p (m : Int)) ((k : Int) / 3) = true ∧ nth h.bores (m : Int) = (k : Int) % 3
    · rw [if_pos g, if_pos ⟨by omega, g⟩]
    · rw [if_neg g, if_neg (fun e => g e.2)]
structure BornOK (h : Hall) (p : Plan) : Prop where
  c : (bornB h p).chk = true
  s : isSet (setOf (needL h p)) = true
  n : (setOf (needL h p)).length ≤ 12
theorem need_set {h : Hall} (hc : h.chk = true) {p : Plan} (hp : isPlanR h p = true) : isSet (setOf (needL h p)) = true ∧ (setOf (needL h p)).length ≤ 12 := by
  have hC := hallC hc
  have hP := planQ hp
  have hl := needTo_len h p p.length
  have hm := hC.m
  have hn := hP.n
  have h1 := setTo_len (needL h p) (needL h p).length
  refine ⟨isSet_of (fun q hq => ?_) (setTo_pw _ _), by unfold setOf needL at *; omega⟩
  obtain ⟨k, hk, hr, e⟩ := (setTo_mem _ q _).1 hq
  have hk2 : k < 12 := by unfold needL at hk; omega
  have h2 := needTo_nth hC hP p.length (Nat.le_refl _) k hk2
  unfold needL at hr e
  subst e
  simp only [Plate.chk, within, Bool.and_eq_true, decide_eq_true_eq]
  rw [Int.tdiv_eq_ediv_of_nonneg (by omega)]
  omega
theorem rep0 (n : Nat) (j : Int) : nth (List.replicate n (0 : Int)) j = 0 := by
  unfold nth
  rw [List.getD_eq_getElem?_getD, List.getElem?_replicate]
  split <;> rfl
theorem born_ok {h : Hall} (hc : h.chk = true) {p : Plan} (hp : isPlanR h p = true) (h8 : (tAll h p).length ≤ 8) : BornOK h p := by
  have hC := hallC hc
  have hP := planQ hp
  have hs := need_set hc hp
  have hi := tTo_inv h p p.length
  have hm := hC.m
  have hn := hP.n
  have ho := hC.o
  refine ⟨?_, hs.1, hs.2⟩
  simp only [Book.chk, Book.head, Bool.and_eq_true, decide_eq_true_eq]
  refine ⟨⟨⟨⟨⟨⟨hc, hs.1⟩, ?_⟩, rfl⟩, ?_⟩, ?_⟩, ?_⟩
  · show ((List.replicate h.bores.length (0 : Int)).length : Int) = h.machs.length
    rw [List.length_replicate]; omega
  · show ((tAll h p).length : Int) ≤ 8
    omega
  · refine allI_iff.2 fun i hi2 => ?_
    unfold Book.walkOK
    show within (nth (List.replicate h.bores.length (0 : Int)) (i : Int)) 0 20 = true
    rw [rep0]; decide
  · refine allI_iff.2 fun i hi2 => ?_
    have hi3 : i < (tTo h p p.length).length := hi2
    have h1 := hi.a i hi3
    have h9 : (tTo h p p.length).length ≤ 8 := h8
    show (nth (tTo h p p.length) (i : Int)).chk 1 (h.machs.length : Int) = true
    simp only [Tal.chk, within, Bool.and_eq_true, decide_eq_true_eq]
    omega
theorem born_good {h : Hall} (hc : h.chk = true) {p : Plan} (hp : isPlanR h p = true) (h8 : (tAll h p).length ≤ 8) {l : List Int} (hl : rl (bornB h p) l) : good (bornB h p) l = true := by
  have hC := hallC hc
  have hP := planQ hp
  have hok := born_ok hc hp h8
  have hB := bookB hok.c
  have hi := tTo_inv h p p.length
  have hin := rl_in hl
  have hn := hok.n
  refine (good_iff hB (show (setOf (needL h p)).length ≤ 1000 by omega) hin (rl_nd hl)).2 ⟨fun x hx y hy hne => ?_, fun k hk => ?_⟩
  · have hx2 := hin x hx
    have hy2 := hin y hy
    have hx3 : x.toNat < (tTo h p p.length).length := by have : (x : Int) < ((tTo h p p.length).length : Int) := hx2.2; omega
    have hy3 : y.toNat < (tTo h p p.length).length := by have : (y : Int) < ((tTo h p p.length).length : Int) := hy2.2; omega
    have ex : ((x.toNat : Nat) : Int) = x := by omega
    have ey : ((y.toNat : Nat) : Int) = y := by omega
    have hord : (nth (tTo h p p.length) x).mach ≠ (nth (tTo h p p.length) y).mach ∨ (nth (tTo h p p.length) x).page ≠ (nth (tTo h p p.length) y).page := by
      rcases Nat.lt_or_gt_of_ne (show x.toNat ≠ y.toNat by omega) with g | g
      · have := hi.o _ _ g hy3
        rw [ex, ey] at this; omega
      · have := hi.o _ _ g hx3
        rw [ex, ey] at this; omega
    unfold sepB
    rw [Bool.not_eq_true', Bool.or_eq_false_iff, twice_no]
    refine ⟨?_, fun g => ?_⟩
    · unfold hurries
      rw [Bool.and_eq_false_iff, decide_eq_false_iff_not, decide_eq_false_iff_not]
      right
      show ¬ max _ _ < nth (List.replicate h.bores.length (0 : Int)) _ + nth (List.replicate h.bores.length (0 : Int)) _
      rw [rep0, rep0]; omega
    · have g1 : (nth (tTo h p p.length) x).page = (nth (tTo h p p.length) y).page := g.1
      have g2 : (nth (tTo h p p.length) x).mach = (nth (tTo h p p.length) y).mach := g.2
      omega
  ·
    have h1 : cntP (bornB h p) l (k : Int) ≤ (tAll h p).countP fun t => decide (plT h t = (k : Int)) := by
      unfold cntP
      have hall : (List.range (tAll h p).length).map (fun i : Nat => nth (tAll h p) (i : Int)) = tAll h p := by
        apply List.ext_getElem
        · simp
        · intro i h1 h2
          rw [List.getElem_map, List.getElem_range, nthG h2]
      rw [← hall, List.countP_map]
      have h3 : l.countP (fun n => decide (plAt (bornB h p) n = (k : Int))) = (l.map Int.toNat).countP ((fun t => decide (plT h t = (k : Int))) ∘ fun i : Nat => nth (tAll h p) (i : Int)) := by
        rw [List.countP_map]
        refine List.countP_congr fun x hx => ?_
        have hx2 := hin x hx
        simp only [Function.comp_apply]
        rw [show ((x.toNat : Nat) : Int) = x by omega]
        exact Iff.rfl
      rw [h3]
      have hnd : (l.map Int.toNat).Nodup := by
        rw [List.nodup_iff_pairwise_ne, List.pairwise_map]
        refine List.Pairwise.imp_of_mem (fun {x y} hx hy hne e => ?_) (List.nodup_iff_pairwise_ne.1 (rl_nd hl))
        have := hin x hx
        have := hin y hy
        omega
      have hsub : ∀ x ∈ (l.map Int.toNat).filter ((fun t => decide (plT h t = (k : Int))) ∘ fun i : Nat => nth (tAll h p) (i : Int)), x ∈ (List.range (tAll h p).length).filter ((fun t => decide (plT h t = (k : Int))) ∘ fun i : Nat => nth (tAll h p) (i : Int)) := fun x hx => by
        rw [List.mem_filter] at hx ⊢
        refine ⟨?_, hx.2⟩
        obtain ⟨y, hy, e⟩ := List.mem_map.1 hx.1
        have hy2 : 0 ≤ y ∧ y < ((tAll h p).length : Int) := hin y hy
        rw [List.mem_range]; omega
      rw [List.countP_eq_length_filter, List.countP_eq_length_filter]
      exact nodup_le (hnd.sublist List.filter_sublist) hsub
    have h2 := tTo_cnt hC hP hk p.length (Nat.le_refl _)
    have h4 : haveP (bornB h p) (k : Int) = if 0 < nth (needL h p) (k : Int) then nth (needL h p) (k : Int) else 0 := setTo_many (needL h p) (needL h p).length (k := k) (by rw [show needL h p = needTo h p p.length from rfl, needTo_len]; exact hk)
    have h5 := needTo_nth hC hP p.length (Nat.le_refl _) k hk
    have h6 : needL h p = needTo h p p.length := rfl
    have h7 : tAll h p = tTo h p p.length := rfl
    rw [h4, h6]
    rw [h7] at h1
    split <;> omega
theorem all_rl (b : Book) : rl b (othersR b []) := others_pw b []
theorem all_len {b : Book} (h8 : b.tals.length ≤ 8) : (othersR b []).length = b.tals.length := by
  have h1 : rl b [] := by rw [rl_iff]; simp
  have := others_sum h8 h1
  simpa using this
theorem no_false {b : Book} (hc : b.chk = true) (h : good b (othersR b []) = true) : fewS b = 0 ∧ blame b = [] ∧ ∀ l, isSt b l → l = [] := by
  have h8 := (bookB hc).t
  have h1 := few_le h8 (all_rl b) h
  rw [all_len h8] at h1
  have h2 : fewS b = 0 := by omega
  have h3 : ∀ l, isSt b l → l = [] := fun l hl => List.length_eq_zero_iff.1 (by rw [hl.2.2, h2])
  exact ⟨h2, h3 _ (blame_st hc), h3⟩
theorem left_all {b : Book} (hc : b.chk = true) (hs : b.set.length ≤ 40) (h : good b (othersR b []) = true) {k : Nat} (hk : k < 12) : nth (countsR (lfV b)) (k : Int) = haveP b (k : Int) - cntP b (othersR b []) (k : Int) := by
  have hB := bookB hc
  have law := left_law2 hc hs
  have h1 := law.c k hk
  have hb := (no_false hc h).2.1
  rw [hb] at h1
  have hin := others_in b []
  rw [show broughtR b (othersR b []) = brR b (othersR b []) (othersR b []).length from rfl, brR_nth hB hin _ (Nat.le_refl _) k hk, said_count b _ _ _ (Nat.le_refl _), List.take_length, countsR_nth (setPls hB.p (by omega)) (by omega) (by omega)] at h1
  unfold haveP
  omega
theorem set_nil {l : List Plate} (h : isSet l = true) (hn : l.length ≤ 1000) (h0 : ∀ k : Nat, k < 12 → nth (countsR l) (k : Int) = 0) : l = [] := by
  cases l with
  | nil => rfl
  | cons x t =>
    exfalso
    have h1 := isSetB h (i := 0) (by simp)
    have h2 := plc_in (x := (nth (x :: t) ((0 : Nat) : Int)).page) (y := (nth (x :: t) ((0 : Nat) : Int)).bore) (by omega)
    have h3 := h0 (plc (nth (x :: t) ((0 : Nat) : Int)).page (nth (x :: t) ((0 : Nat) : Int)).bore).toNat (by omega)
    rw [show (((plc (nth (x :: t) ((0 : Nat) : Int)).page (nth (x :: t) ((0 : Nat) : Int)).bore).toNat : Nat) : Int) = plc (nth (x :: t) ((0 : Nat) : Int)).page (nth (x :: t) ((0 : Nat) : Int)).bore by omega, countsR_nth (setPls h hn) h2.1 h2.2, manyTo_one (m := 0) rfl (by simp) (fun j hj hne e => by
      have := set_lt h (show 0 < j by omega) hj
      omega)] at h3
    omega
theorem set_eq {l m : List Plate} (hl : isSet l = true) (hm : isSet m = true) (hln : l.length ≤ 1000) (hmn : m.length ≤ 1000) (h0 : ∀ k : Nat, k < 12 → nth (countsR l) (k : Int) = nth (countsR m) (k : Int)) : l = m := by
  have hpw : ∀ {l : List Plate}, isSet l = true → l.Pairwise fun p q => pOf p < pOf q := fun {l} h => by
    rw [List.pairwise_iff_getElem]
    intro i j hi hj hij
    have := set_lt h hij hj
    rw [nthG hi, nthG hj] at this
    exact this
  have key : ∀ {l m : List Plate}, isSet l = true → isSet m = true → l.length ≤ 1000 → m.length ≤ 1000 → (∀ k : Nat, k < 12 → nth (countsR l) (k : Int) = nth (countsR m) (k : Int)) → ∀ x ∈ l, x ∈ m := by
    intro l m hl hm hln hmn h0 x hx
    obtain ⟨i, hi, rfl⟩ := mem_nth.1 hx
    have h1 := isSetB hl hi
    have h2 := plc_in (x := (nth l (i : Int)).page) (y := (nth l (i : Int)).bore) (by omega)
    have h3 := h0 (plc (nth l (i : Int)).page (nth l (i : Int)).bore).toNat (by omega)
    rw [show (((plc (nth l (i : Int)).page (nth l (i : Int)).bore).toNat : Nat) : Int) = plc (nth l (i : Int)).page (nth l (i : Int)).bore by omega, countsR_nth (setPls hl hln) h2.1 h2.2, countsR_nth (setPls hm hmn) h2.1 h2.2, manyTo_one (m := i) rfl hi (fun j hj hne e => by
      rcases Nat.lt_or_gt_of_ne hne with g | g
      · have := set_lt hl g hi; omega
      · have := set_lt hl g hj; omega)] at h3
    have h4 : ∃ j : Nat, j < m.length ∧ plc (nth m (j : Int)).page (nth m (j : Int)).bore = plc (nth l (i : Int)).page (nth l (i : Int)).bore := by
      apply Classical.byContradiction
      intro g
      have := manyTo_none (l := m) (k := plc (nth l (i : Int)).page (nth l (i : Int)).bore) (i := m.length) fun j hj e => g ⟨j, hj, e⟩
      omega
    obtain ⟨j, hj, e⟩ := h4
    rw [manyTo_one (m := j) e hj (fun q hq hne e2 => by
      rcases Nat.lt_or_gt_of_ne hne with g | g
      · have := set_lt hm g hj; omega
      · have := set_lt hm g hq; omega)] at h3
    have h5 := isSetB hm hj
    have h6 : nth l (i : Int) = nth m (j : Int) := by
      unfold plc at e
      cases hx1 : nth l (i : Int) with
      | mk a b c =>
        cases hy1 : nth m (j : Int) with
        | mk a' b' c' =>
          rw [hx1] at h1 h3 e
          rw [hy1] at h5 h3 e
          simp only [] at h1 h3 e h5
          congr 1 <;> omega
    rw [h6]; exact mem_nth.2 ⟨j, hj, rfl⟩
  exact eq_of_pwG (R := fun p q => pOf p < pOf q) (fun p => by omega) (fun p q r h1 h2 => by omega) (hpw hl) (hpw hm) fun x => ⟨key hl hm hln hmn h0 x, key hm hl hmn hln (fun k hk => (h0 k hk).symm) x⟩
end Go.Flong
namespace Go.Flong
open Go Go.Eng
theorem otTo_nil : ∀ i : Nat, otTo [] i = (List.range i).map fun (j : Nat) => (j : Int)
  | 0 => rfl
  | i + 1 => by
    have h : inL [] (i : Int) = false := rfl
    rw [otTo, h, otTo_nil i, List.range_succ, List.map_append]; rfl
theorem map_nth (l : List Tal) : (List.range l.length).map (fun i : Nat => nth l (i : Int)) = l := by
  apply List.ext_getElem
  · simp
  · intro i h1 h2
    rw [List.getElem_map, List.getElem_range, nthG h2]
theorem cnt_all (b : Book) (k : Int) : cntP b (othersR b []) k = b.tals.countP fun t => decide (plT b.hall t = k) := by
  unfold cntP othersR
  rw [otTo_nil, List.countP_map]
  have h := congrArg (List.countP fun t => decide (plT b.hall t = k)) (map_nth b.tals)
  rw [List.countP_map] at h
  rw [← h]
  rfl
structure Borne (h : Hall) (p : Plan) : Prop where
  k : BornOK h p
  z : askE (bornB h p) true = 0
  f : ((blame (bornB h p)).length : Int) = 0
  l : lfV (bornB h p) = []
  r : ∀ (m i : Nat), m < p.length → i < (nth p (m : Int)).length → rdE (bornB h p) (m : Int) (nth h.buns (nth (nth p (m : Int)) (i : Int))).edition 99 = 0 ∧ rdV (bornB h p) (m : Int) (nth h.buns (nth (nth p (m : Int)) (i : Int))).edition 99 = 1
theorem have_need {h : Hall} (hc : h.chk = true) {p : Plan} (hp : isPlanR h p = true) {k : Nat} (hk : k < 12) : haveP (bornB h p) (k : Int) = ((tAll h p).countP (fun t => decide (plT h t = (k : Int))) : Int) := by
  have hC := hallC hc
  have hP := planQ hp
  have h2 := tTo_cnt hC hP hk p.length (Nat.le_refl _)
  have h4 : haveP (bornB h p) (k : Int) = if 0 < nth (needL h p) (k : Int) then nth (needL h p) (k : Int) else 0 := setTo_many (needL h p) (needL h p).length (k := k) (by rw [show needL h p = needTo h p p.length from rfl, needTo_len]; exact hk)
  have h5 := needTo_nth hC hP p.length (Nat.le_refl _) k hk
  have h6 : needL h p = needTo h p p.length := rfl
  have h7 : tAll h p = tTo h p p.length := rfl
  rw [h4, h7, h2, h6]
  split <;> omega
theorem borne {h : Hall} (hc : h.chk = true) {p : Plan} (hp : isPlanR h p = true) (h8 : (tAll h p).length ≤ 8) : Borne h p := by
  have hC := hallC hc
  have hP := planQ hp
  have hok := born_ok hc hp h8
  have hB := bookB hok.c
  have hn := hok.n
  have hg := born_good hc hp h8 (all_rl (bornB h p))
  have hno := no_false hok.c hg
  have z : askE (bornB h p) true = 0 := askE_eq.2 ⟨hok.c, rfl⟩
  have hs40 : (bornB h p).set.length ≤ 40 := by show (setOf (needL h p)).length ≤ 40; omega
  have hi := tTo_inv h p p.length
  refine ⟨hok, z, by rw [hno.2.1]; rfl, ?_, fun m i hm hi2 => ?_⟩
  · have law := left_law2 hok.c hs40
    refine set_nil law.s (by have := law.n; omega) fun k hk => ?_
    rw [left_all hok.c hs40 hg hk, cnt_all, have_need hc hp hk]
    exact Int.sub_self _
  · have hx := hP.b m hm i hi2
    have he := hC.ed _ hx.1 hx.2
    have hmm : (m : Int) < h.machs.length := by have := hP.n; omega
    have hpr : isPrintB (bornB h p) (m : Int) (nth h.buns (nth (nth p (m : Int)) (i : Int))).edition 99 = true := by
      simp only [isPrintB, within, Bool.and_eq_true, decide_eq_true_eq]
      refine ⟨⟨⟨by omega, ?_⟩, he.1, ?_⟩, by omega⟩
      · show (m : Int) ≤ (h.machs.length : Int) - 1
        omega
      · show (nth h.buns (nth (nth p (m : Int)) (i : Int))).edition ≤ (h.eds.length : Int) - 1
        omega
    obtain ⟨r1, r2⟩ := rdV_eq hok.c hpr
    refine ⟨r1, ?_⟩
    rw [r2, knB_1]
    intro s hs
    have h82 : (bornB h p).tals.length ≤ 8 := h8
    have hst := (mem_storS h82).1 (List.mem_map.2 ⟨s, hs, rfl⟩)
    have hbits := hno.2.2 _ hst
    rw [rd_iff h82 (stS_256 h82 hs), hbits]
    intro j hj
    have hedin := edOf_in hC hx.1 hx.2 j hj
    have hneed : needsR h (nth p (m : Int)) ((nth (edOf h (nth (nth p (m : Int)) (i : Int))) (j : Int)).toNat : Int) = true := by
      rw [needsR_iff]
      refine ⟨i, hi2, ?_⟩
      rw [show (((nth (edOf h (nth (nth p (m : Int)) (i : Int))) (j : Int)).toNat : Nat) : Int) = nth (edOf h (nth (nth p (m : Int)) (i : Int))) (j : Int) by omega]
      exact mem_nth.2 ⟨j, hj, rfl⟩
    obtain ⟨q, hq, e1, e2⟩ := hi.e m (nth (edOf h (nth (nth p (m : Int)) (i : Int))) (j : Int)).toNat (by omega) (.inl hm) hneed
    have h3 := hi.a q hq
    have h9 : (tTo h p p.length).length ≤ 8 := h8
    refine ⟨(q : Int), mem_others.2 ⟨by omega, ?_, by simp⟩, ?_, e1, ?_⟩
    · show (q : Int) < ((tTo h p p.length).length : Int)
      omega
    · show (nth (tTo h p p.length) (q : Int)).page = nth (edOf h (nth (nth p (m : Int)) (i : Int))) (j : Int)
      omega
    · show (nth (tTo h p p.length) (q : Int)).min ≤ 99
      omega
theorem phi_psi {k x : Int} (h : 0 ≤ x) : psi k (phi k x) = x := by
  unfold psi phi
  by_cases g : x < k
  · rw [if_pos g, if_pos g]
  · rw [if_neg g, if_neg (by omega)]; omega
structure BorneOut (h : Hall) (p : Plan) (k : Int) : Prop where
  c : ((bornB h p).wo k).chk = true
  z : askE ((bornB h p).wo k) true = 0
  n : (lfV ((bornB h p).wo k)).length ≤ 40
  l : samePl (lfV ((bornB h p).wo k)) [⟨(nth (tAll h p) k).page, nth h.bores (nth (tAll h p) k).mach, 1⟩] = true
  r : ∀ i : Nat, i < h.eds.length → inL (nth h.eds (i : Int)) (nth (tAll h p) k).page = true → rdE ((bornB h p).wo k) (nth (tAll h p) k).mach (i : Int) 99 = 0 ∧ rdV ((bornB h p).wo k) (nth (tAll h p) k).mach (i : Int) 99 = 2
  b : 0 ≤ (nth (tAll h p) k).mach ∧ (nth (tAll h p) k).mach < h.bores.length
theorem borne_out {h : Hall} (hc : h.chk = true) {p : Plan} (hp : isPlanR h p = true) (h8 : (tAll h p).length ≤ 8) {k : Int} (hk : 0 ≤ k ∧ k < (tAll h p).length) : BorneOut h p k := by
  have hC := hallC hc
  have hP := planQ hp
  have hok := born_ok hc hp h8
  have hi := tTo_inv h p p.length
  have hk2 : 0 ≤ k ∧ k < (bornB h p).tals.length := hk
  have hO := wo_chk hok.c hk2
  have hBO := bookB hO
  have h8o := hBO.t
  have hlen := wo_len hk2
  have hn := hok.n
  have hs40 : ((bornB h p).wo k).set.length ≤ 40 := by show (setOf (needL h p)).length ≤ 40; omega
  have hs1000 : (bornB h p).set.length ≤ 1000 := by show (setOf (needL h p)).length ≤ 1000; omega
  have hkt : k.toNat < (tTo h p p.length).length := by have : (k : Int) < ((tTo h p p.length).length : Int) := hk.2; omega
  have ek : ((k.toNat : Nat) : Int) = k := by omega
  have hta := hi.a k.toNat hkt
  rw [ek] at hta
  have hpl := hP.n
  have hbo := hC.o
  have htb : 0 ≤ (nth (tAll h p) k).mach ∧ (nth (tAll h p) k).mach < h.bores.length := by
    show 0 ≤ (nth (tTo h p p.length) k).mach ∧ (nth (tTo h p p.length) k).mach < h.bores.length
    omega
  have hbb := hC.b (nth (tAll h p) k).mach.toNat (by omega)
  rw [show (((nth (tAll h p) k).mach.toNat : Nat) : Int) = (nth (tAll h p) k).mach by omega] at hbb
  have hg : good ((bornB h p).wo k) (othersR ((bornB h p).wo k) []) = true := by
    have hr := all_rl ((bornB h p).wo k)
    have hin := rl_in hr
    have hr2 : rl (bornB h p) ((othersR ((bornB h p).wo k) []).map (phi k)) := by
      have hr3 := hr
      rw [rl_iff] at hr3 ⊢
      refine ⟨fun z hz => ?_, ?_⟩
      · obtain ⟨x, hx, rfl⟩ := List.mem_map.1 hz
        have := hin x hx
        exact phi_in hk2 (by omega)
      · rw [List.pairwise_map]
        exact hr3.2.imp fun {x y} hxy => by unfold phi; split <;> split <;> omega
    have hg2 := born_good hc hp h8 hr2
    have hno : k ∉ (othersR ((bornB h p).wo k) []).map (phi k) := fun g => by
      obtain ⟨x, hx, e⟩ := List.mem_map.1 g
      unfold phi at e; split at e <;> omega
    have hd := (wo_down hok.c hs1000 hk2 hr2 hg2 hno).2
    rw [List.map_map] at hd
    have e : (othersR ((bornB h p).wo k) []).map (psi k ∘ phi k) = othersR ((bornB h p).wo k) [] := by
      conv => rhs; rw [← List.map_id (othersR ((bornB h p).wo k) [])]
      exact List.map_congr_left fun x hx => phi_psi (hin x hx).1
    rw [e] at hd; exact hd
  have hnof := no_false hO hg
  have law := left_law2 hO hs40
  have hone : isSet [(⟨(nth (tAll h p) k).page, nth h.bores (nth (tAll h p) k).mach, 1⟩ : Plate)] = true := isSet_of (fun q hq => by
    rw [List.mem_singleton] at hq
    subst hq
    have h1 : 0 ≤ (nth (tTo h p p.length) k).page ∧ (nth (tTo h p p.length) k).page < 4 := ⟨hta.2.2.1, hta.2.2.2.1⟩
    have h1 : 0 ≤ (nth (tAll h p) k).page ∧ (nth (tAll h p) k).page < 4 := h1
    simp only [Plate.chk, within, Bool.and_eq_true, decide_eq_true_eq]
    omega) (List.pairwise_singleton _ _)
  refine ⟨hO, askE_eq.2 ⟨hO, rfl⟩, law.n, ?_, fun i hi2 hin => ?_, htb⟩
  · have e : lfV ((bornB h p).wo k) = [⟨(nth (tAll h p) k).page, nth h.bores (nth (tAll h p) k).mach, 1⟩] := by
      refine set_eq law.s hone (by have := law.n; omega) (by simp) fun q hq => ?_
      rw [left_all hO hs40 hg hq, cnt_all, one_nth (setPls hone (by simp)) (by omega) (by omega)]
      have h1 := have_need hc hp hq
      have h2 : haveP ((bornB h p).wo k) (q : Int) = haveP (bornB h p) (q : Int) := rfl
      have h3 : ((bornB h p).wo k).tals = (tAll h p).eraseIdx k.toNat := cutT_eq _ _ hk.1
      have h4 : (tAll h p).countP (fun t => decide (plT h t = (q : Int))) = ((tAll h p).eraseIdx k.toNat).countP (fun t => decide (plT h t = (q : Int))) + if plT h (nth (tAll h p) k) = (q : Int) then 1 else 0 := by
        have hkt2 : k.toNat < (tAll h p).length := hkt
        have h5 : tAll h p = (tAll h p).take k.toNat ++ (tAll h p)[k.toNat] :: (tAll h p).drop (k.toNat + 1) := by
          rw [← List.drop_eq_getElem_cons hkt2, List.take_append_drop]
        have h6 : nth (tAll h p) k = (tAll h p)[k.toNat] := (congrArg (nth (tAll h p)) ek).symm.trans (nthG hkt2)
        rw [List.eraseIdx_eq_take_drop_succ, List.countP_append, h6]
        conv => lhs; rw [h5]
        rw [List.countP_append, List.countP_cons]
        by_cases g : plT h (tAll h p)[k.toNat] = (q : Int)
        · simp only [g, decide_true, if_true]; omega
        · simp only [g, decide_false, if_false]; simp
      rw [h2, h1, h3, h4]
      have h7 : pOf (⟨(nth (tAll h p) k).page, nth h.bores (nth (tAll h p) k).mach, 1⟩ : Plate) = plT h (nth (tAll h p) k) := rfl
      rw [h7]
      have h8 : (((bornB h p).wo k).hall) = h := rfl
      rw [h8]
      split <;> simp <;> omega
    rw [e]; exact samePl_refl _
  · have hpr : isPrintB ((bornB h p).wo k) (nth (tAll h p) k).mach (i : Int) 99 = true := by
      simp only [isPrintB, within, Bool.and_eq_true, decide_eq_true_eq]
      refine ⟨⟨⟨by omega, ?_⟩, by omega, ?_⟩, by omega⟩
      · show (nth (tAll h p) k).mach ≤ (h.machs.length : Int) - 1
        omega
      · show (i : Int) ≤ (h.eds.length : Int) - 1
        omega
    obtain ⟨r1, r2⟩ := rdV_eq hO hpr
    refine ⟨r1, ?_⟩
    rw [r2, knB_2 h8o]
    intro s hs
    rw [← Bool.not_eq_true, rd_iff h8o (stS_256 h8o hs)]
    intro hall
    obtain ⟨j, hj, e⟩ := mem_nth.1 (inL_iff.1 hin)
    obtain ⟨x, hx, h1, h2, _⟩ := hall j hj
    have hx2 := (mem_others.1 hx)
    have hx3 : 0 ≤ x ∧ x < ((bornB h p).tals.length : Int) - 1 := by omega
    rw [wo_tals hk2 hx3] at h1 h2
    have hph := phi_in hk2 hx3
    have hne : phi k x ≠ k := by unfold phi; split <;> omega
    have h1 : (nth (tTo h p p.length) (phi k x)).page = nth (nth h.eds (i : Int)) (j : Int) := h1
    have h2 : (nth (tTo h p p.length) (phi k x)).mach = (nth (tTo h p p.length) k).mach := h2
    have e : nth (nth h.eds (i : Int)) (j : Int) = (nth (tTo h p p.length) k).page := e
    have hph : 0 ≤ phi k x ∧ phi k x < ((tTo h p p.length).length : Int) := hph
    have ex : (((phi k x).toNat : Nat) : Int) = phi k x := by omega
    rcases Nat.lt_or_gt_of_ne (show (phi k x).toNat ≠ k.toNat by omega) with g | g
    · have := hi.o _ _ g hkt
      rw [ek, ex] at this; omega
    · have := hi.o _ _ g (by omega)
      rw [ek, ex] at this; omega
theorem born_small {h : Hall} (hm : h.Small) {p : Plan} (hn : (setOf (needL h p)).length ≤ 12) (hr : p.length ≤ 3) : (bornB h p).Small := ⟨hm, by show (setOf (needL h p)).length ≤ 40; omega, by show (List.replicate h.bores.length (0 : Int)).length ≤ 40; rw [List.length_replicate]; exact hm.o, by
  show (tTo h p p.length).length ≤ 40
  have := tTo_len h p p.length
  omega⟩
theorem xt_n : isPlanR exK [[0], [1]] = true ∧ (setOf (needL exK [[0], [1]])).length = 4 := by decide +kernel
theorem xt_b : blame exB = [0] ∧ askE exB true = 0 := by decide +kernel
theorem xt_k : exK.chk = true := by decide +kernel
theorem rows_x : RowsP [[0], [1]] := ⟨by decide, fun i hi => by
  have : i = 0 ∨ i = 1 := by simp at hi; omega
  rcases this with rfl | rfl <;> decide⟩
end Go.Flong
namespace Go.Flong
open Go Go.Eng Go.Proofs
theorem e76 : Enters' Tryz.prog 76 := Tryz.call76
theorem e72 : Enters' Tryz.prog 72 := Tryz.call72
theorem e51 : Enters' Tryz.prog 51 := Tryz.call51
theorem e67 : Enters' Tryz.prog 67 := Tryz.call67
theorem e70 : Enters' Tryz.prog 70 := Tryz.call70
theorem e71 : Enters' Tryz.prog 71 := Tryz.call71
theorem e75 : Enters' Tryz.prog 75 := Tryz.call75
theorem e62 : Enters' Tryz.prog 62 := Tryz.call62
theorem e30 : Enters' Tryz.prog 30 := Tryz.call30
theorem e50 : Enters' Tryz.prog 50 := Tryz.call50
theorem e21 : Enters' Tryz.prog 21 := Tryz.call21
theorem e56 : Enters' Tryz.prog 56 := Tryz.call56
theorem e44 : Enters' Tryz.prog 44 := Tryz.call44
theorem w71  : ∀ x ∈ ([] : List SV), x.res (keys (α := Pred) [(0, (Pred.tab 1 tz64))]) := by simp [SV.res, El.res, At.res, keys]
theorem r71  : SV.res (keys (α := Pred) []) (.b (true)) := by simp [SV.res, El.res, At.res, keys]
set_option maxHeartbeats 4000000 in
set_option maxRecDepth 10000 in
theorem c71   : Sig Tryz.prog 71 [] [(0, (Pred.tab 1 tz64))] (.b (true)) [] := by
  refine Sig.intro Tryz.func71 rfl 1 [] rfl w71 rfl rfl fun I w => ?_
  refine WP.seq (WP.region ?_)
  refine WPl.v rfl (o_assign rfl) ?_
  refine WPl.nil (EX.then (WP.seq (WP.region ?_)))
  refine WPl.cs 11 rfl rfl rfl rfl (o_sig 1 id c126 e126 rfl rfl rfl w126 trivial r126) ?_
  refine WPl.v rfl (o_move rfl) ?_
  refine WPl.v rfl (o_extract rfl rfl) ?_
  refine WPl.v rfl (o_extract rfl rfl) ?_
  refine WPl.l 11 12 rfl rfl rfl (o_alloc Z29) ?_
  refine WPl.l 12 13 rfl rfl rfl (o_alloc Z29) ?_
  refine WPl.s1 (o_stag G29 rfl rfl rfl ⟨(.inl ⟨_, (lx rfl), PL.one⟩), (.inl ⟨_, (lx rfl), PL.one⟩), (.inl ⟨_, (lx rfl), PL.one⟩), rfl, (.inl ⟨_, (lx rfl), PL.one⟩), (.inl ⟨_, (lx rfl), PL.one⟩), trivial⟩ rfl rfl) ?_
  refine WPl.s1 (o_stag G29 rfl rfl rfl ⟨(.inl ⟨_, (lx rfl), PL.one⟩), (.inl ⟨_, (lx rfl), PL.one⟩), (.inl ⟨_, (lx rfl), PL.one⟩), rfl, (.inl ⟨_, (lx rfl), PL.one⟩), (.inl ⟨_, (lx rfl), PL.one⟩), trivial⟩ rfl rfl) ?_
  refine WPl.nil (EX.then (WP.seq (WP.region ?_)))
  refine WPl.cs 29 rfl rfl rfl rfl (o_sig 13 id c76 e76 rfl rfl rfl w76 trivial r76) ?_
  refine WPl.v rfl (o_move rfl) ?_
  refine WPl.v rfl (o_extract rfl rfl) ?_
  refine WPl.v rfl (o_extract rfl rfl) ?_
  refine WPl.l 29 30 rfl rfl rfl (o_alloc Z33) ?_
  refine WPl.l 30 31 rfl rfl rfl (o_alloc Z33) ?_
  refine WPl.s1 (o_stag G33 rfl rfl rfl ⟨(.inl ⟨_, (lx rfl), PL.one⟩), (.inl ⟨_, (lx rfl), PL.one⟩), (.inl ⟨_, (lx rfl), PL.one⟩), rfl, (.inl ⟨_, (lx rfl), PL.one⟩), (.inl ⟨_, (lx rfl), PL.one⟩), (.inl ⟨_, (lx rfl), PL.one⟩), (.inl ⟨_, (lx rfl), PL.one⟩), rfl, (.inl ⟨_, (lx rfl), PL.one⟩), trivial⟩ rfl rfl) ?_
  refine WPl.s1 (o_stag G33 rfl rfl rfl ⟨(.inl ⟨_, (lx rfl), PL.one⟩), (.inl ⟨_, (lx rfl), PL.one⟩), (.inl ⟨_, (lx rfl), PL.one⟩), rfl, (.inl ⟨_, (lx rfl), PL.one⟩), (.inl ⟨_, (lx rfl), PL.one⟩), (.inl ⟨_, (lx rfl), PL.one⟩), (.inl ⟨_, (lx rfl), PL.one⟩), rfl, (.inl ⟨_, (lx rfl), PL.one⟩), trivial⟩ rfl rfl) ?_
  refine WPl.nil (EX.then (WP.seq (WP.region ?_)))
  refine WPl.v rfl (o_ldpa G29 rfl rfl rfl) ?_
  refine WPl.x 31 32 rfl rfl rfl (OpG.settle0 (o_bsl (E := EP.int) (l := [0]) R24 rfl rfl (.cons (rfl) rfl (eok_int) (.nil)) rfl rfl)) ?_
  refine WPl.x 32 33 rfl rfl rfl (OpG.settle0 (o_bsl (E := EP.int) (l := [1]) R24 rfl rfl (.cons (rfl) rfl (eok_int) (.nil)) rfl rfl)) ?_
  refine WPl.x 33 34 rfl rfl rfl (OpG.settle0 (o_bsl (E := (EP.sl EP.int)) (l := [[0], [1]]) R27 rfl rfl (.cons ((.inl ⟨_, (lx rfl), PL.one⟩)) rfl (eok_sl (lx rfl)) (.cons ((.inl ⟨_, (lx rfl), PL.one⟩)) rfl (eok_sl (lx rfl)) (.nil))) rfl rfl)) ?_
  refine WPl.cs 35 rfl rfl rfl rfl (o_sig 34 (ren [(0, 1), (1, 2), (2, 3), (3, 4), (4, 5), (5, 33)]) (c72 exK [[0], [1]] exK_small xt_k xt_n.1 rows_x) e72 rfl rfl rfl w72 ⟨(lx rfl), (lx rfl), (lx rfl), (lx rfl), (lx rfl), (lx rfl), trivial⟩ r72) ?_
  refine WPl.v rfl (o_move rfl) ?_
  refine WPl.v rfl (o_extract rfl rfl) ?_
  refine WPl.v rfl (o_extract rfl rfl) ?_
  refine WPl.v rfl (o_assign rfl) ?_
  refine WPl.v rfl (o_assign rfl) ?_
  refine WPl.nil (EX.then (WP.seq (WP.region ?_)))
  refine WPl.v rfl (o_ldpa G33 rfl rfl rfl) ?_
  refine WPl.cs 36 rfl rfl rfl rfl (o_sig 35 (ren [(0, 13), (1, 14), (2, 15), (3, 16), (4, 17), (5, 18), (6, 19), (7, 20), (8, 0)]) (c31 exB exB_small) e31 rfl rfl rfl w31 ⟨(lx rfl), (lx rfl), (lx rfl), (lx rfl), (lx rfl), (lx rfl), (lx rfl), (lx rfl), (lx rfl), trivial⟩ r31) ?_
  refine WPl.v rfl (o_move rfl) ?_
  refine WPl.v rfl (o_extract rfl rfl) ?_
  refine WPl.v rfl (o_extract rfl rfl) ?_
  refine WPl.v rfl (o_assign rfl) ?_
  refine WPl.v rfl (o_assign rfl) ?_
  refine WPl.nil (EX.then (WP.seq (WP.region ?_)))
  refine WPl.v rfl (o_move rfl) ?_
  refine WPl.v rfl (o_eql rfl rfl) ?_
  refine WPl.imp (Imp.bitF 31 (b' := true) rfl (by simp)) ?_
  refine WPl.v rfl (o_move rfl) ?_
  refine WPl.on rfl ⟨_, _, rfl, rfl, rfl⟩ (o_move rfl) ?_
  refine WPl.on rfl ⟨_, _, rfl, rfl, rfl⟩ (o_eql rfl rfl) ?_
  refine WPl.imp (Imp.bitF 34 (b' := true) rfl (decide_eq_true xt_b.2)) ?_
  refine WPl.v rfl (o_pickT rfl rfl) ?_
  refine WPl.v rfl (o_move rfl) ?_
  refine WPl.on rfl ⟨_, _, rfl, rfl, rfl⟩ (o_move rfl) ?_
  refine WPl.ung ⟨_, _, rfl, rfl, rfl⟩ ?_
  refine WPl.v rfl (o_lenq L30 rfl (lx rfl)) ?_
  refine WPl.on rfl ⟨_, _, rfl, rfl, rfl⟩ (o_eql rfl rfl) ?_
  refine WPl.imp (Imp.bitF 39 (b' := true) rfl (decide_eq_true (by have h := xt_n.2; omega))) ?_
  refine WPl.v rfl (o_pickT rfl rfl) ?_
  refine WPl.v rfl (o_move rfl) ?_
  refine WPl.on rfl ⟨_, _, rfl, rfl, rfl⟩ (o_move rfl) ?_
  refine WPl.ung ⟨_, _, rfl, rfl, rfl⟩ ?_
  refine WPl.x 36 37 rfl rfl rfl (OpG.settle0 (o_bsl (E := EP.int) (l := [0]) R24 rfl rfl (.cons (rfl) rfl (eok_int) (.nil)) rfl rfl)) ?_
  refine WPl.ung ⟨_, _, rfl, rfl, rfl⟩ ?_
  refine WPl.cs 37 rfl rfl rfl rfl (o_sig 37 (ren [(0, 35), (1, 36)]) (c51 (blame exB) [0] (by rw [xt_b.1]; decide)) e51 rfl rfl rfl w51 ⟨(lx rfl), (lx rfl), trivial⟩ r51) ?_
  refine WPl.imp (Imp.bitF 44 (b' := true) rfl (by rw [xt_b.1]; exact sameInts_refl _)) ?_
  refine WPl.v rfl (o_pickT rfl rfl) ?_
  refine WPl.v rfl (o_assign rfl) ?_
  refine WPl.nil (EX.then (WP.ret ?_))
  exact EX.fin id (.inl rfl) rfl (.tmp rfl .nil) rfl r71 trivial (by simp) (by simp)
theorem w17 {h : Hall} {p : Plan} {k : Int} : ∀ x ∈ ([.e (.g [.q 0, .q 1, .q 2, ai (h.change), .q 3, .q 4]), .e (.a (.q 5)), .i (k)] : List SV), x.res (keys (α := Pred) [(0, PL ETm (h.machs)), (1, PL EBd (h.buns)), (2, PL EP.int (h.trains)), (3, PL EP.int (h.bores)), (4, PL (EP.sl EP.int) (h.eds)), (5, PL (EP.sl EP.int) (p)), (6, (Pred.tab 1 tz64))]) := by simp [SV.res, El.res, At.res, keys]
theorem r17  : SV.res (keys (α := Pred) []) (.b (true)) := by simp [SV.res, El.res, At.res, keys]
set_option maxHeartbeats 4000000 in
set_option maxRecDepth 10000 in
theorem c17 (h : Hall) (p : Plan) (k : Int)  : Sig Tryz.prog 17 [.e (.g [.q 0, .q 1, .q 2, ai (h.change), .q 3, .q 4]), .e (.a (.q 5)), .i (k)] [(0, PL ETm (h.machs)), (1, PL EBd (h.buns)), (2, PL EP.int (h.trains)), (3, PL EP.int (h.bores)), (4, PL (EP.sl EP.int) (h.eds)), (5, PL (EP.sl EP.int) (p)), (6, (Pred.tab 1 tz64))] (.b (true)) [] := by
  refine Sig.intro Tryz.func17 rfl 7 [(0, .e (.g [.q 0, .q 1, .q 2, ai (h.change), .q 3, .q 4])), (1, .e (.a (.q 5))), (2, .i (k))] rfl w17 rfl rfl fun I w => ?_
  refine WP.seq (WP.region ?_)
  refine WPl.l 7 8 rfl rfl rfl (o_boxg rfl) ?_
  refine WPl.v rfl (o_assign rfl) ?_
  refine WPl.nil (EX.then (WP.seq (WP.seq (WP.region ?_))))
  refine WPl.v rfl (o_ldpa G29 rfl rfl rfl) ?_
  refine WPl.cs 8 rfl rfl rfl rfl (o_sig 8 (ren [(0, 0), (1, 1), (2, 2), (3, 3), (4, 4)]) (c67 h) e67 rfl rfl rfl w67 ⟨(lx rfl), (lx rfl), (lx rfl), (lx rfl), (lx rfl), trivial⟩ r67) ?_
  refine WPl.v rfl (o_move rfl) ?_
  refine WPl.bit 8 9 (!(hugeH h)) rfl rfl ?_
  refine WPl.gv 8 rfl rfl (.plain rfl (by first | (simp; done) | simp only [Bool.not_eq_true']) rfl) (fun hb => o_ldpa G29 rfl rfl rfl) ?_
  refine WPl.gc0 8 rfl rfl (.plain rfl (by first | (simp; done) | simp only [Bool.not_eq_true']) rfl) (fun hb => o_sig 9 (ren [(0, 0), (1, 1), (2, 2), (3, 3), (4, 4)]) (c68 h (hugeH_small (by simpa using hb))) e68 rfl rfl rfl w68 ⟨(lx rfl), (lx rfl), (lx rfl), (lx rfl), (lx rfl), trivial⟩ r68) ?_
  refine WPl.gv 8 rfl rfl (.plain rfl (by first | (simp; done) | simp only [Bool.not_eq_true']) rfl) (fun hb => o_neq rfl rfl) ?_
  refine WPl.v rfl (o_or rfl rfl rfl (by first | (simp; done) | exact fun h => by rw [h]; rfl | exact fun h => Bool.and_eq_true_iff.2 ⟨hb, by rw [h]; rfl⟩ | simp_all)) ?_
  refine WPl.v rfl (o_move rfl) ?_
  refine WPl.bit 9 10 (!((hugeH h) || (decide ((errL h.chk) ≠ 0)))) rfl rfl ?_
  refine WPl.gv 9 rfl rfl (.plain rfl (by first | (simp; done) | simp only [Bool.not_eq_true']) rfl) (fun hb => o_move rfl) ?_
  refine WPl.gc0 9 rfl rfl (.plain rfl (by first | (simp; done) | simp only [Bool.not_eq_true']) rfl) (fun hb => o_sig 10 (ren [(0, 5)]) (c69 p) e69 rfl rfl rfl w69 ⟨(lx rfl), trivial⟩ r69) ?_
  refine WPl.v rfl (o_or rfl rfl rfl (by first | (simp; done) | exact fun h => by rw [h]; rfl | exact fun h => Bool.and_eq_true_iff.2 ⟨hb, by rw [h]; rfl⟩ | simp_all)) ?_
  refine WPl.v rfl (o_move rfl) ?_
  refine WPl.bit 10 11 (!(((hugeH h) || (decide ((errL h.chk) ≠ 0))) || (longP p))) rfl rfl ?_
  refine WPl.gv 10 rfl rfl (.plain rfl (by first | (simp; done) | simp only [Bool.not_eq_true']) rfl) (fun hb => o_fldp F29_0 rfl) ?_
  refine WPl.gv 10 rfl rfl (.plain rfl (by first | (simp; done) | simp only [Bool.not_eq_true']) rfl) (fun hb => o_ldpg G26 rfl rfl rfl) ?_
  refine WPl.gv 10 rfl rfl (.plain rfl (by first | (simp; done) | simp only [Bool.not_eq_true']) rfl) (fun hb => o_move rfl) ?_
  refine WPl.gc0 10 rfl rfl (.plain rfl (by first | (simp; done) | simp only [Bool.not_eq_true']) rfl) (fun hb => o_sig 11 (ren [(0, 0), (1, 1), (2, 2), (3, 5)]) (c70 h p (hugeH_small (by simp at hb; exact hb.1.1)) (rowsP_of (by simp at hb; exact hb.2))) e70 rfl rfl rfl w70 ⟨(lx rfl), (lx rfl), (lx rfl), (lx rfl), trivial⟩ r70) ?_
  refine WPl.gv 10 rfl rfl (.plain rfl (by first | (simp; done) | simp only [Bool.not_eq_true']) rfl) (fun hb => o_not rfl) ?_
  refine WPl.v rfl (o_or rfl rfl rfl (by first | (simp; done) | exact fun h => by rw [h]; rfl | exact fun h => Bool.and_eq_true_iff.2 ⟨hb, by rw [h]; rfl⟩ | simp_all)) ?_
  refine WPl.nil (EX.then ?_)
  refine WP.cond rfl (fun hc1 => ?_) (fun hc1 => ?_)
  · try simp only [cnd] at hc1
    refine WP.seq (WP.region ?_)
    refine WPl.cs 11 rfl rfl rfl rfl (o_sig 11 (ren [(0, 6)]) c71 e71 rfl rfl rfl w71 ⟨(lx rfl), trivial⟩ r71) ?_
    refine WPl.v rfl (o_assign rfl) ?_
    refine WPl.nil (EX.then (WP.ret (EX.ret_then ?_)))
    exact EX.fin id (.inl rfl) rfl (.tmp rfl .nil) rfl r17 trivial (by simp) (by simp)
  · try simp only [cnd] at hc1
    have hm := hugeH_small hc1.1.1.1
    have hsmall := hm
    have hc := errL_eq.1 hc1.1.1.2
    have hr := rowsP_of hc1.1.2
    have hp := hc1.2
    have hC := hallC hc
    have hP := planQ hp
    have hns := need_set hc hp
    have hbo := hm.o
    have hrn := hr.n
    have hpn := hP.n
    have hm3 := hC.m
    have hco := hC.o
    have hed := hm.e
    refine WP.skip (EX.then (WP.seq ?_))
    refine WP.draw (nf := 13) [⟨[46, 47], [11], [], [], []⟩, ⟨[45], [], [], [], []⟩, ⟨[45], [], [11], [11], [1]⟩, ⟨[], [], [12], [12], [0, 1, 2]⟩, ⟨[], [], [], [], [0, 1, 2, 3]⟩, ⟨[50], [], [], [], [0, 1, 2, 3, 4]⟩, ⟨[49, 7], [], [], [], [0, 1, 2, 3, 4]⟩, ⟨[50], [], [], [], [0, 1, 2, 3, 4, 5]⟩, ⟨[], [], [], [], [0, 1, 2, 3, 4, 5, 6, 7]⟩] (by kernel_rfl) (by kernel_rfl) ?_
    refine DRQ.v rfl rfl rfl (o_ldpa G29 rfl rfl rfl) ?_
    refine DRQ.v rfl rfl rfl (o_move rfl) ?_
    refine DRQ.cs rfl rfl rfl rfl (o_sig 11 (ren [(0, 5)]) (c73 p (by omega) (fun i hi => by have h1 := hr.r i hi; omega)) e73 rfl rfl rfl w73 ⟨(lx rfl), trivial⟩ r73) ?_
    refine DRQ.cs rfl rfl rfl rfl (o_sig 12 (ren [(0, 0), (1, 1), (2, 2), (3, 3), (4, 4), (5, 11)]) (c72 h p hm hc hp hr) e72 rfl rfl rfl w72 ⟨(lx rfl), (lx rfl), (lx rfl), (lx rfl), (lx rfl), (lx rfl), trivial⟩ r72) ?_
    refine DRQ.v rfl rfl rfl (o_move rfl) ?_
    refine DRQ.v rfl rfl rfl (o_extract rfl rfl) ?_
    refine DRQ.v rfl rfl rfl (o_extract rfl rfl) ?_
    refine DRQ.v rfl rfl rfl (o_assign rfl) ?_
    refine DRQ.v rfl rfl rfl (o_assign rfl) ?_
    refine DRQ.nil' ?_
    refine EX.then (WP.seq (WP.seq (WP.region ?_)))
    refine WPl.v rfl (o_move rfl) ?_
    refine WPl.v rfl (o_neq rfl rfl) ?_
    refine WPl.imp (Imp.bitF 52 (b' := false) rfl (by simp)) ?_
    refine WPl.v rfl (o_move rfl) ?_
    refine WPl.on rfl ⟨_, _, rfl, rfl, rfl⟩ (o_move rfl) ?_
    refine WPl.ung ⟨_, _, rfl, rfl, rfl⟩ ?_
    refine WPl.v rfl (o_lenq L30 rfl (lx rfl)) ?_
    refine WPl.on rfl ⟨_, _, rfl, rfl, rfl⟩ (o_gtr rfl rfl) ?_
    refine WPl.imp (Imp.bitF 56 (b' := false) rfl (decide_eq_false (by have h1 := hns.2; omega))) ?_
    refine WPl.v rfl (o_pickF rfl rfl) ?_
    refine WPl.v rfl (o_move rfl) ?_
    refine WPl.on rfl ⟨_, _, rfl, rfl, rfl⟩ (o_move rfl) ?_
    refine WPl.ung ⟨_, _, rfl, rfl, rfl⟩ ?_
    refine WPl.cs 13 rfl rfl rfl rfl (o_sig 13 (ren [(0, 12)]) (c32 (setOf (needL h p)) (by have h1 := hns.2; omega)) e32 rfl rfl rfl w32 ⟨(lx rfl), trivial⟩ r32) ?_
    refine WPl.imp (Imp.bitF 60 (b' := true) rfl hns.1) ?_
    refine WPl.on rfl ⟨_, _, rfl, rfl, rfl⟩ (o_not rfl) ?_
    refine WPl.v rfl (o_pickF rfl rfl) ?_
    refine WPl.nil (EX.then ?_)
    refine WP.cond rfl (fun h => by cases h) (fun _ => ?_)
    refine WP.skip (EX.then (WP.seq ?_))
    refine WP.draw (nf := 20) [⟨[65, 66, 67, 68, 69, 9], [18, 19], [], [], []⟩, ⟨[65, 66, 67, 68, 69, 9], [18, 19], [13, 14, 15, 16, 17], [13, 14, 15, 16, 17], [0]⟩, ⟨[63, 64, 66, 67, 68, 69, 9], [13, 14, 15, 16, 17, 18, 19], [], [], []⟩, ⟨[63, 64, 65, 9], [13, 14, 15, 16, 17, 19], [], [], []⟩, ⟨[63, 64, 65, 9], [13, 14, 15, 16, 17, 19], [], [], [3]⟩, ⟨[63, 64, 65, 9], [13, 14, 15, 16, 17, 19], [], [], [3, 4]⟩, ⟨[63, 64, 65, 9], [13, 14, 15, 16, 17, 19], [18], [18], [3, 4, 5]⟩, ⟨[9], [19], [], [], [0, 1, 2, 3, 4, 5, 6]⟩, ⟨[63, 64, 65, 66, 67, 68, 69, 70], [13, 14, 15, 16, 17, 18], [19], [19], []⟩, ⟨[], [], [], [19], [0, 1, 2, 3, 4, 5, 6, 7, 8]⟩] (by kernel_rfl) (by kernel_rfl) ?_
    refine DRQ.v rfl rfl rfl (o_ldpa G29 rfl rfl rfl) ?_
    refine DRQ.cs rfl rfl rfl rfl (o_sig 13 (ren [(0, 0), (1, 1), (2, 2), (3, 3), (4, 4)]) (c74 h hm) e74 rfl rfl rfl w74 ⟨(lx rfl), (lx rfl), (lx rfl), (lx rfl), (lx rfl), trivial⟩ r74) ?_
    refine DRQ.v rfl rfl rfl (o_move rfl) ?_
    refine DRQ.v rfl rfl rfl (o_fldp F29_1 rfl) ?_
    refine DRQ.v rfl rfl rfl (o_ldp S24 rfl rfl rfl) ?_
    refine DRQ.v rfl rfl rfl (o_lenq L24 rfl (lx rfl)) ?_
    refine DRQ.l 18 rfl rfl rfl rfl (o_make (z := 0) (E := EP.int) h.bores.length R24 (fun _ => rfl) rfl rfl (by first | omega | (simp; omega)) (by first | omega | (simp; omega))) ?_
    refine DRQ.v rfl rfl rfl (o_build B33 rfl ⟨(.inl ⟨_, (lx rfl), PL.one⟩), (.inr ⟨_, _, _, _, rfl⟩), rfl, trivial⟩ rfl rfl) ?_
    refine DRQ.l 19 rfl rfl rfl rfl (o_alloc Z33) ?_
    refine DRQ.s 19 rfl rfl rfl (o_stag G33 rfl rfl rfl ⟨(.inl ⟨_, (lx rfl), PL.one⟩), (.inl ⟨_, (lx rfl), PL.one⟩), (.inl ⟨_, (lx rfl), PL.one⟩), rfl, (.inl ⟨_, (lx rfl), PL.one⟩), (.inl ⟨_, (lx rfl), PL.one⟩), (.inl ⟨_, (lx rfl), PL.one⟩), (.inr ⟨_, _, _, _, rfl⟩), rfl, rfl, trivial⟩ rfl rfl) ?_
    refine DRQ.nil' ?_
    refine EX.then (WP.seq (WP.seq (WP.region ?_)))
    refine WPl.v rfl (o_assign rfl) ?_
    refine WPl.nil (EX.then (WP.block ?_))
    refine WP.imp (Imp.namo ETa 20 21 58 rfl rfl) ?_
    refine WP.imp (Imp.swL 19 9 20 rfl rfl (lx rfl)) ?_
    refine WP.loop (Gh := Nat) (fun i => ⟨21, [(1, .e (.a (.q 5))), (2, .i (k)), (3, .e (.a (.p 7 (0)))), (6, .b (false)), (9, .e (.a (.p 19 (0)))), (10, .i ((i : Int)))], [(0, PL ETm (h.machs)), (1, PL EBd (h.buns)), (2, PL EP.int (h.trains)), (3, PL EP.int (h.bores)), (4, PL (EP.sl EP.int) (h.eds)), (5, PL (EP.sl EP.int) (p)), (6, (Pred.tab 1 tz64)), (12, PL EPl (setOf (needL h p))), (13, PL ETm (h.machs)), (14, PL EBd (h.buns)), (15, PL EP.int (h.trains)), (16, PL EP.int (h.bores)), (17, PL (EP.sl EP.int) (h.eds))], [(7, .blk [.q 0, .q 1, .q 2, ai (h.change), .q 3, .q 4] 29), (18, .own 3 EP.int.size (List.replicate h.bores.length 0).length (RP EP.int (List.replicate h.bores.length 0))), (19, .blk [.q 13, .q 14, .q 15, ai (h.change), .q 16, .q 17, .q 12, .q 18, ai (1), .q 20] 33), (20, .own 58 ETa.size (tTo h p i).length (RP ETa (tTo h p i)))], [], []⟩) (fun i => i ≤ p.length) (fun i => p.length - i) (0) id ?_ (LeR.of ⟨rfl, rfl, rfl, rfl, rfl, rfl, trivial⟩ ⟨(lx rfl), (lx rfl), (lx rfl), (lx rfl), (lx rfl), (lx rfl), (lx rfl), (lx rfl), (lx rfl), (lx rfl), (lx rfl), (lx rfl), (lx rfl), trivial⟩ ⟨rfl, rfl, rfl, (congrArg (fun z => some (Ent.own 58 ETa.size (List.length z) (RP ETa z))) (show ([]) = ((fun i => tTo h p i) 0) from rfl)), trivial⟩ rfl rfl rfl rfl rfl) ?_
    · first | trivial | omega | (constructor <;> omega) | simp
    intro i hφ
    have hi : i ≤ p.length := hφ
    refine WP.seq (WP.seq (WP.region ?_))
    refine WPl.v rfl (o_move rfl) ?_
    refine WPl.v rfl (o_move rfl) ?_
    refine WPl.v rfl (o_lenq L27 rfl (lx rfl)) ?_
    refine WPl.v rfl (o_lss rfl rfl) ?_
    refine WPl.nil (EX.then ?_)
    refine WP.cond rfl (fun hc3 => ?_) (fun hc3 => ?_)
    · try simp only [cnd] at hc3
      refine WP.skip (EX.then (WP.seq (WP.block (WP.seq (WP.region ?_)))))
      refine WPl.v rfl (o_assign rfl) ?_
      refine WPl.nil (EX.then (WP.block ?_))
      refine WP.loop (Gh := Nat) (fun j => ⟨21, [(1, .e (.a (.q 5))), (2, .i (k)), (3, .e (.a (.p 7 (0)))), (6, .b (false)), (9, .e (.a (.p 19 (0)))), (10, .i ((i : Int))), (71, .i ((i : Int))), (72, .e (.a (.q 5))), (73, .i ((p.length : Int))), (74, .b (decide ((i : Int) < (p.length : Int)))), (11, .i ((j : Int)))], [(0, PL ETm (h.machs)), (1, PL EBd (h.buns)), (2, PL EP.int (h.trains)), (3, PL EP.int (h.bores)), (4, PL (EP.sl EP.int) (h.eds)), (5, PL (EP.sl EP.int) (p)), (6, (Pred.tab 1 tz64)), (12, PL EPl (setOf (needL h p))), (13, PL ETm (h.machs)), (14, PL EBd (h.buns)), (15, PL EP.int (h.trains)), (16, PL EP.int (h.bores)), (17, PL (EP.sl EP.int) (h.eds))], [(7, .blk [.q 0, .q 1, .q 2, ai (h.change), .q 3, .q 4] 29), (18, .own 3 EP.int.size (List.replicate h.bores.length 0).length (RP EP.int (List.replicate h.bores.length 0))), (19, .blk [.q 13, .q 14, .q 15, ai (h.change), .q 16, .q 17, .q 12, .q 18, ai (1), .q 20] 33), (20, .own 58 ETa.size (tIn h p i (tTo h p i) j).length (RP ETa (tIn h p i (tTo h p i) j)))], [], []⟩) (fun j => j ≤ 4) (fun j => 4 - j) (0) id ?_ (LeR.of ⟨rfl, rfl, rfl, rfl, rfl, rfl, rfl, rfl, rfl, rfl, rfl, trivial⟩ ⟨(lx rfl), (lx rfl), (lx rfl), (lx rfl), (lx rfl), (lx rfl), (lx rfl), (lx rfl), (lx rfl), (lx rfl), (lx rfl), (lx rfl), (lx rfl), trivial⟩ ⟨rfl, rfl, rfl, (congrArg (fun z => some (Ent.own 58 ETa.size (List.length z) (RP ETa z))) (show (tTo h p i) = ((fun j => tIn h p i (tTo h p i) j) 0) from rfl)), trivial⟩ rfl rfl rfl rfl rfl) ?_
      · first | trivial | omega | (constructor <;> omega) | simp
      intro j hφ
      have hj : j ≤ 4 := hφ
      refine WP.seq (WP.seq (WP.region ?_))
      refine WPl.v rfl (o_move rfl) ?_
      refine WPl.v rfl (o_lss rfl rfl) ?_
      refine WPl.nil (EX.then ?_)
      refine WP.cond rfl (fun hc4 => ?_) (fun hc4 => ?_)
      · try simp only [cnd] at hc4
        have hri := hr.r i (by omega)
        refine WP.skip (EX.then (WP.seq (WP.block (WP.seq ?_))))
        refine WP.draw (nf := 23) [⟨[82, 83, 84, 85, 86], [21, 22], [], [], []⟩, ⟨[81, 83, 86], [], [], [], []⟩, ⟨[81, 82, 86], [], [], [], []⟩, ⟨[81, 86], [], [21], [21], [1, 2]⟩, ⟨[81, 86], [], [22], [22], [1, 2, 3]⟩, ⟨[81, 82, 83, 84, 85], [21, 22], [], [], []⟩, ⟨[], [], [], [], [0, 1, 2, 3, 4, 5]⟩] (by kernel_rfl) (by kernel_rfl) ?_
        refine DRQ.v rfl rfl rfl (o_ldpa G29 rfl rfl rfl) ?_
        refine DRQ.v rfl rfl rfl (o_move rfl) ?_
        refine DRQ.v rfl rfl rfl (o_move rfl) ?_
        refine DRQ.x 21 rfl rfl rfl rfl (o_idx L27 rfl (lx rfl) rfl (by first | omega | (simp; omega)) (by first | omega | (simp; omega))) ?_
        refine DRQ.x 22 rfl rfl rfl rfl (o_ldqx S24 rfl (lx rfl) slx) ?_
        refine DRQ.v rfl rfl rfl (o_move rfl) ?_
        refine DRQ.cs rfl rfl rfl rfl (o_sig 23 (ren [(0, 0), (1, 1), (2, 2), (3, 3), (4, 4), (5, 22)]) (c75 h (nth p (i : Int)) (j : Int) hm hc (by omega) (fun q hq => hP.b i (by omega) q hq)) e75 rfl rfl rfl w75 ⟨(lx rfl), (lx rfl), (lx rfl), (lx rfl), (lx rfl), (lx rfl), trivial⟩ r75) ?_
        refine DRQ.nil' ?_
        refine EX.then ?_
        refine WP.cond rfl (fun hc5 => ?_) (fun hc5 => ?_)
        · try simp only [cnd] at hc5
          refine WP.region ?_
          refine WPl.v rfl (o_fldp F33_4 rfl) ?_
          refine WPl.v rfl (o_ldp S31 rfl rfl rfl) ?_
          refine WPl.v rfl (o_move rfl) ?_
          refine WPl.v rfl (o_move rfl) ?_
          refine WPl.v rfl (o_fldp F33_4 rfl) ?_
          refine WPl.v rfl (o_ldp S31 rfl rfl rfl) ?_
          refine WPl.v rfl (o_leno L31 rfl rfl) ?_
          refine WPl.v rfl (o_build B58 rfl ⟨rfl, rfl, rfl, trivial⟩ rfl rfl) ?_
          refine WPl.l 23 24 rfl rfl rfl (o_bsl (E := ETa) (l := [(⟨0, (j : Int), (i : Int), ((tIn h p i (tTo h p i) j).length : Int)⟩ : Tal)]) R31 rfl rfl (.cons (⟨rfl, rfl, rfl, rfl, trivial⟩) rfl (eok_str ⟨rfl, rfl, rfl, rfl, trivial⟩) (.nil)) rfl rfl) ?_
          refine WPl.u1 (k := 24) (m := 25) rfl rfl rfl (o_appo R31 EP.str_one rfl rfl rfl rfl (by have h1 := tIn_len h p i (tTo h p i) j; have h2 := tTo_len h p i; first | omega | (simp; omega)) (by have h1 := tIn_len h p i (tTo h p i) j; have h2 := tTo_len h p i; first | omega | (simp; omega))) ?_
          refine WPl.v rfl (o_fldp F33_4 rfl) ?_
          refine WPl.s1 (o_sta S31 rfl rfl rfl (.inr ⟨_, _, _, _, rfl⟩) rfl) ?_
          refine WPl.nil (EX.blk (EX.then (WP.region ?_)))
          refine WPl.v rfl (o_move rfl) ?_
          refine WPl.v rfl (o_add rfl rfl (by first | omega | (simp; omega)) (by first | omega | (simp; omega))) ?_
          refine WPl.v rfl (o_assign rfl) ?_
          refine WPl.nil ?_
          refine EX.again (j + 1) (ren [(20, 24)]) (by first | omega | (constructor <;> omega)) (by omega) (LeR.of ⟨rfl, rfl, rfl, rfl, rfl, rfl, rfl, rfl, rfl, rfl, rfl, trivial⟩ ⟨(lx rfl), (lx rfl), (lx rfl), (lx rfl), (lx rfl), (lx rfl), (lx rfl), (lx rfl), (lx rfl), (lx rfl), (lx rfl), (lx rfl), (lx rfl), trivial⟩ ⟨rfl, rfl, rfl, (congrArg (fun z => some (Ent.own 58 ETa.size (List.length z) (RP ETa z))) (show ((tIn h p i (tTo h p i) j) ++ [(⟨0, (j : Int), (i : Int), ((tIn h p i (tTo h p i) j).length : Int)⟩ : Tal)]) = ((fun j => tIn h p i (tTo h p i) j) (j + 1)) from by dsimp only; simp only [tIn]; rw [if_pos hc5])), trivial⟩ rfl rfl rfl rfl rfl)
        · try simp only [cnd] at hc5
          refine WP.skip (EX.blk (EX.then (WP.region ?_)))
          refine WPl.v rfl (o_move rfl) ?_
          refine WPl.v rfl (o_add rfl rfl (by first | omega | (simp; omega)) (by first | omega | (simp; omega))) ?_
          refine WPl.v rfl (o_assign rfl) ?_
          refine WPl.nil ?_
          refine EX.again (j + 1) id (by first | omega | (constructor <;> omega)) (by omega) (LeR.of ⟨rfl, rfl, rfl, rfl, rfl, rfl, rfl, rfl, rfl, rfl, rfl, trivial⟩ ⟨(lx rfl), (lx rfl), (lx rfl), (lx rfl), (lx rfl), (lx rfl), (lx rfl), (lx rfl), (lx rfl), (lx rfl), (lx rfl), (lx rfl), (lx rfl), trivial⟩ ⟨rfl, rfl, rfl, (congrArg (fun z => some (Ent.own 58 ETa.size (List.length z) (RP ETa z))) (show (tIn h p i (tTo h p i) j) = ((fun j => tIn h p i (tTo h p i) j) (j + 1)) from by dsimp only; simp only [tIn]; rw [if_neg (by rw [hc5]; simp)])), trivial⟩ rfl rfl rfl rfl rfl)
      · try simp only [cnd] at hc4
        refine WP.exit (EX.exit_then (EX.exit_then (EX.exit_blk (EX.blk (EX.then (WP.region ?_))))))
        refine WPl.v rfl (o_move rfl) ?_
        refine WPl.v rfl (o_add rfl rfl (by first | omega | (simp; omega)) (by first | omega | (simp; omega))) ?_
        refine WPl.v rfl (o_assign rfl) ?_
        refine WPl.nil ?_
        have hje : j = 4 := by omega
        refine EX.again (i + 1) id (by first | omega | (constructor <;> omega)) (by omega) (LeR.of ⟨rfl, rfl, rfl, rfl, rfl, rfl, trivial⟩ ⟨(lx rfl), (lx rfl), (lx rfl), (lx rfl), (lx rfl), (lx rfl), (lx rfl), (lx rfl), (lx rfl), (lx rfl), (lx rfl), (lx rfl), (lx rfl), trivial⟩ ⟨rfl, rfl, rfl, (congrArg (fun z => some (Ent.own 58 ETa.size (List.length z) (RP ETa z))) (show (tIn h p i (tTo h p i) j) = ((fun i => tTo h p i) (i + 1)) from by dsimp only; rw [hje]; rfl)), trivial⟩ rfl rfl rfl rfl rfl)
    · try simp only [cnd] at hc3
      refine WP.exit (EX.exit_then (EX.exit_then (EX.exit_blk (EX.then (WP.seq (WP.seq (WP.region ?_)))))))
      have hie : i = p.length := by omega
      rw [show tTo h p i = tAll h p from by rw [hie]; rfl]
      refine WPl.v rfl (o_fldp F33_4 rfl) ?_
      refine WPl.v rfl (o_ldp S31 rfl rfl rfl) ?_
      refine WPl.v rfl (o_leno L31 rfl rfl) ?_
      refine WPl.v rfl (o_gtr rfl rfl) ?_
      refine WPl.nil (EX.then ?_)
      refine WP.cond rfl (fun hc6 => ?_) (fun hc6 => ?_)
      · try simp only [cnd] at hc6
        refine WP.seq (WP.region ?_)
        refine WPl.cs 21 rfl rfl rfl rfl (o_sig 21 (ren [(0, 6)]) c71 e71 rfl rfl rfl w71 ⟨(lx rfl), trivial⟩ r71) ?_
        refine WPl.v rfl (o_assign rfl) ?_
        refine WPl.nil (EX.then (WP.ret (EX.ret_then ?_)))
        exact EX.fin id (.inl rfl) rfl (.tmp rfl .nil) rfl r17 trivial (by simp) (by simp)
      · try simp only [cnd] at hc6
        have h8 : (tAll h p).length ≤ 8 := by omega
        have law := borne hc hp h8
        have hbs := born_small hm law.k.n (by omega)
        refine WP.skip (EX.then (WP.seq (WP.region ?_)))
        refine WPl.imp (Imp.frz (E := EP.int) (l := List.replicate h.bores.length 0) 18 rfl rfl) ?_
        refine WPl.imp (Imp.frz (E := ETa) (l := tAll h p) 20 rfl rfl) ?_
        refine WPl.v rfl (o_ldpa G33 rfl rfl rfl) ?_
        refine WPl.cs 21 rfl rfl rfl rfl (o_sig 21 (ren [(0, 13), (1, 14), (2, 15), (3, 16), (4, 17), (5, 12), (6, 18), (7, 20), (8, 6)]) (c62 (bornB h p) hbs) e62 rfl rfl rfl w62 ⟨(lx rfl), (lx rfl), (lx rfl), (lx rfl), (lx rfl), (lx rfl), (lx rfl), (lx rfl), (lx rfl), trivial⟩ r62) ?_
        refine WPl.v rfl (o_move rfl) ?_
        refine WPl.v rfl (o_extract rfl rfl) ?_
        refine WPl.v rfl (o_extract rfl rfl) ?_
        refine WPl.v rfl (o_assign rfl) ?_
        refine WPl.v rfl (o_assign rfl) ?_
        refine WPl.nil (EX.then (WP.seq (WP.region ?_)))
        refine WPl.v rfl (o_ldpa G33 rfl rfl rfl) ?_
        refine WPl.cs 22 rfl rfl rfl rfl (o_sig 21 (ren [(0, 13), (1, 14), (2, 15), (3, 16), (4, 17), (5, 12), (6, 18), (7, 20), (8, 6)]) (c30 (bornB h p) hbs) e30 rfl rfl rfl w30 ⟨(lx rfl), (lx rfl), (lx rfl), (lx rfl), (lx rfl), (lx rfl), (lx rfl), (lx rfl), (lx rfl), trivial⟩ r30) ?_
        refine WPl.v rfl (o_move rfl) ?_
        refine WPl.v rfl (o_extract rfl rfl) ?_
        refine WPl.v rfl (o_extract rfl rfl) ?_
        refine WPl.v rfl (o_assign rfl) ?_
        refine WPl.v rfl (o_assign rfl) ?_
        refine WPl.nil (EX.then (WP.seq (WP.seq (WP.region ?_))))
        refine WPl.v rfl (o_ldpa G33 rfl rfl rfl) ?_
        refine WPl.cs 22 rfl rfl rfl rfl (o_sig 22 (ren [(0, 13), (1, 14), (2, 15), (3, 16), (4, 17), (5, 12), (6, 18), (7, 20)]) (c50 (bornB h p) hbs) e50 rfl rfl rfl w50 ⟨(lx rfl), (lx rfl), (lx rfl), (lx rfl), (lx rfl), (lx rfl), (lx rfl), (lx rfl), trivial⟩ r50) ?_
        refine WPl.v rfl (o_neq rfl rfl) ?_
        refine WPl.imp (Imp.bitF 116 (b' := false) rfl (decide_eq_false (fun h1 => h1 (errT_eq.2 law.k.c)))) ?_
        refine WPl.v rfl (o_move rfl) ?_
        refine WPl.on rfl ⟨_, _, rfl, rfl, rfl⟩ (o_move rfl) ?_
        refine WPl.on rfl ⟨_, _, rfl, rfl, rfl⟩ (o_neq rfl rfl) ?_
        refine WPl.imp (Imp.bitF 119 (b' := false) rfl (decide_eq_false (fun h => h law.z))) ?_
        refine WPl.v rfl (o_pickF rfl rfl) ?_
        refine WPl.v rfl (o_move rfl) ?_
        refine WPl.on rfl ⟨_, _, rfl, rfl, rfl⟩ (o_move rfl) ?_
        refine WPl.on rfl ⟨_, _, rfl, rfl, rfl⟩ (o_neq rfl rfl) ?_
        refine WPl.imp (Imp.bitF 123 (b' := false) rfl (decide_eq_false (fun h => h law.z))) ?_
        refine WPl.v rfl (o_pickF rfl rfl) ?_
        refine WPl.v rfl (o_move rfl) ?_
        refine WPl.on rfl ⟨_, _, rfl, rfl, rfl⟩ (o_move rfl) ?_
        refine WPl.on rfl ⟨_, _, rfl, rfl, rfl⟩ (o_neq rfl rfl) ?_
        refine WPl.imp (Imp.bitF 127 (b' := false) rfl (decide_eq_false (fun h => h law.f))) ?_
        refine WPl.v rfl (o_pickF rfl rfl) ?_
        refine WPl.v rfl (o_move rfl) ?_
        refine WPl.on rfl ⟨_, _, rfl, rfl, rfl⟩ (o_move rfl) ?_
        refine WPl.ung ⟨_, _, rfl, rfl, rfl⟩ ?_
        refine WPl.v rfl (o_lenq L30 rfl (lx rfl)) ?_
        refine WPl.on rfl ⟨_, _, rfl, rfl, rfl⟩ (o_gtr rfl rfl) ?_
        refine WPl.imp (Imp.bitF 132 (b' := false) rfl (decide_eq_false (by rw [law.l]; simp))) ?_
        refine WPl.v rfl (o_pickF rfl rfl) ?_
        refine WPl.nil (EX.then ?_)
        refine WP.cond rfl (fun h => by cases h) (fun _ => ?_)
        refine WP.skip (EX.then (WP.seq (WP.seq (WP.region ?_))))
        refine WPl.v rfl (o_assign rfl) ?_
        refine WPl.nil (EX.then (WP.block ?_))
        refine WP.loop (Gh := Nat) (fun m => ⟨22, [(1, .e (.a (.q 5))), (2, .i (k)), (3, .e (.a (.p 7 (0)))), (6, .b (false)), (9, .e (.a (.p 19 (0)))), (14, .e (.a (.q 21))), (15, .i (askE (bornB h p) true)), (16, .i ((m : Int)))], [(0, PL ETm (h.machs)), (1, PL EBd (h.buns)), (2, PL EP.int (h.trains)), (3, PL EP.int (h.bores)), (4, PL (EP.sl EP.int) (h.eds)), (5, PL (EP.sl EP.int) (p)), (6, (Pred.tab 1 tz64)), (12, PL EPl (setOf (needL h p))), (13, PL ETm (h.machs)), (14, PL EBd (h.buns)), (15, PL EP.int (h.trains)), (16, PL EP.int (h.bores)), (17, PL (EP.sl EP.int) (h.eds)), (18, PL EP.int (List.replicate h.bores.length 0)), (20, PL ETa (tAll h p)), (21, PL EPl (lfV (bornB h p)))], [(7, .blk [.q 0, .q 1, .q 2, ai (h.change), .q 3, .q 4] 29), (19, .blk [.q 13, .q 14, .q 15, ai (h.change), .q 16, .q 17, .q 12, .q 18, ai (1), .q 20] 33)], [], []⟩) (fun m => m ≤ p.length) (fun m => p.length - m) (0) id ?_ (LeR.of ⟨rfl, rfl, rfl, rfl, rfl, rfl, rfl, rfl, trivial⟩ ⟨(lx rfl), (lx rfl), (lx rfl), (lx rfl), (lx rfl), (lx rfl), (lx rfl), (lx rfl), (lx rfl), (lx rfl), (lx rfl), (lx rfl), (lx rfl), (lx rfl), (lx rfl), (lx rfl), trivial⟩ ⟨rfl, rfl, trivial⟩ rfl rfl rfl rfl rfl) ?_
        · first | trivial | omega | (constructor <;> omega) | simp
        intro m hφ
        have hm : m ≤ p.length := hφ
        refine WP.seq (WP.seq (WP.region ?_))
        refine WPl.v rfl (o_move rfl) ?_
        refine WPl.v rfl (o_move rfl) ?_
        refine WPl.v rfl (o_lenq L27 rfl (lx rfl)) ?_
        refine WPl.v rfl (o_lss rfl rfl) ?_
        refine WPl.nil (EX.then ?_)
        refine WP.cond rfl (fun hc8 => ?_) (fun hc8 => ?_)
        · try simp only [cnd] at hc8
          refine WP.skip (EX.then (WP.seq (WP.block (WP.seq (WP.region ?_)))))
          refine WPl.v rfl (o_assign rfl) ?_
          refine WPl.nil (EX.then (WP.block ?_))
          refine WP.loop (Gh := Nat) (fun q => ⟨22, [(1, .e (.a (.q 5))), (2, .i (k)), (3, .e (.a (.p 7 (0)))), (6, .b (false)), (9, .e (.a (.p 19 (0)))), (14, .e (.a (.q 21))), (15, .i (askE (bornB h p) true)), (16, .i ((m : Int))), (134, .i ((m : Int))), (135, .e (.a (.q 5))), (136, .i ((p.length : Int))), (137, .b (decide ((m : Int) < (p.length : Int)))), (17, .i ((q : Int)))], [(0, PL ETm (h.machs)), (1, PL EBd (h.buns)), (2, PL EP.int (h.trains)), (3, PL EP.int (h.bores)), (4, PL (EP.sl EP.int) (h.eds)), (5, PL (EP.sl EP.int) (p)), (6, (Pred.tab 1 tz64)), (12, PL EPl (setOf (needL h p))), (13, PL ETm (h.machs)), (14, PL EBd (h.buns)), (15, PL EP.int (h.trains)), (16, PL EP.int (h.bores)), (17, PL (EP.sl EP.int) (h.eds)), (18, PL EP.int (List.replicate h.bores.length 0)), (20, PL ETa (tAll h p)), (21, PL EPl (lfV (bornB h p)))], [(7, .blk [.q 0, .q 1, .q 2, ai (h.change), .q 3, .q 4] 29), (19, .blk [.q 13, .q 14, .q 15, ai (h.change), .q 16, .q 17, .q 12, .q 18, ai (1), .q 20] 33)], [], []⟩) (fun q => q ≤ (nth p (m : Int)).length) (fun q => (nth p (m : Int)).length - q) (0) id ?_ (LeR.of ⟨rfl, rfl, rfl, rfl, rfl, rfl, rfl, rfl, rfl, rfl, rfl, rfl, rfl, trivial⟩ ⟨(lx rfl), (lx rfl), (lx rfl), (lx rfl), (lx rfl), (lx rfl), (lx rfl), (lx rfl), (lx rfl), (lx rfl), (lx rfl), (lx rfl), (lx rfl), (lx rfl), (lx rfl), (lx rfl), trivial⟩ ⟨rfl, rfl, trivial⟩ rfl rfl rfl rfl rfl) ?_
          · first | trivial | omega | (constructor <;> omega) | simp
          intro q hφ
          have hq : q ≤ (nth p (m : Int)).length := hφ
          refine WP.seq (WP.seq (WP.region ?_))
          refine WPl.v rfl (o_move rfl) ?_
          refine WPl.v rfl (o_move rfl) ?_
          refine WPl.v rfl (o_move rfl) ?_
          refine WPl.x 22 23 rfl rfl rfl (o_idx L27 rfl (lx rfl) rfl (by first | omega | (simp; omega)) (by first | omega | (simp; omega))) ?_
          refine WPl.x 23 24 rfl rfl rfl (o_ldqx S24 rfl (lx rfl) slx) ?_
          refine WPl.v rfl (o_lenq L24 rfl (lx rfl)) ?_
          refine WPl.v rfl (o_lss rfl rfl) ?_
          refine WPl.nil (EX.then ?_)
          refine WP.cond rfl (fun hc9 => ?_) (fun hc9 => ?_)
          · try simp only [cnd] at hc9
            have hlr := law.r m q (by omega) (by omega)
            have hrm := hr.r m (by omega)
            have hx := hP.b m (by omega) q (by omega)
            have hxe := hC.ed _ hx.1 hx.2
            refine WP.skip (EX.then (WP.seq (WP.block (WP.seq ?_))))
            refine WP.draw (nf := 28) [⟨[151, 152, 153, 154, 155, 156, 157, 158, 159, 160, 161, 162, 163, 164], [24, 25, 26, 27], [], [], []⟩, ⟨[150, 152, 153, 154, 155, 156, 157, 158, 159, 160, 161, 162, 163, 164], [24, 25, 26, 27], [], [], []⟩, ⟨[150, 151, 155, 156, 157, 158, 159, 160, 161], [24, 25, 26], [], [], []⟩, ⟨[150, 151, 155, 156, 157, 158, 159, 160, 161], [24, 25, 26], [], [], [2]⟩, ⟨[150, 151, 155, 156, 157, 158, 159, 160, 161], [24, 25, 26], [], [], [2, 3]⟩, ⟨[150, 151, 152, 153, 154, 156, 159], [], [], [], []⟩, ⟨[150, 151, 152, 153, 154, 155, 159], [], [], [], []⟩, ⟨[150, 151, 152, 153, 154, 159], [], [24], [24], [5, 6]⟩, ⟨[150, 151, 152, 153, 154, 159], [], [25], [25], [5, 6, 7]⟩, ⟨[150, 151, 152, 153, 154, 155, 156, 157, 158], [24, 25], [], [], []⟩, ⟨[150, 151, 152, 153, 154], [], [26], [26], [5, 6, 7, 8, 9]⟩, ⟨[150, 151, 152, 153, 154], [], [], [], [5, 6, 7, 8, 9, 10]⟩, ⟨[150, 151], [], [27], [27], [2, 3, 4, 5, 6, 7, 8, 9, 10, 11]⟩, ⟨[150, 151], [], [], [], [2, 3, 4, 5, 6, 7, 8, 9, 10, 11, 12]⟩, ⟨[150, 151], [], [], [], [2, 3, 4, 5, 6, 7, 8, 9, 10, 11, 12, 13]⟩, ⟨[], [], [], [], [0, 1, 2, 3, 4, 5, 6, 7, 8, 9, 10, 11, 12, 13, 14]⟩, ⟨[], [], [], [], [0, 1, 2, 3, 4, 5, 6, 7, 8, 9, 10, 11, 12, 13, 14, 15]⟩, ⟨[167], [], [], [], [0, 1, 2, 3, 4, 5, 6, 7, 8, 9, 10, 11, 12, 13, 14, 15, 16]⟩, ⟨[166, 18], [], [], [], [0, 1, 2, 3, 4, 5, 6, 7, 8, 9, 10, 11, 12, 13, 14, 15, 16]⟩, ⟨[167], [], [], [], [0, 1, 2, 3, 4, 5, 6, 7, 8, 9, 10, 11, 12, 13, 14, 15, 16, 17]⟩, ⟨[], [], [], [], [0, 1, 2, 3, 4, 5, 6, 7, 8, 9, 10, 11, 12, 13, 14, 15, 16, 17, 18, 19]⟩] (by kernel_rfl) (by kernel_rfl) ?_
            refine DRQ.v rfl rfl rfl (o_ldpa G33 rfl rfl rfl) ?_
            refine DRQ.v rfl rfl rfl (o_move rfl) ?_
            refine DRQ.v rfl rfl rfl (o_fldp F29_0 rfl) ?_
            refine DRQ.v rfl rfl rfl (o_fldp F26_1 rfl) ?_
            refine DRQ.v rfl rfl rfl (o_ldp S23 rfl rfl rfl) ?_
            refine DRQ.v rfl rfl rfl (o_move rfl) ?_
            refine DRQ.v rfl rfl rfl (o_move rfl) ?_
            refine DRQ.x 24 rfl rfl rfl rfl (o_idx L27 rfl (lx rfl) rfl (by first | omega | (simp; omega)) (by first | omega | (simp; omega))) ?_
            refine DRQ.x 25 rfl rfl rfl rfl (o_ldqx S24 rfl (lx rfl) slx) ?_
            refine DRQ.v rfl rfl rfl (o_move rfl) ?_
            refine DRQ.x 26 rfl rfl rfl rfl (o_idx L24 rfl (lx rfl) rfl (by first | omega | (simp; omega)) (by first | omega | (simp; omega))) ?_
            refine DRQ.v rfl rfl rfl (o_ldq S3 rfl (lx rfl) intc) ?_
            refine DRQ.x 27 rfl rfl rfl rfl (o_idx L23 rfl (lx rfl) rfl (by first | omega | (simp; omega)) (by first | omega | (simp; omega))) ?_
            refine DRQ.v rfl rfl rfl (o_fldq F95_2 rfl (lx rfl)) ?_
            refine DRQ.v rfl rfl rfl (o_lde S3 rfl (lx rfl) (strI rfl)) ?_
            refine DRQ.cs rfl rfl rfl rfl (o_sig 28 (ren [(0, 13), (1, 14), (2, 15), (3, 16), (4, 17), (5, 12), (6, 18), (7, 20), (8, 6)]) (c21 (bornB h p) (m : Int) ((nth h.buns (nth (nth p (m : Int)) (q : Int))).edition) 99 hbs) e21 rfl rfl rfl w21 ⟨(lx rfl), (lx rfl), (lx rfl), (lx rfl), (lx rfl), (lx rfl), (lx rfl), (lx rfl), (lx rfl), trivial⟩ r21) ?_
            refine DRQ.v rfl rfl rfl (o_move rfl) ?_
            refine DRQ.v rfl rfl rfl (o_extract rfl rfl) ?_
            refine DRQ.v rfl rfl rfl (o_extract rfl rfl) ?_
            refine DRQ.v rfl rfl rfl (o_assign rfl) ?_
            refine DRQ.v rfl rfl rfl (o_assign rfl) ?_
            refine DRQ.nil' ?_
            refine EX.then (WP.seq (WP.region ?_))
            refine WPl.v rfl (o_move rfl) ?_
            refine WPl.v rfl (o_neq rfl rfl) ?_
            refine WPl.imp (Imp.bitF 169 (b' := false) rfl (decide_eq_false (fun h => h hlr.1))) ?_
            refine WPl.v rfl (o_move rfl) ?_
            refine WPl.on rfl ⟨_, _, rfl, rfl, rfl⟩ (o_move rfl) ?_
            refine WPl.on rfl ⟨_, _, rfl, rfl, rfl⟩ (o_neq rfl rfl) ?_
            refine WPl.imp (Imp.bitF 172 (b' := false) rfl (decide_eq_false (fun h => h hlr.2))) ?_
            refine WPl.v rfl (o_pickF rfl rfl) ?_
            refine WPl.nil (EX.then ?_)
            refine WP.cond rfl (fun h => by cases h) (fun _ => ?_)
            refine WP.skip (EX.blk (EX.then (WP.region ?_)))
            refine WPl.v rfl (o_move rfl) ?_
            refine WPl.v rfl (o_add rfl rfl (by first | omega | (simp; omega)) (by first | omega | (simp; omega))) ?_
            refine WPl.v rfl (o_assign rfl) ?_
            refine WPl.nil ?_
            refine EX.again (q + 1) id (by first | omega | (constructor <;> omega)) (by omega) (LeR.of ⟨rfl, rfl, rfl, rfl, rfl, rfl, rfl, rfl, rfl, rfl, rfl, rfl, rfl, trivial⟩ ⟨(lx rfl), (lx rfl), (lx rfl), (lx rfl), (lx rfl), (lx rfl), (lx rfl), (lx rfl), (lx rfl), (lx rfl), (lx rfl), (lx rfl), (lx rfl), (lx rfl), (lx rfl), (lx rfl), trivial⟩ ⟨rfl, rfl, trivial⟩ rfl rfl rfl rfl rfl)
          · try simp only [cnd] at hc9
            refine WP.exit (EX.exit_then (EX.exit_then (EX.exit_blk (EX.blk (EX.then (WP.region ?_))))))
            refine WPl.v rfl (o_move rfl) ?_
            refine WPl.v rfl (o_add rfl rfl (by first | omega | (simp; omega)) (by first | omega | (simp; omega))) ?_
            refine WPl.v rfl (o_assign rfl) ?_
            refine WPl.nil ?_
            refine EX.again (m + 1) id (by first | omega | (constructor <;> omega)) (by omega) (LeR.of ⟨rfl, rfl, rfl, rfl, rfl, rfl, rfl, rfl, trivial⟩ ⟨(lx rfl), (lx rfl), (lx rfl), (lx rfl), (lx rfl), (lx rfl), (lx rfl), (lx rfl), (lx rfl), (lx rfl), (lx rfl), (lx rfl), (lx rfl), (lx rfl), (lx rfl), (lx rfl), trivial⟩ ⟨rfl, rfl, trivial⟩ rfl rfl rfl rfl rfl)
        · try simp only [cnd] at hc8
          refine WP.exit (EX.exit_then (EX.exit_then (EX.exit_blk (EX.then (WP.seq (WP.seq (WP.region ?_)))))))
          refine WPl.v rfl (o_ldpa G33 rfl rfl rfl) ?_
          refine WPl.v rfl (o_move rfl) ?_
          refine WPl.cs 22 rfl rfl rfl rfl (o_sig 22 (ren [(0, 13), (1, 14), (2, 15), (3, 16), (4, 17), (5, 12), (6, 18), (7, 20)]) (c56 (bornB h p) k (by show (tAll h p).length ≤ 1000; omega)) e56 rfl rfl rfl w56 ⟨(lx rfl), (lx rfl), (lx rfl), (lx rfl), (lx rfl), (lx rfl), (lx rfl), (lx rfl), trivial⟩ r56) ?_
          refine WPl.v rfl (o_not rfl) ?_
          refine WPl.nil (EX.then ?_)
          refine WP.cond rfl (fun hc11 => ?_) (fun hc11 => ?_)
          · try simp only [cnd] at hc11
            refine WP.seq (WP.region ?_)
            refine WPl.cs 22 rfl rfl rfl rfl (o_sig 22 (ren [(0, 6)]) c71 e71 rfl rfl rfl w71 ⟨(lx rfl), trivial⟩ r71) ?_
            refine WPl.v rfl (o_assign rfl) ?_
            refine WPl.nil (EX.then (WP.ret (EX.ret_then ?_)))
            exact EX.fin id (.inl rfl) rfl (.tmp rfl .nil) rfl r17 trivial (by simp) (by simp)
          · try simp only [cnd] at hc11
            have hk : 0 ≤ k ∧ k < (tAll h p).length := isT_in (b := bornB h p) hc11
            have lo := borne_out hc hp h8 hk
            have hlb := lo.b
            have hln := lo.n
            refine WP.skip (EX.then (WP.seq (WP.region ?_)))
            refine WPl.v rfl (o_fldp F33_4 rfl) ?_
            refine WPl.v rfl (o_ldp S31 rfl rfl rfl) ?_
            refine WPl.v rfl (o_move rfl) ?_
            refine WPl.x 22 23 rfl rfl rfl (o_idx L31 rfl (lx rfl) rfl (by first | omega | (simp; omega)) (by first | omega | (simp; omega))) ?_
            refine WPl.v rfl (o_ldqg G58 rfl (lx rfl) (strG rfl) rfl rfl) ?_
            refine WPl.l 23 24 rfl rfl rfl (o_alloc Z58) ?_
            refine WPl.s1 (o_stag G58 rfl rfl rfl ⟨rfl, rfl, rfl, rfl, trivial⟩ rfl rfl) ?_
            refine WPl.nil (EX.then (WP.seq (WP.region ?_)))
            refine WPl.v rfl (o_ldpa G33 rfl rfl rfl) ?_
            refine WPl.cs 32 rfl rfl rfl rfl (o_sig 24 (ren [(0, 13), (1, 14), (2, 15), (3, 16), (4, 17), (5, 12), (6, 18), (7, 20)]) (c20 (bornB h p) hbs) e20 rfl rfl rfl w20 ⟨(lx rfl), (lx rfl), (lx rfl), (lx rfl), (lx rfl), (lx rfl), (lx rfl), (lx rfl), trivial⟩ r20) ?_
            refine WPl.l 32 33 rfl rfl rfl (o_alloc Z33) ?_
            refine WPl.s1 (o_stag G33 rfl rfl rfl ⟨(.inl ⟨_, (lx rfl), PL.one⟩), (.inl ⟨_, (lx rfl), PL.one⟩), (.inl ⟨_, (lx rfl), PL.one⟩), rfl, (.inl ⟨_, (lx rfl), PL.one⟩), (.inl ⟨_, (lx rfl), PL.one⟩), (.inl ⟨_, (lx rfl), PL.one⟩), (.inl ⟨_, (lx rfl), PL.one⟩), rfl, (.inl ⟨_, (lx rfl), PL.one⟩), trivial⟩ rfl rfl) ?_
            refine WPl.nil (EX.then (WP.seq ?_))
            refine WP.draw (nf := 38) [⟨[187, 188, 189, 190, 192, 193, 194, 195, 196], [34, 36], [33], [33], []⟩, ⟨[186, 189, 192, 193, 194, 195, 196], [33, 36], [], [], []⟩, ⟨[186, 189, 192, 193, 194, 195, 196], [33, 36], [], [], [1]⟩, ⟨[186, 187, 188, 192, 193, 194, 195, 196], [33, 36], [], [], []⟩, ⟨[186, 192, 193, 194, 195, 196], [33, 36], [34], [34], [1, 2, 3]⟩, ⟨[192, 193, 194, 195, 196], [36], [35], [35, 33], [0, 1, 2, 3, 4]⟩, ⟨[186, 187, 188, 189, 190, 191, 194, 195], [33, 34, 35], [], [], []⟩, ⟨[186, 187, 188, 189, 190, 191, 194, 195], [33, 34, 35], [], [], [6]⟩, ⟨[186, 187, 188, 189, 190, 191, 192, 193], [33, 34, 35], [], [], []⟩, ⟨[186, 187, 188, 189, 190, 191, 192, 193], [33, 34, 35], [], [], [8]⟩, ⟨[186, 187, 188, 189, 190, 191], [33, 34, 35], [36], [36], [6, 7, 8, 9]⟩, ⟨[], [], [37], [37, 35], [0, 1, 2, 3, 4, 5, 6, 7, 8, 9, 10]⟩, ⟨[], [], [], [], [0, 1, 2, 3, 4, 5, 6, 7, 8, 9, 10, 11]⟩, ⟨[], [], [], [32], [0, 1, 2, 3, 4, 5, 6, 7, 8, 9, 10, 11, 12]⟩] (by kernel_rfl) (by kernel_rfl) ?_
            refine DRQ.l 33 rfl rfl rfl rfl (o_bsl (E := ETa) (l := []) R31 rfl rfl (.nil) rfl rfl) ?_
            refine DRQ.v rfl rfl rfl (o_fldp F33_4 rfl) ?_
            refine DRQ.v rfl rfl rfl (o_ldp S31 rfl rfl rfl) ?_
            refine DRQ.v rfl rfl rfl (o_move rfl) ?_
            refine DRQ.x 34 rfl rfl rfl rfl (o_slice (a := 0) (b := k) L31 rfl (lx rfl) rfl rfl (by omega) (by omega) (by omega)) ?_
            refine DRQ.l2 35 33 rfl rfl rfl rfl (o_apps R31 EP.str_one rfl rfl rfl (lx rfl) (by simp; omega) (by simp; omega)) ?_
            refine DRQ.v rfl rfl rfl (o_fldp F33_4 rfl) ?_
            refine DRQ.v rfl rfl rfl (o_ldp S31 rfl rfl rfl) ?_
            refine DRQ.v rfl rfl rfl (o_move rfl) ?_
            refine DRQ.v rfl rfl rfl (o_add rfl rfl (by first | omega | (simp; omega)) (by first | omega | (simp; omega))) ?_
            refine DRQ.x 36 rfl rfl rfl rfl (o_slice (a := k + 1) (b := ((tAll h p).length : Int)) L31 rfl (lx rfl) rfl rfl (by omega) (by omega) (by omega)) ?_
            refine DRQ.u1 37 rfl rfl rfl (OpG.settle1 (.inl rfl) rfl (o_apps R31 EP.str_one rfl rfl rfl (lx rfl) (by simp; omega) (by simp; omega))) rfl ?_
            refine DRQ.v rfl rfl rfl (o_fldp F33_4 rfl) ?_
            refine DRQ.s 32 rfl rfl rfl (o_sta S31 rfl rfl rfl (.inl ⟨_, (lx rfl), PL.one⟩) rfl) ?_
            refine DRQ.nil' ?_
            refine EX.then (WP.seq (WP.region ?_))
            refine WPl.v rfl (o_ldpa G33 rfl rfl rfl) ?_
            refine WPl.cs 39 rfl rfl rfl rfl (o_sig 38 (ren [(0, 24), (1, 25), (2, 26), (3, 27), (4, 28), (5, 29), (6, 30), (7, 37), (8, 6)]) (c30 ((bornB h p).wo k) (wo_small hbs k)) e30 rfl rfl rfl w30 ⟨(lx rfl), (lx rfl), (lx rfl), (lx rfl), (lx rfl), (lx rfl), (lx rfl), (lx rfl), (lx rfl), trivial⟩ r30) ?_
            refine WPl.v rfl (o_move rfl) ?_
            refine WPl.v rfl (o_extract rfl rfl) ?_
            refine WPl.v rfl (o_extract rfl rfl) ?_
            refine WPl.v rfl (o_assign rfl) ?_
            refine WPl.v rfl (o_assign rfl) ?_
            refine WPl.nil (EX.then (WP.seq (WP.seq ?_)))
            refine WP.imp (Imp.bit 39 40 (!(decide ((askE ((bornB h p).wo k) true) ≠ 0))) rfl rfl) ?_
            refine WP.draw (nf := 42) [⟨[], [], [], [], []⟩, ⟨[], [], [], [], [0]⟩, ⟨[], [], [], [], [0, 1]⟩, ⟨[208, 209, 210, 211, 212, 213, 214, 215, 216, 217], [40, 41], [], [], [0, 1, 2]⟩, ⟨[207, 210, 211, 212, 213, 214, 215], [40], [], [], [0, 1, 2]⟩, ⟨[207, 210, 211, 212, 213, 214, 215], [40], [], [], [0, 1, 2, 4]⟩, ⟨[207, 208, 209, 212, 213], [], [], [], [0, 1, 2]⟩, ⟨[207, 208, 209, 212, 213], [], [], [], [0, 1, 2, 6]⟩, ⟨[207, 208, 209, 210, 211], [], [], [], [0, 1, 2]⟩, ⟨[207, 208, 209, 210, 211], [], [], [], [0, 1, 2, 8]⟩, ⟨[207, 208, 209], [], [40], [40], [0, 1, 2, 6, 7, 8, 9]⟩, ⟨[207, 208, 209], [], [], [], [0, 1, 2, 6, 7, 8, 9, 10]⟩, ⟨[207], [], [], [], [0, 1, 2, 4, 5, 6, 7, 8, 9, 10, 11]⟩, ⟨[207], [], [41], [41], [0, 1, 2, 4, 5, 6, 7, 8, 9, 10, 11, 12]⟩, ⟨[], [], [], [], [0, 1, 2, 3, 4, 5, 6, 7, 8, 9, 10, 11, 12, 13]⟩, ⟨[], [], [], [], [0, 1, 2, 3, 4, 5, 6, 7, 8, 9, 10, 11, 12, 13, 14]⟩, ⟨[], [], [], [], [0, 1, 2, 3, 4, 5, 6, 7, 8, 9, 10, 11, 12, 13, 14, 15]⟩] (by kernel_rfl) (by kernel_rfl) ?_
            refine DRQ.v rfl rfl rfl (o_move rfl) ?_
            refine DRQ.v rfl rfl rfl (o_neq rfl rfl) ?_
            refine DRQ.v rfl rfl rfl (o_move rfl) ?_
            refine DRQ.gv 39 rfl rfl (.plain rfl (by first | (simp; done) | simp only [Bool.not_eq_true']) rfl) rfl (fun hb => o_move rfl) ?_
            refine DRQ.gv 39 rfl rfl (.plain rfl (by first | (simp; done) | simp only [Bool.not_eq_true']) rfl) rfl (fun hb => o_fldp F58_1 rfl) ?_
            refine DRQ.gv 39 rfl rfl (.plain rfl (by first | (simp; done) | simp only [Bool.not_eq_true']) rfl) rfl (fun hb => o_ldp S3 rfl rfl rfl) ?_
            refine DRQ.gv 39 rfl rfl (.plain rfl (by first | (simp; done) | simp only [Bool.not_eq_true']) rfl) rfl (fun hb => o_fldp F29_1 rfl) ?_
            refine DRQ.gv 39 rfl rfl (.plain rfl (by first | (simp; done) | simp only [Bool.not_eq_true']) rfl) rfl (fun hb => o_ldp S24 rfl rfl rfl) ?_
            refine DRQ.gv 39 rfl rfl (.plain rfl (by first | (simp; done) | simp only [Bool.not_eq_true']) rfl) rfl (fun hb => o_fldp F58_2 rfl) ?_
            refine DRQ.gv 39 rfl rfl (.plain rfl (by first | (simp; done) | simp only [Bool.not_eq_true']) rfl) rfl (fun hb => o_ldp S3 rfl rfl rfl) ?_
            refine DRQ.gx 39 40 rfl rfl (.plain rfl (by first | (simp; done) | simp only [Bool.not_eq_true']) rfl) rfl rfl (fun hb => o_idx L24 rfl (lx rfl) rfl (by omega) (by omega)) ?_
            refine DRQ.gv 39 rfl rfl (.plain rfl (by first | (simp; done) | simp only [Bool.not_eq_true']) rfl) rfl (fun hb => o_ldq S3 rfl (lxi hb rfl) intc) ?_
            refine DRQ.gv 39 rfl rfl (.plain rfl (by first | (simp; done) | simp only [Bool.not_eq_true']) rfl) rfl (fun hb => o_build B77 rfl ⟨rfl, rfl, rfl, trivial⟩ rfl rfl) ?_
            refine DRQ.gx 39 41 rfl rfl (.plain rfl (by first | (simp; done) | simp only [Bool.not_eq_true']) rfl) rfl rfl (fun hb => OpG.settle0 (o_bsl (E := EPl) (l := [(⟨(nth (tAll h p) k).page, nth h.bores (nth (tAll h p) k).mach, 1⟩ : Plate)]) R30 rfl rfl (.cons (⟨rfl, rfl, rfl, trivial⟩) rfl (eok_str ⟨rfl, rfl, rfl, trivial⟩) (.nil)) rfl rfl)) ?_
            refine DRQ.gv 39 rfl rfl (.plain rfl (by first | (simp; done) | simp only [Bool.not_eq_true']) rfl) rfl (fun hb => o_sig 42 (ren [(0, 38), (1, 41)]) (c44 (lfV ((bornB h p).wo k)) [(⟨(nth (tAll h p) k).page, nth h.bores (nth (tAll h p) k).mach, 1⟩ : Plate)] (by omega)) e44 rfl rfl rfl w44 ⟨(lx rfl), (lxi hb rfl), trivial⟩ r44) ?_
            refine DRQ.gv 39 rfl rfl (.plain rfl (by first | (simp; done) | simp only [Bool.not_eq_true']) rfl) rfl (fun hb => o_not rfl) ?_
            refine DRQ.v rfl rfl rfl (o_or rfl rfl rfl (by first | (simp; done) | exact fun h => by rw [h]; rfl | exact fun h => Bool.and_eq_true_iff.2 ⟨hb, by rw [h]; rfl⟩ | simp_all)) ?_
            refine DRQ.nil' ?_
            refine EX.then ?_
            refine WP.cond rfl (fun hc12 => ?_) (fun hc12 => ?_)
            · try simp only [cnd] at hc12
              exfalso
              rcases hc12 with g | g
              · exact g lo.z
              · rw [lo.l] at g; cases g
            · try simp only [cnd] at hc12
              refine WP.skip (EX.then (WP.seq (WP.seq (WP.region ?_))))
              refine WPl.v rfl (o_assign rfl) ?_
              refine WPl.nil (EX.then (WP.block ?_))
              refine WP.loop (Gh := Nat) (fun n => ⟨42, [(3, .e (.a (.p 7 (0)))), (6, .b (false)), (20, .e (.a (.p 23 (0)))), (21, .e (.a (.p 32 (0)))), (22, .i ((n : Int)))], [(0, PL ETm (h.machs)), (1, PL EBd (h.buns)), (2, PL EP.int (h.trains)), (3, PL EP.int (h.bores)), (4, PL (EP.sl EP.int) (h.eds)), (6, (Pred.tab 1 tz64)), (24, PL ETm ((bornB h p).hall.machs)), (25, PL EBd ((bornB h p).hall.buns)), (26, PL EP.int ((bornB h p).hall.trains)), (27, PL EP.int ((bornB h p).hall.bores)), (28, PL (EP.sl EP.int) ((bornB h p).hall.eds)), (29, PL EPl ((bornB h p).set)), (30, PL EP.int ((bornB h p).walk)), (37, PL ETa (([] ++ (((tAll h p).take k.toNat).drop (0 : Int).toNat)) ++ (((tAll h p).take ((tAll h p).length : Int).toNat).drop (k + 1).toNat)))], [(7, .blk [.q 0, .q 1, .q 2, ai (h.change), .q 3, .q 4] 29), (23, .blk [ai ((nth (tAll h p) k).boy), ai ((nth (tAll h p) k).page), ai ((nth (tAll h p) k).mach), ai ((nth (tAll h p) k).min)] 58), (32, .blk [.q 24, .q 25, .q 26, ai ((bornB h p).hall.change), .q 27, .q 28, .q 29, .q 30, ai ((bornB h p).boys), .q 37] 33)], [], []⟩) (fun n => n ≤ h.eds.length) (fun n => h.eds.length - n) (0) id ?_ (LeR.of ⟨rfl, rfl, rfl, rfl, rfl, trivial⟩ ⟨(lx rfl), (lx rfl), (lx rfl), (lx rfl), (lx rfl), (lx rfl), (lx rfl), (lx rfl), (lx rfl), (lx rfl), (lx rfl), (lx rfl), (lx rfl), (lx rfl), trivial⟩ ⟨rfl, rfl, rfl, trivial⟩ rfl rfl rfl rfl rfl) ?_
              · first | trivial | omega | (constructor <;> omega) | simp
              intro n hφ
              have hn : n ≤ h.eds.length := hφ
              refine WP.seq (WP.seq (WP.region ?_))
              refine WPl.v rfl (o_move rfl) ?_
              refine WPl.v rfl (o_fldp F29_2 rfl) ?_
              refine WPl.v rfl (o_ldp S27 rfl rfl rfl) ?_
              refine WPl.v rfl (o_lenq L27 rfl (lx rfl)) ?_
              refine WPl.v rfl (o_lss rfl rfl) ?_
              refine WPl.nil (EX.then ?_)
              refine WP.cond rfl (fun hc13 => ?_) (fun hc13 => ?_)
              · try simp only [cnd] at hc13
                have hep := hsmall.p n (by omega)
                refine WP.skip (EX.then (WP.seq (WP.block (WP.seq (WP.seq ?_)))))
                refine WP.draw (nf := 44) [⟨[230, 233, 234], [], [], [], []⟩, ⟨[230, 233, 234], [], [], [], [0]⟩, ⟨[228, 229, 233, 234], [], [], [], []⟩, ⟨[233, 234], [], [42], [42], [0, 1, 2]⟩, ⟨[233, 234], [], [43], [43], [0, 1, 2, 3]⟩, ⟨[228, 229, 230, 231, 232], [42, 43], [], [], []⟩, ⟨[228, 229, 230, 231, 232], [42, 43], [], [], [5]⟩, ⟨[], [], [], [], [0, 1, 2, 3, 4, 5, 6]⟩, ⟨[], [], [], [], [0, 1, 2, 3, 4, 5, 6, 7]⟩] (by kernel_rfl) (by kernel_rfl) ?_
                refine DRQ.v rfl rfl rfl (o_fldp F29_2 rfl) ?_
                refine DRQ.v rfl rfl rfl (o_ldp S27 rfl rfl rfl) ?_
                refine DRQ.v rfl rfl rfl (o_move rfl) ?_
                refine DRQ.x 42 rfl rfl rfl rfl (o_idx L27 rfl (lx rfl) rfl (by first | omega | (simp; omega)) (by first | omega | (simp; omega))) ?_
                refine DRQ.x 43 rfl rfl rfl rfl (o_ldqx S24 rfl (lx rfl) slx) ?_
                refine DRQ.v rfl rfl rfl (o_fldp F58_1 rfl) ?_
                refine DRQ.v rfl rfl rfl (o_ldp S3 rfl rfl rfl) ?_
                refine DRQ.cs rfl rfl rfl rfl (o_sig 44 (ren [(0, 43)]) (c29 (nth h.eds (n : Int)) ((nth (tAll h p) k).page) (by omega)) e29 rfl rfl rfl w29 ⟨(lx rfl), trivial⟩ r29) ?_
                refine DRQ.v rfl rfl rfl (o_not rfl) ?_
                refine DRQ.nil' ?_
                refine EX.then ?_
                refine WP.cond rfl (fun hc14 => ?_) (fun hc14 => ?_)
                · try simp only [cnd] at hc14
                  refine WP.exit (EX.exit_then (EX.exit_blk (EX.then (WP.region ?_))))
                  refine WPl.v rfl (o_move rfl) ?_
                  refine WPl.v rfl (o_add rfl rfl (by first | omega | (simp; omega)) (by first | omega | (simp; omega))) ?_
                  refine WPl.v rfl (o_assign rfl) ?_
                  refine WPl.nil ?_
                  refine EX.again (n + 1) id (by first | omega | (constructor <;> omega)) (by omega) (LeR.of ⟨rfl, rfl, rfl, rfl, rfl, trivial⟩ ⟨(lx rfl), (lx rfl), (lx rfl), (lx rfl), (lx rfl), (lx rfl), (lx rfl), (lx rfl), (lx rfl), (lx rfl), (lx rfl), (lx rfl), (lx rfl), (lx rfl), trivial⟩ ⟨rfl, rfl, rfl, trivial⟩ rfl rfl rfl rfl rfl)
                · try simp only [cnd] at hc14
                  have hlr := lo.r n (by omega) hc14
                  refine WP.skip (EX.then (WP.seq (WP.region ?_)))
                  refine WPl.v rfl (o_ldpa G33 rfl rfl rfl) ?_
                  refine WPl.v rfl (o_fldp F58_2 rfl) ?_
                  refine WPl.v rfl (o_ldp S3 rfl rfl rfl) ?_
                  refine WPl.v rfl (o_move rfl) ?_
                  refine WPl.cs 44 rfl rfl rfl rfl (o_sig 44 (ren [(0, 24), (1, 25), (2, 26), (3, 27), (4, 28), (5, 29), (6, 30), (7, 37), (8, 6)]) (c21 ((bornB h p).wo k) ((nth (tAll h p) k).mach) (n : Int) 99 (wo_small hbs k)) e21 rfl rfl rfl w21 ⟨(lx rfl), (lx rfl), (lx rfl), (lx rfl), (lx rfl), (lx rfl), (lx rfl), (lx rfl), (lx rfl), trivial⟩ r21) ?_
                  refine WPl.v rfl (o_move rfl) ?_
                  refine WPl.v rfl (o_extract rfl rfl) ?_
                  refine WPl.v rfl (o_extract rfl rfl) ?_
                  refine WPl.v rfl (o_assign rfl) ?_
                  refine WPl.v rfl (o_assign rfl) ?_
                  refine WPl.nil (EX.then (WP.seq (WP.region ?_)))
                  refine WPl.v rfl (o_move rfl) ?_
                  refine WPl.v rfl (o_neq rfl rfl) ?_
                  refine WPl.imp (Imp.bitF 246 (b' := false) rfl (decide_eq_false (fun h => h hlr.1))) ?_
                  refine WPl.v rfl (o_move rfl) ?_
                  refine WPl.on rfl ⟨_, _, rfl, rfl, rfl⟩ (o_move rfl) ?_
                  refine WPl.on rfl ⟨_, _, rfl, rfl, rfl⟩ (o_neq rfl rfl) ?_
                  refine WPl.imp (Imp.bitF 249 (b' := false) rfl (decide_eq_false (fun h => h hlr.2))) ?_
                  refine WPl.v rfl (o_pickF rfl rfl) ?_
                  refine WPl.nil (EX.then ?_)
                  refine WP.cond rfl (fun h => by cases h) (fun _ => ?_)
                  refine WP.skip (EX.blk (EX.then (WP.region ?_)))
                  refine WPl.v rfl (o_move rfl) ?_
                  refine WPl.v rfl (o_add rfl rfl (by first | omega | (simp; omega)) (by first | omega | (simp; omega))) ?_
                  refine WPl.v rfl (o_assign rfl) ?_
                  refine WPl.nil ?_
                  refine EX.again (n + 1) id (by first | omega | (constructor <;> omega)) (by omega) (LeR.of ⟨rfl, rfl, rfl, rfl, rfl, trivial⟩ ⟨(lx rfl), (lx rfl), (lx rfl), (lx rfl), (lx rfl), (lx rfl), (lx rfl), (lx rfl), (lx rfl), (lx rfl), (lx rfl), (lx rfl), (lx rfl), (lx rfl), trivial⟩ ⟨rfl, rfl, rfl, trivial⟩ rfl rfl rfl rfl rfl)
              · try simp only [cnd] at hc13
                refine WP.exit (EX.exit_then (EX.exit_then (EX.exit_blk (EX.then (WP.seq (WP.region ?_))))))
                refine WPl.cs 42 rfl rfl rfl rfl (o_sig 42 (ren [(0, 6)]) c71 e71 rfl rfl rfl w71 ⟨(lx rfl), trivial⟩ r71) ?_
                refine WPl.v rfl (o_assign rfl) ?_
                refine WPl.nil (EX.then (WP.ret ?_))
                exact EX.fin id (.inl rfl) rfl (.tmp rfl .nil) rfl r17 trivial (by simp) (by simp)
end Go.Flong
namespace Go.Proofs.YtapgiededfphfaaGreatDoor
open Go Go.Eng Go.Flong Go.ChangeShapes Go.WideShapes
set_option maxRecDepth 100000 in
theorem topBorne_lifted (os : Os) (started : os.Started) (H : Type) (enc : TypeId × Value → H) : ReturnsInHanded {} Tryz.checked os 17 .any (fun w args => (Rows.topBorneSpec.pre enc Tryz.prog Tryz.f17 Rows.topBorneRow.domain false w args ∧ laidMetH Tryz.prog laid2 w) ∧ sizedMet enc Tryz.prog Tryz.f17 (OpenSpec.ofChange Rows.topBorneSpec) false w args) (Rows.topBorneSpec.post enc Tryz.prog Tryz.f17 false true false false) := by
  refine lawLiftedX (C := Tryz.checked) (X := fun w => laidMetH Tryz.prog laid2 w) (fun _ _ hh h => h.of_heap hh) own started (by kernel_rfl) Tryz.func17
    (ChangeSpec.witness_shaped (enc := enc) (C := Tryz.checked) (os := os) (X := fun w _ => laidMetH Tryz.prog laid2 w) false (World.doorLaid Tryz.prog 400 os) #[.agg #[.slice none 0 0, .slice none 0 0, .slice none 0 0, .int .i64 0, .slice none 0 0, .slice none 0 0], .slice none 0 0, .int .i64 0] 8 rfl (World.shaped_of_RefB (by kernel_rfl) (by kernel_rfl)) (by kernel_rfl) (by kernel_rfl) (by kernel_rfl) (door_met os _))
    laidOut rfl Tryz.underlying4 (by intro t ht; revert ht; revert t; exact of_decide_eq_true (by kernel_rfl)) rfl (fun ds hd => ?_) fun W base args ds p hval hA hL => ?_
  · match ds, hd with
    | [_, _, _], _ => rfl
  · obtain ⟨v0, vs, d0, ds0, p0, q0, ha, rfl, rfl, h0, hA⟩ := trodAll_cons hA
    obtain ⟨v1, vs, d1, ds1, p1, q1, rfl, rfl, rfl, h1, hA⟩ := trodAll_cons hA
    obtain ⟨v2, vs, d2, ds2, p2, q2, rfl, rfl, rfl, h2, hA⟩ := trodAll_cons hA
    obtain ⟨rfl, rfl, rfl⟩ := trodAll_nil hA
    obtain rfl : args = #[v0, v1, v2] := by cases args; simp_all
    obtain ⟨a0, x0, x1, x2, x3, x4, rfl, ok0⟩ := argHall (hval 0 _ v0 rfl rfl) h0
    obtain ⟨a1, hl1⟩ := argPlan (hval 1 _ v1 rfl rfl) h1
    obtain ⟨a2, rfl⟩ := okWide_int Tryz.underlying3 (hval 2 3 v2 rfl rfl)
    exact Sig.kept (c17 a0 a1 a2 ) (ν := nuL [x0, x1, x2, x3, x4, v1, undef]) ⟨ok0.m, ok0.b, ok0.t, ok0.o, ok0.e, hl1, tab_laid hL undef, trivial⟩
theorem topBorne_row : Rows.TopBorneSaid :=
  OpenClaim.holds_of_wide 17 Tryz.f17 rfl rfl rfl rfl rfl rfl rfl ⟨rfl, rfl, rfl, rfl, rfl⟩ rfl rfl rfl rfl rfl (by kernel_rfl) Tryz.func17 (by kernel_rfl)
    (of_decide_eq_true (by kernel_rfl)) (by unfold Func.isWrapper; rw [if_neg (by decide +kernel)]; exact ⟨rfl, rfl⟩)
    (fun os started H enc _ => topBorne_lifted os started H enc)
theorem topBorne_holds : Rows.TopBorneCardSaid :=
  Claim7.holds_tied_plain_at .later [] [.data, .data] true Rows.topBorneCard.stood.harness false
    topBorne_row (fun _ h => by cases h) (by kernel_rfl) (fun _ h => by cases h) topBorne_row_tie rfl ⟨rfl, rfl⟩ (by kernel_rfl) rfl
    (fun f fn hf hfn => by
      obtain rfl : f = 17 := Option.some.inj ((show Tryz.prog.funcNamed "flong/flongtop.TopBorne" = some 17 by kernel_rfl).symm.trans hf) |>.symm
      obtain rfl : fn = Tryz.f17 := (Option.some.inj (Tryz.func17.symm.trans hfn)).symm
      exact ⟨by kernel_rfl, fun j t ht => by
        rw [Tryz.params17] at ht
        have hm : t ∈ [29, 27, 3] := by simpa using Array.mem_of_getElem? ht
        have hall : ([29, 27, 3].all fun u => !Tryz.prog.wantsStandIn u) = true := by kernel_rfl
        exact (show Tryz.prog.wantsStandIn t = false by simpa using List.all_eq_true.1 hall t hm)⟩)
    (by kernel_rfl)
end Go.Proofs.YtapgiededfphfaaGreatDoor
