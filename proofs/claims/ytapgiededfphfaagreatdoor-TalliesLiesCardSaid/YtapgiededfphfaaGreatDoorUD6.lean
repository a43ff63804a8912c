/- TalliesLies returns true for every input and leaves its arguments as they were (Lies, Honest, Plates and Left agree with the document). The table of math/bits is tied to the text of the program. No other condition. -/
import Derived.Test.YtapgiededfphfaaGreatDoorUD5
set_option linter.unusedSimpArgs false
set_option linter.unusedVariables false
namespace Go.Flong
open Go Go.Eng Go.Proofs
theorem e123 : Enters' Tryz.prog 123 := Tryz.call123
theorem e69 : Enters' Tryz.prog 69 := Tryz.call69
theorem e67 : Enters' Tryz.prog 67 := Tryz.call67
theorem Q77 : FlatT Tryz.prog 77 3 2 true := .struct Tryz.underlying77 Tryz.stoodInHeld77 G77 ⟨by decide, rfl, 1, false, Q3, ⟨by decide, rfl, 1, false, Q3, ⟨by decide, rfl, 1, false, Q3, rfl⟩⟩⟩
theorem e51 : Enters' Tryz.prog 51 := Tryz.call51
theorem Q156 : FlatT Tryz.prog 156 3 2 true := .struct Tryz.underlying156 Tryz.stoodInHeld156 G156 ⟨by decide, rfl, 1, false, Q3, ⟨by decide, rfl, 1, false, Q3, ⟨by decide, rfl, 1, false, Q3, rfl⟩⟩⟩
theorem Q95 : FlatT Tryz.prog 95 3 2 true := .struct Tryz.underlying95 Tryz.stoodInHeld95 G95 ⟨by decide, rfl, 1, false, Q3, ⟨by decide, rfl, 1, false, Q3, ⟨by decide, rfl, 1, false, Q3, rfl⟩⟩⟩
theorem e137 : Enters' Tryz.prog 137 := Tryz.call137
theorem e138 : Enters' Tryz.prog 138 := Tryz.call138
theorem e92 : Enters' Tryz.prog 92 := Tryz.call92
theorem e44 : Enters' Tryz.prog 44 := Tryz.call44
theorem Q58 : FlatT Tryz.prog 58 4 2 true := .struct Tryz.underlying58 Tryz.stoodInHeld58 G58 ⟨by decide, rfl, 1, false, Q3, ⟨by decide, rfl, 1, false, Q3, ⟨by decide, rfl, 1, false, Q3, ⟨by decide, rfl, 1, false, Q3, rfl⟩⟩⟩⟩
theorem B156 : BldT Tryz.prog 156 [(0, 1), (1, 1), (2, 1)] [.int .i64 0, .int .i64 0, .int .i64 0] := BldT.mk (ns := [1, 1, 1]) Tryz.underlying156 ⟨Tryz.sizeOf3, Tryz.sizeOf3, Tryz.sizeOf3, trivial⟩ rfl Tryz.zeroValue156 rfl
theorem B95 : BldT Tryz.prog 95 [(0, 1), (1, 1), (2, 1)] [.int .i64 0, .int .i64 0, .int .i64 0] := BldT.mk (ns := [1, 1, 1]) Tryz.underlying95 ⟨Tryz.sizeOf3, Tryz.sizeOf3, Tryz.sizeOf3, trivial⟩ rfl Tryz.zeroValue95 rfl
theorem e147 : Enters' Tryz.prog 147 := Tryz.call147
theorem e126 : Enters' Tryz.prog 126 := Tryz.call126
theorem B58 : BldT Tryz.prog 58 [(0, 1), (1, 1), (2, 1), (3, 1)] [.int .i64 0, .int .i64 0, .int .i64 0, .int .i64 0] := BldT.mk (ns := [1, 1, 1, 1]) Tryz.underlying58 ⟨Tryz.sizeOf3, Tryz.sizeOf3, Tryz.sizeOf3, Tryz.sizeOf3, trivial⟩ rfl Tryz.zeroValue58 rfl
theorem e20 : Enters' Tryz.prog 20 := Tryz.call20
theorem e76 : Enters' Tryz.prog 76 := Tryz.call76
theorem e47 : Enters' Tryz.prog 47 := Tryz.call47
theorem e60 : Enters' Tryz.prog 60 := Tryz.call60
theorem e38 : Enters' Tryz.prog 38 := Tryz.call38
theorem e30 : Enters' Tryz.prog 30 := Tryz.call30
theorem e37 : Enters' Tryz.prog 37 := Tryz.call37
theorem e21 : Enters' Tryz.prog 21 := Tryz.call21
theorem Q60 : FlatT Tryz.prog 60 2 2 true := .struct Tryz.underlying60 Tryz.stoodInHeld60 G60 ⟨by decide, rfl, 1, false, Q3, ⟨by decide, rfl, 1, false, Q3, rfl⟩⟩
theorem w69 {p : List (List Int)} : ∀ x ∈ ([.e (.a (.q 0))] : List SV), x.res (keys (α := Pred) [(0, PL (EP.sl EP.int) (p))]) := by simp [SV.res, El.res, At.res, keys]
theorem r69 {p : List (List Int)} : SV.res (keys (α := Pred) []) (.b (longP p)) := by simp [SV.res, El.res, At.res, keys]
set_option maxHeartbeats 4000000 in
theorem c69 (p : List (List Int))  : Sig Tryz.prog 69 [.e (.a (.q 0))] [(0, PL (EP.sl EP.int) (p))] (.b (longP p)) [] := by
  refine Sig.intro Tryz.func69 rfl 1 [(0, .e (.a (.q 0)))] rfl w69 rfl rfl fun I w => ?_
  refine WP.seq (WP.region ?_)
  refine WPl.v rfl (o_assign rfl) ?_
  refine WPl.nil (EX.then (WP.seq (WP.seq (WP.region ?_))))
  refine WPl.v rfl (o_move rfl) ?_
  refine WPl.v rfl (o_lenq L27 rfl (lx rfl)) ?_
  refine WPl.v rfl (o_gtr rfl rfl) ?_
  refine WPl.nil (EX.then ?_)
  refine WP.cond rfl (fun hc1 => ?_) (fun hc1 => ?_)
  · try simp only [cnd] at hc1
    refine WP.seq (WP.region ?_)
    refine WPl.v rfl (o_assign rfl) ?_
    refine WPl.nil (EX.then (WP.ret (EX.ret_then ?_)))
    rw [show longP p = true from by unfold longP; rw [decide_eq_true hc1]; rfl]
    exact EX.fin id (.inl rfl) rfl (.tmp rfl .nil) rfl (by simp [SV.res, El.res, At.res, keys]) trivial (by simp) (by simp)
  · try simp only [cnd] at hc1
    refine WP.skip (EX.then (WP.seq (WP.seq (WP.region ?_))))
    refine WPl.v rfl (o_assign rfl) ?_
    refine WPl.nil (EX.then (WP.block ?_))
    refine WP.loop (Gh := Nat) (fun i => ⟨1, [(0, .e (.a (.q 0))), (2, .b (false)), (3, .i ((i : Int)))], [(0, PL (EP.sl EP.int) (p))], [], [], []⟩) (fun i => i ≤ p.length ∧ allI (fun i => !decide (40 < ((nth p i).length : Int))) i = true) (fun i => p.length - i) (0) id ?_ (LeR.of ⟨rfl, rfl, rfl, trivial⟩ ⟨(lx rfl), trivial⟩ trivial rfl rfl rfl rfl rfl) ?_
    · exact ⟨by omega, rfl⟩
    intro i hφ
    have hi : i ≤ p.length := hφ.1
    have hall := hφ.2
    refine WP.seq (WP.seq (WP.region ?_))
    refine WPl.v rfl (o_move rfl) ?_
    refine WPl.v rfl (o_move rfl) ?_
    refine WPl.v rfl (o_lenq L27 rfl (lx rfl)) ?_
    refine WPl.v rfl (o_lss rfl rfl) ?_
    refine WPl.nil (EX.then ?_)
    refine WP.cond rfl (fun hc2 => ?_) (fun hc2 => ?_)
    · try simp only [cnd] at hc2
      refine WP.skip (EX.then (WP.seq (WP.block (WP.seq (WP.region ?_)))))
      refine WPl.v rfl (o_move rfl) ?_
      refine WPl.v rfl (o_move rfl) ?_
      refine WPl.x 1 2 rfl rfl rfl (o_idx L27 rfl (lx rfl) rfl (by first | omega | (simp; omega)) (by first | omega | (simp; omega))) ?_
      refine WPl.x 2 3 rfl rfl rfl (o_ldqx S24 rfl (lx rfl) slx) ?_
      refine WPl.v rfl (o_lenq L24 rfl (lx rfl)) ?_
      refine WPl.v rfl (o_gtr rfl rfl) ?_
      refine WPl.nil (EX.then ?_)
      refine WP.cond rfl (fun hc3 => ?_) (fun hc3 => ?_)
      · try simp only [cnd] at hc3
        refine WP.seq (WP.region ?_)
        refine WPl.v rfl (o_assign rfl) ?_
        refine WPl.nil (EX.then (WP.ret (EX.ret_blk (EX.ret_then (EX.ret_then (EX.ret_blk (EX.ret_then ?_)))))))
        rw [show longP p = true from by unfold longP; rw [not_allI (show i < p.length by omega) (by simp only [Bool.not_eq_false', decide_eq_true_eq]; exact hc3)]; simp]
        exact EX.fin id (.inl rfl) rfl (.tmp rfl .nil) rfl (by simp [SV.res, El.res, At.res, keys]) trivial (by simp) (by simp)
      · try simp only [cnd] at hc3
        refine WP.skip (EX.blk (EX.then (WP.region ?_)))
        refine WPl.v rfl (o_move rfl) ?_
        refine WPl.v rfl (o_add rfl rfl (by first | omega | (simp; omega)) (by first | omega | (simp; omega))) ?_
        refine WPl.v rfl (o_assign rfl) ?_
        refine WPl.nil ?_
        refine EX.again (i + 1) id (by exact ⟨by omega, by simp only [allI, hall, Bool.true_and, Bool.not_eq_true', decide_eq_false_iff_not]; exact hc3⟩) (by omega) (LeR.of ⟨rfl, rfl, rfl, trivial⟩ ⟨(lx rfl), trivial⟩ trivial rfl rfl rfl rfl rfl)
    · try simp only [cnd] at hc2
      refine WP.exit (EX.exit_then (EX.exit_then (EX.exit_blk (EX.then (WP.seq (WP.region ?_))))))
      refine WPl.v rfl (o_assign rfl) ?_
      refine WPl.nil (EX.then (WP.ret ?_))
      have hie : i = p.length := by omega
      rw [show longP p = false from by unfold longP; rw [decide_eq_false (by omega), ← hie, hall]; rfl]
      exact EX.fin id (.inl rfl) rfl (.tmp rfl .nil) rfl (by simp [SV.res, El.res, At.res, keys]) trivial (by simp) (by simp)
theorem w123 {h : Hall} : ∀ x ∈ ([.e (.g [.q 0, .q 1, .q 2, ai (h.change)])] : List SV), x.res (keys (α := Pred) [(0, PL ETm (h.machs)), (1, PL EBd (h.buns)), (2, PL EP.int (h.trains))]) := by simp [SV.res, El.res, At.res, keys]
theorem r123 {h : Hall} : SV.res (keys (α := Pred) []) (.b (hugeHo h)) := by simp [SV.res, El.res, At.res, keys]
set_option maxHeartbeats 4000000 in
theorem c123 (h : Hall)  : Sig Tryz.prog 123 [.e (.g [.q 0, .q 1, .q 2, ai (h.change)])] [(0, PL ETm (h.machs)), (1, PL EBd (h.buns)), (2, PL EP.int (h.trains))] (.b (hugeHo h)) [] := by
  refine Sig.intro Tryz.func123 rfl 3 [(0, .e (.g [.q 0, .q 1, .q 2, ai (h.change)]))] rfl w123 rfl rfl fun I w => ?_
  refine WP.seq (WP.region ?_)
  refine WPl.l 3 4 rfl rfl rfl (o_boxg rfl) ?_
  refine WPl.v rfl (o_assign rfl) ?_
  refine WPl.nil (EX.then (WP.seq (WP.region ?_)))
  refine WPl.v rfl (o_fldp F26_0 rfl) ?_
  refine WPl.v rfl (o_ldp S22 rfl rfl rfl) ?_
  refine WPl.v rfl (o_lenq L22 rfl (lx rfl)) ?_
  refine WPl.v rfl (o_gtr rfl rfl) ?_
  refine WPl.v rfl (o_move rfl) ?_
  refine WPl.bit 4 5 (!(decide (40 < (h.machs.length : Int)))) rfl rfl ?_
  refine WPl.gv 4 rfl rfl (.plain rfl (by first | (simp; done) | simp only [Bool.not_eq_true']) rfl) (fun hb => o_fldp F26_1 rfl) ?_
  refine WPl.gv 4 rfl rfl (.plain rfl (by first | (simp; done) | simp only [Bool.not_eq_true']) rfl) (fun hb => o_ldp S23 rfl rfl rfl) ?_
  refine WPl.gv 4 rfl rfl (.plain rfl (by first | (simp; done) | simp only [Bool.not_eq_true']) rfl) (fun hb => o_lenq L23 rfl (lx rfl)) ?_
  refine WPl.gv 4 rfl rfl (.plain rfl (by first | (simp; done) | simp only [Bool.not_eq_true']) rfl) (fun hb => o_gtr rfl rfl) ?_
  refine WPl.v rfl (o_or rfl rfl rfl (by first | (simp; done) | exact fun h => by rw [h]; rfl | exact fun h => Bool.and_eq_true_iff.2 ⟨hb, by rw [h]; rfl⟩ | simp_all)) ?_
  refine WPl.v rfl (o_move rfl) ?_
  refine WPl.bit 5 6 (!((decide (40 < (h.machs.length : Int))) || (decide (40 < (h.buns.length : Int))))) rfl rfl ?_
  refine WPl.gv 5 rfl rfl (.plain rfl (by first | (simp; done) | simp only [Bool.not_eq_true']) rfl) (fun hb => o_fldp F26_2 rfl) ?_
  refine WPl.gv 5 rfl rfl (.plain rfl (by first | (simp; done) | simp only [Bool.not_eq_true']) rfl) (fun hb => o_ldp S24 rfl rfl rfl) ?_
  refine WPl.gv 5 rfl rfl (.plain rfl (by first | (simp; done) | simp only [Bool.not_eq_true']) rfl) (fun hb => o_lenq L24 rfl (lx rfl)) ?_
  refine WPl.gv 5 rfl rfl (.plain rfl (by first | (simp; done) | simp only [Bool.not_eq_true']) rfl) (fun hb => o_gtr rfl rfl) ?_
  refine WPl.v rfl (o_or rfl rfl rfl (by first | (simp; done) | exact fun h => by rw [h]; rfl | exact fun h => Bool.and_eq_true_iff.2 ⟨hb, by rw [h]; rfl⟩ | simp_all)) ?_
  refine WPl.v rfl (o_assign rfl) ?_
  refine WPl.nil (EX.then (WP.ret ?_))
  exact EX.fin id (.inl rfl) rfl (.tmp rfl .nil) rfl r123 trivial (by simp) (by simp)
theorem w67 {h : Hall} : ∀ x ∈ ([.e (.g [.q 0, .q 1, .q 2, ai (h.change), .q 3, .q 4])] : List SV), x.res (keys (α := Pred) [(0, PL ETm (h.machs)), (1, PL EBd (h.buns)), (2, PL EP.int (h.trains)), (3, PL EP.int (h.bores)), (4, PL (EP.sl EP.int) (h.eds))]) := by simp [SV.res, El.res, At.res, keys]
theorem r67 {h : Hall} : SV.res (keys (α := Pred) []) (.b (hugeH h)) := by simp [SV.res, El.res, At.res, keys]
set_option maxHeartbeats 4000000 in
theorem c67 (h : Hall)  : Sig Tryz.prog 67 [.e (.g [.q 0, .q 1, .q 2, ai (h.change), .q 3, .q 4])] [(0, PL ETm (h.machs)), (1, PL EBd (h.buns)), (2, PL EP.int (h.trains)), (3, PL EP.int (h.bores)), (4, PL (EP.sl EP.int) (h.eds))] (.b (hugeH h)) [] := by
  refine Sig.intro Tryz.func67 rfl 5 [(0, .e (.g [.q 0, .q 1, .q 2, ai (h.change), .q 3, .q 4]))] rfl w67 rfl rfl fun I w => ?_
  refine WP.seq (WP.region ?_)
  refine WPl.l 5 6 rfl rfl rfl (o_boxg rfl) ?_
  refine WPl.v rfl (o_assign rfl) ?_
  refine WPl.nil (EX.then (WP.seq (WP.region ?_)))
  refine WPl.v rfl (o_fldp F29_0 rfl) ?_
  refine WPl.v rfl (o_ldpg G26 rfl rfl rfl) ?_
  refine WPl.cs 6 rfl rfl rfl rfl (o_sig 6 (ren [(0, 0), (1, 1), (2, 2)]) (c123 h) e123 rfl rfl rfl w123 ⟨(lx rfl), (lx rfl), (lx rfl), trivial⟩ r123) ?_
  refine WPl.v rfl (o_move rfl) ?_
  refine WPl.bit 6 7 (!(hugeHo h)) rfl rfl ?_
  refine WPl.gv 6 rfl rfl (.plain rfl (by first | (simp; done) | simp only [Bool.not_eq_true']) rfl) (fun hb => o_fldp F29_1 rfl) ?_
  refine WPl.gv 6 rfl rfl (.plain rfl (by first | (simp; done) | simp only [Bool.not_eq_true']) rfl) (fun hb => o_ldp S24 rfl rfl rfl) ?_
  refine WPl.gv 6 rfl rfl (.plain rfl (by first | (simp; done) | simp only [Bool.not_eq_true']) rfl) (fun hb => o_lenq L24 rfl (lx rfl)) ?_
  refine WPl.gv 6 rfl rfl (.plain rfl (by first | (simp; done) | simp only [Bool.not_eq_true']) rfl) (fun hb => o_gtr rfl rfl) ?_
  refine WPl.v rfl (o_or rfl rfl rfl (by first | (simp; done) | exact fun h => by rw [h]; rfl | exact fun h => Bool.and_eq_true_iff.2 ⟨hb, by rw [h]; rfl⟩ | simp_all)) ?_
  refine WPl.v rfl (o_move rfl) ?_
  refine WPl.bit 7 8 (!((hugeHo h) || (decide (40 < (h.bores.length : Int))))) rfl rfl ?_
  refine WPl.gv 7 rfl rfl (.plain rfl (by first | (simp; done) | simp only [Bool.not_eq_true']) rfl) (fun hb => o_fldp F29_2 rfl) ?_
  refine WPl.gv 7 rfl rfl (.plain rfl (by first | (simp; done) | simp only [Bool.not_eq_true']) rfl) (fun hb => o_ldp S27 rfl rfl rfl) ?_
  refine WPl.gc0 7 rfl rfl (.plain rfl (by first | (simp; done) | simp only [Bool.not_eq_true']) rfl) (fun hb => o_sig 8 (ren [(0, 4)]) (c69 h.eds) e69 rfl rfl rfl w69 ⟨(lx rfl), trivial⟩ r69) ?_
  refine WPl.v rfl (o_or rfl rfl rfl (by first | (simp; done) | exact fun h => by rw [h]; rfl | exact fun h => Bool.and_eq_true_iff.2 ⟨hb, by rw [h]; rfl⟩ | simp_all)) ?_
  refine WPl.v rfl (o_assign rfl) ?_
  refine WPl.nil (EX.then (WP.ret ?_))
  exact EX.fin id (.inl rfl) rfl (.tmp rfl .nil) rfl r67 trivial (by simp) (by simp)
theorem w18 {b : Book} : ∀ x ∈ ([.e (.g [.q 0, .q 1, .q 2, ai (b.hall.change), .q 3, .q 4, .q 5, .q 6, ai (b.boys), .q 7])] : List SV), x.res (keys (α := Pred) [(0, PL ETm (b.hall.machs)), (1, PL EBd (b.hall.buns)), (2, PL EP.int (b.hall.trains)), (3, PL EP.int (b.hall.bores)), (4, PL (EP.sl EP.int) (b.hall.eds)), (5, PL EPl (b.set)), (6, PL EP.int (b.walk)), (7, PL ETa (b.tals))]) := by simp [SV.res, El.res, At.res, keys]
theorem r18 {b : Book} : SV.res (keys (α := Pred) []) (.b (farB b)) := by simp [SV.res, El.res, At.res, keys]
set_option maxHeartbeats 4000000 in
theorem c18 (b : Book)  : Sig Tryz.prog 18 [.e (.g [.q 0, .q 1, .q 2, ai (b.hall.change), .q 3, .q 4, .q 5, .q 6, ai (b.boys), .q 7])] [(0, PL ETm (b.hall.machs)), (1, PL EBd (b.hall.buns)), (2, PL EP.int (b.hall.trains)), (3, PL EP.int (b.hall.bores)), (4, PL (EP.sl EP.int) (b.hall.eds)), (5, PL EPl (b.set)), (6, PL EP.int (b.walk)), (7, PL ETa (b.tals))] (.b (farB b)) [] := by
  refine Sig.intro Tryz.func18 rfl 8 [(0, .e (.g [.q 0, .q 1, .q 2, ai (b.hall.change), .q 3, .q 4, .q 5, .q 6, ai (b.boys), .q 7]))] rfl w18 rfl rfl fun I w => ?_
  refine WP.seq (WP.region ?_)
  refine WPl.l 8 9 rfl rfl rfl (o_boxg rfl) ?_
  refine WPl.v rfl (o_assign rfl) ?_
  refine WPl.nil (EX.then (WP.seq (WP.region ?_)))
  refine WPl.v rfl (o_fldp F33_0 rfl) ?_
  refine WPl.v rfl (o_ldpg G29 rfl rfl rfl) ?_
  refine WPl.cs 9 rfl rfl rfl rfl (o_sig 9 (ren [(0, 0), (1, 1), (2, 2), (3, 3), (4, 4)]) (c67 b.hall) e67 rfl rfl rfl w67 ⟨(lx rfl), (lx rfl), (lx rfl), (lx rfl), (lx rfl), trivial⟩ r67) ?_
  refine WPl.v rfl (o_move rfl) ?_
  refine WPl.bit 9 10 (!(hugeH b.hall)) rfl rfl ?_
  refine WPl.gv 9 rfl rfl (.plain rfl (by first | (simp; done) | simp only [Bool.not_eq_true']) rfl) (fun hb => o_fldp F33_1 rfl) ?_
  refine WPl.gv 9 rfl rfl (.plain rfl (by first | (simp; done) | simp only [Bool.not_eq_true']) rfl) (fun hb => o_ldp S30 rfl rfl rfl) ?_
  refine WPl.gv 9 rfl rfl (.plain rfl (by first | (simp; done) | simp only [Bool.not_eq_true']) rfl) (fun hb => o_lenq L30 rfl (lx rfl)) ?_
  refine WPl.gv 9 rfl rfl (.plain rfl (by first | (simp; done) | simp only [Bool.not_eq_true']) rfl) (fun hb => o_gtr rfl rfl) ?_
  refine WPl.v rfl (o_or rfl rfl rfl (by first | (simp; done) | exact fun h => by rw [h]; rfl | exact fun h => Bool.and_eq_true_iff.2 ⟨hb, by rw [h]; rfl⟩ | simp_all)) ?_
  refine WPl.v rfl (o_move rfl) ?_
  refine WPl.bit 10 11 (!((hugeH b.hall) || (decide (40 < (b.set.length : Int))))) rfl rfl ?_
  refine WPl.gv 10 rfl rfl (.plain rfl (by first | (simp; done) | simp only [Bool.not_eq_true']) rfl) (fun hb => o_fldp F33_2 rfl) ?_
  refine WPl.gv 10 rfl rfl (.plain rfl (by first | (simp; done) | simp only [Bool.not_eq_true']) rfl) (fun hb => o_ldp S24 rfl rfl rfl) ?_
  refine WPl.gv 10 rfl rfl (.plain rfl (by first | (simp; done) | simp only [Bool.not_eq_true']) rfl) (fun hb => o_lenq L24 rfl (lx rfl)) ?_
  refine WPl.gv 10 rfl rfl (.plain rfl (by first | (simp; done) | simp only [Bool.not_eq_true']) rfl) (fun hb => o_gtr rfl rfl) ?_
  refine WPl.v rfl (o_or rfl rfl rfl (by first | (simp; done) | exact fun h => by rw [h]; rfl | exact fun h => Bool.and_eq_true_iff.2 ⟨hb, by rw [h]; rfl⟩ | simp_all)) ?_
  refine WPl.v rfl (o_move rfl) ?_
  refine WPl.bit 11 12 (!(((hugeH b.hall) || (decide (40 < (b.set.length : Int)))) || (decide (40 < (b.walk.length : Int))))) rfl rfl ?_
  refine WPl.gv 11 rfl rfl (.plain rfl (by first | (simp; done) | simp only [Bool.not_eq_true']) rfl) (fun hb => o_fldp F33_4 rfl) ?_
  refine WPl.gv 11 rfl rfl (.plain rfl (by first | (simp; done) | simp only [Bool.not_eq_true']) rfl) (fun hb => o_ldp S31 rfl rfl rfl) ?_
  refine WPl.gv 11 rfl rfl (.plain rfl (by first | (simp; done) | simp only [Bool.not_eq_true']) rfl) (fun hb => o_lenq L31 rfl (lx rfl)) ?_
  refine WPl.gv 11 rfl rfl (.plain rfl (by first | (simp; done) | simp only [Bool.not_eq_true']) rfl) (fun hb => o_gtr rfl rfl) ?_
  refine WPl.v rfl (o_or rfl rfl rfl (by first | (simp; done) | exact fun h => by rw [h]; rfl | exact fun h => Bool.and_eq_true_iff.2 ⟨hb, by rw [h]; rfl⟩ | simp_all)) ?_
  refine WPl.v rfl (o_assign rfl) ?_
  refine WPl.nil (EX.then (WP.ret ?_))
  exact EX.fin id (.inl rfl) rfl (.tmp rfl .nil) rfl r18 trivial (by simp) (by simp)
theorem w44 {a b : List Plate} : ∀ x ∈ ([.e (.a (.q 0)), .e (.a (.q 1))] : List SV), x.res (keys (α := Pred) [(0, PL EPl (a)), (1, PL EPl (b))]) := by simp [SV.res, El.res, At.res, keys]
theorem r44 {a b : List Plate} : SV.res (keys (α := Pred) []) (.b (samePl a b)) := by simp [SV.res, El.res, At.res, keys]
set_option maxHeartbeats 4000000 in
theorem c44 (a b : List Plate) (hl : a.length ≤ 1000000) : Sig Tryz.prog 44 [.e (.a (.q 0)), .e (.a (.q 1))] [(0, PL EPl (a)), (1, PL EPl (b))] (.b (samePl a b)) [] := by
  refine Sig.intro Tryz.func44 rfl 2 [(0, .e (.a (.q 0))), (1, .e (.a (.q 1)))] rfl w44 rfl rfl fun I w => ?_
  refine WP.seq (WP.region ?_)
  refine WPl.v rfl (o_assign rfl) ?_
  refine WPl.nil (EX.then (WP.seq (WP.seq (WP.region ?_))))
  refine WPl.v rfl (o_move rfl) ?_
  refine WPl.v rfl (o_lenq L30 rfl (lx rfl)) ?_
  refine WPl.v rfl (o_move rfl) ?_
  refine WPl.v rfl (o_lenq L30 rfl (lx rfl)) ?_
  refine WPl.v rfl (o_neq rfl rfl) ?_
  refine WPl.nil (EX.then ?_)
  refine WP.cond rfl (fun hc1 => ?_) (fun hc1 => ?_)
  · try simp only [cnd] at hc1
    refine WP.seq (WP.region ?_)
    refine WPl.v rfl (o_assign rfl) ?_
    refine WPl.nil (EX.then (WP.ret (EX.ret_then ?_)))
    rw [show samePl a b = false from by unfold samePl; rw [decide_eq_false hc1]; rfl]
    exact EX.fin id (.inl rfl) rfl (.tmp rfl .nil) rfl (by simp [SV.res, El.res, At.res, keys]) trivial (by simp) (by simp)
  · try simp only [cnd] at hc1
    refine WP.skip (EX.then (WP.seq (WP.seq (WP.region ?_))))
    refine WPl.v rfl (o_assign rfl) ?_
    refine WPl.nil (EX.then (WP.block ?_))
    refine WP.loop (Gh := Nat) (fun i => ⟨2, [(0, .e (.a (.q 0))), (1, .e (.a (.q 1))), (4, .b (false)), (5, .i ((i : Int)))], [(0, PL EPl (a)), (1, PL EPl (b))], [], [], []⟩) (fun i => i ≤ a.length ∧ allI (samePlAt a b) i = true) (fun i => a.length - i) (0) id ?_ (LeR.of ⟨rfl, rfl, rfl, rfl, trivial⟩ ⟨(lx rfl), (lx rfl), trivial⟩ trivial rfl rfl rfl rfl rfl) ?_
    · exact ⟨by omega, rfl⟩
    intro i hφ
    have hi : i ≤ a.length := hφ.1
    have hall := hφ.2
    refine WP.seq (WP.seq (WP.region ?_))
    refine WPl.v rfl (o_move rfl) ?_
    refine WPl.v rfl (o_move rfl) ?_
    refine WPl.v rfl (o_lenq L30 rfl (lx rfl)) ?_
    refine WPl.v rfl (o_lss rfl rfl) ?_
    refine WPl.nil (EX.then ?_)
    refine WP.cond rfl (fun hc2 => ?_) (fun hc2 => ?_)
    · try simp only [cnd] at hc2
      refine WP.skip (EX.then (WP.seq (WP.block (WP.seq ?_))))
      refine WP.draw (nf := 4) [⟨[18, 21, 22, 23, 24], [3], [], [], []⟩, ⟨[17, 21, 22, 23, 24], [3], [], [], []⟩, ⟨[21, 22, 23, 24], [3], [2], [2], [0, 1]⟩, ⟨[21, 22, 23, 24], [3], [], [], [0, 1, 2]⟩, ⟨[17, 18, 19, 20, 22], [2], [], [], []⟩, ⟨[17, 18, 19, 20, 21], [2], [], [], []⟩, ⟨[17, 18, 19, 20], [2], [3], [3], [4, 5]⟩, ⟨[17, 18, 19, 20], [2], [], [], [4, 5, 6]⟩, ⟨[], [], [], [], [0, 1, 2, 3, 4, 5, 6, 7]⟩] (by kernel_rfl) (by kernel_rfl) ?_
      refine DRQ.v rfl rfl rfl (o_move rfl) ?_
      refine DRQ.v rfl rfl rfl (o_move rfl) ?_
      refine DRQ.x 2 rfl rfl rfl rfl (o_idx L30 rfl (lx rfl) rfl (by first | omega | (simp; omega)) (by first | omega | (simp; omega))) ?_
      refine DRQ.v rfl rfl rfl (o_ldqg G77 rfl (lx rfl) (strG rfl) rfl rfl) ?_
      refine DRQ.v rfl rfl rfl (o_move rfl) ?_
      refine DRQ.v rfl rfl rfl (o_move rfl) ?_
      refine DRQ.x 3 rfl rfl rfl rfl (o_idx L30 rfl (lx rfl) rfl (by first | omega | (simp; omega)) (by first | omega | (simp; omega))) ?_
      refine DRQ.v rfl rfl rfl (o_ldqg G77 rfl (lx rfl) (strG rfl) rfl rfl) ?_
      refine DRQ.v rfl rfl rfl (o_nes (a := [(nth a (i : Int)).page, (nth a (i : Int)).bore, (nth a (i : Int)).many]) (b := [(nth b (i : Int)).page, (nth b (i : Int)).bore, (nth b (i : Int)).many]) Q77 rfl Tryz.eqGuardType77 rfl rfl rfl rfl) ?_
      refine DRQ.nil' ?_
      refine EX.then ?_
      refine WP.cond rfl (fun hc3 => ?_) (fun hc3 => ?_)
      · try simp only [cnd] at hc3
        refine WP.seq (WP.region ?_)
        refine WPl.v rfl (o_assign rfl) ?_
        refine WPl.nil (EX.then (WP.ret (EX.ret_blk (EX.ret_then (EX.ret_then (EX.ret_blk (EX.ret_then ?_)))))))
        rw [show samePl a b = false from by unfold samePl; rw [not_allI (show i < a.length by omega) (show samePlAt a b i = false from decide_eq_false hc3)]; simp]
        exact EX.fin id (.inl rfl) rfl (.tmp rfl .nil) rfl (by simp [SV.res, El.res, At.res, keys]) trivial (by simp) (by simp)
      · try simp only [cnd] at hc3
        refine WP.skip (EX.blk (EX.then (WP.region ?_)))
        refine WPl.v rfl (o_move rfl) ?_
        refine WPl.v rfl (o_add rfl rfl (by first | omega | (simp; omega)) (by first | omega | (simp; omega))) ?_
        refine WPl.v rfl (o_assign rfl) ?_
        refine WPl.nil ?_
        refine EX.again (i + 1) id (by exact ⟨by omega, by simp only [allI, hall, Bool.true_and, samePlAt, decide_eq_true_eq]; exact hc3⟩) (by omega) (LeR.of ⟨rfl, rfl, rfl, rfl, trivial⟩ ⟨(lx rfl), (lx rfl), trivial⟩ trivial rfl rfl rfl rfl rfl)
    · try simp only [cnd] at hc2
      refine WP.exit (EX.exit_then (EX.exit_then (EX.exit_blk (EX.then (WP.seq (WP.region ?_))))))
      refine WPl.v rfl (o_assign rfl) ?_
      refine WPl.nil (EX.then (WP.ret ?_))
      have hie : i = a.length := by omega
      rw [show samePl a b = true from by unfold samePl; rw [decide_eq_true (by first | exact hc1 | simpa using hc1), ← hie]; exact hall]
      exact EX.fin id (.inl rfl) rfl (.tmp rfl .nil) rfl (by simp [SV.res, El.res, At.res, keys]) trivial (by simp) (by simp)
theorem w138 {p : List (List Int)} : ∀ x ∈ ([.e (.a (.q 0)), .e (.a (.q 1))] : List SV), x.res (keys (α := Pred) [(0, PL (EP.sl EP.int) (p)), (1, PL (EP.sl EP.int) (p))]) := by simp [SV.res, El.res, At.res, keys]
theorem r138  : SV.res (keys (α := Pred) []) (.b (true)) := by simp [SV.res, El.res, At.res, keys]
set_option maxHeartbeats 4000000 in
theorem c138 (p : List (List Int)) (hl : p.length ≤ 1000) (hr : ∀ i : Nat, i < p.length → (nth p (i : Int)).length ≤ 1000) : Sig Tryz.prog 138 [.e (.a (.q 0)), .e (.a (.q 1))] [(0, PL (EP.sl EP.int) (p)), (1, PL (EP.sl EP.int) (p))] (.b (true)) [] := by
  refine Sig.intro Tryz.func138 rfl 2 [(0, .e (.a (.q 0))), (1, .e (.a (.q 1)))] rfl w138 rfl rfl fun I w => ?_
  refine WP.seq (WP.region ?_)
  refine WPl.v rfl (o_assign rfl) ?_
  refine WPl.nil (EX.then (WP.seq (WP.seq (WP.region ?_))))
  refine WPl.v rfl (o_move rfl) ?_
  refine WPl.v rfl (o_lenq L27 rfl (lx rfl)) ?_
  refine WPl.v rfl (o_move rfl) ?_
  refine WPl.v rfl (o_lenq L27 rfl (lx rfl)) ?_
  refine WPl.v rfl (o_neq rfl rfl) ?_
  refine WPl.nil (EX.then ?_)
  refine WP.cond rfl (fun hc1 => ?_) (fun hc1 => ?_)
  · try simp only [cnd] at hc1
    simp at hc1
  · try simp only [cnd] at hc1
    refine WP.skip (EX.then (WP.seq (WP.seq (WP.region ?_))))
    refine WPl.v rfl (o_assign rfl) ?_
    refine WPl.nil (EX.then (WP.block ?_))
    refine WP.loop (Gh := Nat) (fun i => ⟨2, [(0, .e (.a (.q 0))), (1, .e (.a (.q 1))), (4, .b (false)), (5, .i ((i : Int)))], [(0, PL (EP.sl EP.int) (p)), (1, PL (EP.sl EP.int) (p))], [], [], []⟩) (fun i => i ≤ p.length) (fun i => p.length - i) (0) id ?_ (LeR.of ⟨rfl, rfl, rfl, rfl, trivial⟩ ⟨(lx rfl), (lx rfl), trivial⟩ trivial rfl rfl rfl rfl rfl) ?_
    · first | trivial | omega | (constructor <;> omega) | simp
    intro i hφ
    have hi : i ≤ p.length := hφ
    refine WP.seq (WP.seq (WP.region ?_))
    refine WPl.v rfl (o_move rfl) ?_
    refine WPl.v rfl (o_move rfl) ?_
    refine WPl.v rfl (o_lenq L27 rfl (lx rfl)) ?_
    refine WPl.v rfl (o_lss rfl rfl) ?_
    refine WPl.nil (EX.then ?_)
    refine WP.cond rfl (fun hc2 => ?_) (fun hc2 => ?_)
    · try simp only [cnd] at hc2
      refine WP.skip (EX.then (WP.seq (WP.block (WP.seq ?_))))
      refine WP.draw (nf := 6) [⟨[18, 21, 22, 23, 24], [4, 5], [], [], []⟩, ⟨[17, 21, 22, 23, 24], [4, 5], [], [], []⟩, ⟨[21, 22, 23, 24], [4, 5], [2], [2], [0, 1]⟩, ⟨[21, 22, 23, 24], [4, 5], [3], [3], [0, 1, 2]⟩, ⟨[17, 18, 19, 20, 22], [2, 3], [], [], []⟩, ⟨[17, 18, 19, 20, 21], [2, 3], [], [], []⟩, ⟨[17, 18, 19, 20], [2, 3], [4], [4], [4, 5]⟩, ⟨[17, 18, 19, 20], [2, 3], [5], [5], [4, 5, 6]⟩, ⟨[], [], [], [], [0, 1, 2, 3, 4, 5, 6, 7]⟩, ⟨[], [], [], [], [0, 1, 2, 3, 4, 5, 6, 7, 8]⟩] (by kernel_rfl) (by kernel_rfl) ?_
      refine DRQ.v rfl rfl rfl (o_move rfl) ?_
      refine DRQ.v rfl rfl rfl (o_move rfl) ?_
      refine DRQ.x 2 rfl rfl rfl rfl (o_idx L27 rfl (lx rfl) rfl (by first | omega | (simp; omega)) (by first | omega | (simp; omega))) ?_
      refine DRQ.x 3 rfl rfl rfl rfl (o_ldqx S24 rfl (lx rfl) slx) ?_
      refine DRQ.v rfl rfl rfl (o_move rfl) ?_
      refine DRQ.v rfl rfl rfl (o_move rfl) ?_
      refine DRQ.x 4 rfl rfl rfl rfl (o_idx L27 rfl (lx rfl) rfl (by first | omega | (simp; omega)) (by first | omega | (simp; omega))) ?_
      refine DRQ.x 5 rfl rfl rfl rfl (o_ldqx S24 rfl (lx rfl) slx) ?_
      refine DRQ.cs rfl rfl rfl rfl (o_sig 6 (ren [(0, 3), (1, 5)]) (c51 (nth p (i : Int)) (nth p (i : Int)) (by have := hr i (by omega); omega)) e51 rfl rfl rfl w51 ⟨(lx rfl), (lx rfl), trivial⟩ r51) ?_
      refine DRQ.v rfl rfl rfl (o_not rfl) ?_
      refine DRQ.nil' ?_
      refine EX.then ?_
      refine WP.cond rfl (fun hc3 => ?_) (fun hc3 => ?_)
      · try simp only [cnd] at hc3
        rw [sameInts_refl] at hc3; simp at hc3
      · try simp only [cnd] at hc3
        refine WP.skip (EX.blk (EX.then (WP.region ?_)))
        refine WPl.v rfl (o_move rfl) ?_
        refine WPl.v rfl (o_add rfl rfl (by first | omega | (simp; omega)) (by first | omega | (simp; omega))) ?_
        refine WPl.v rfl (o_assign rfl) ?_
        refine WPl.nil ?_
        refine EX.again (i + 1) id (by first | omega | (constructor <;> omega)) (by omega) (LeR.of ⟨rfl, rfl, rfl, rfl, trivial⟩ ⟨(lx rfl), (lx rfl), trivial⟩ trivial rfl rfl rfl rfl rfl)
    · try simp only [cnd] at hc2
      refine WP.exit (EX.exit_then (EX.exit_then (EX.exit_blk (EX.then (WP.seq (WP.region ?_))))))
      refine WPl.v rfl (o_assign rfl) ?_
      refine WPl.nil (EX.then (WP.ret ?_))
      exact EX.fin id (.inl rfl) rfl (.tmp rfl .nil) rfl r138 trivial (by simp) (by simp)
theorem w137 {h : Hall} : ∀ x ∈ ([.e (.g [.q 0, .q 1, .q 2, ai (h.change)]), .e (.g [.q 3, .q 4, .q 5, ai (h.change)])] : List SV), x.res (keys (α := Pred) [(0, PL ETm (h.machs)), (1, PL EBd (h.buns)), (2, PL EP.int (h.trains)), (3, PL ETm (h.machs)), (4, PL EBd (h.buns)), (5, PL EP.int (h.trains))]) := by simp [SV.res, El.res, At.res, keys]
theorem r137  : SV.res (keys (α := Pred) []) (.b (true)) := by simp [SV.res, El.res, At.res, keys]
set_option maxHeartbeats 4000000 in
set_option maxRecDepth 10000 in
theorem c137 (h : Hall) (hm : h.Small) : Sig Tryz.prog 137 [.e (.g [.q 0, .q 1, .q 2, ai (h.change)]), .e (.g [.q 3, .q 4, .q 5, ai (h.change)])] [(0, PL ETm (h.machs)), (1, PL EBd (h.buns)), (2, PL EP.int (h.trains)), (3, PL ETm (h.machs)), (4, PL EBd (h.buns)), (5, PL EP.int (h.trains))] (.b (true)) [] := by
  have hm1 := hm.m
  have hm2 := hm.b
  have hm3 := hm.t
  refine Sig.intro Tryz.func137 rfl 6 [(0, .e (.g [.q 0, .q 1, .q 2, ai (h.change)])), (1, .e (.g [.q 3, .q 4, .q 5, ai (h.change)]))] rfl w137 rfl rfl fun I w => ?_
  refine WP.seq (WP.region ?_)
  refine WPl.l 6 7 rfl rfl rfl (o_boxg rfl) ?_
  refine WPl.l 7 8 rfl rfl rfl (o_boxg rfl) ?_
  refine WPl.v rfl (o_assign rfl) ?_
  refine WPl.nil (EX.then (WP.seq (WP.seq (WP.region ?_))))
  refine WPl.v rfl (o_fldp F26_0 rfl) ?_
  refine WPl.v rfl (o_ldp S22 rfl rfl rfl) ?_
  refine WPl.v rfl (o_lenq L22 rfl (lx rfl)) ?_
  refine WPl.v rfl (o_fldp F26_0 rfl) ?_
  refine WPl.v rfl (o_ldp S22 rfl rfl rfl) ?_
  refine WPl.v rfl (o_lenq L22 rfl (lx rfl)) ?_
  refine WPl.v rfl (o_neq rfl rfl) ?_
  refine WPl.imp (Imp.bitF 13 (b' := false) rfl (by simp)) ?_
  refine WPl.v rfl (o_move rfl) ?_
  refine WPl.ung ⟨_, _, rfl, rfl, rfl⟩ ?_
  refine WPl.v rfl (o_fldp F26_1 rfl) ?_
  refine WPl.ung ⟨_, _, rfl, rfl, rfl⟩ ?_
  refine WPl.v rfl (o_ldp S23 rfl rfl rfl) ?_
  refine WPl.ung ⟨_, _, rfl, rfl, rfl⟩ ?_
  refine WPl.v rfl (o_lenq L23 rfl (lx rfl)) ?_
  refine WPl.ung ⟨_, _, rfl, rfl, rfl⟩ ?_
  refine WPl.v rfl (o_fldp F26_1 rfl) ?_
  refine WPl.ung ⟨_, _, rfl, rfl, rfl⟩ ?_
  refine WPl.v rfl (o_ldp S23 rfl rfl rfl) ?_
  refine WPl.ung ⟨_, _, rfl, rfl, rfl⟩ ?_
  refine WPl.v rfl (o_lenq L23 rfl (lx rfl)) ?_
  refine WPl.on rfl ⟨_, _, rfl, rfl, rfl⟩ (o_neq rfl rfl) ?_
  refine WPl.imp (Imp.bitF 21 (b' := false) rfl (by simp)) ?_
  refine WPl.v rfl (o_pickF rfl rfl) ?_
  refine WPl.v rfl (o_move rfl) ?_
  refine WPl.ung ⟨_, _, rfl, rfl, rfl⟩ ?_
  refine WPl.v rfl (o_fldp F26_2 rfl) ?_
  refine WPl.ung ⟨_, _, rfl, rfl, rfl⟩ ?_
  refine WPl.v rfl (o_ldp S24 rfl rfl rfl) ?_
  refine WPl.ung ⟨_, _, rfl, rfl, rfl⟩ ?_
  refine WPl.v rfl (o_fldp F26_2 rfl) ?_
  refine WPl.ung ⟨_, _, rfl, rfl, rfl⟩ ?_
  refine WPl.v rfl (o_ldp S24 rfl rfl rfl) ?_
  refine WPl.ung ⟨_, _, rfl, rfl, rfl⟩ ?_
  refine WPl.cs 8 rfl rfl rfl rfl (o_sig 8 (ren [(0, 2), (1, 5)]) (c51 h.trains h.trains (by omega)) e51 rfl rfl rfl w51 ⟨(lx rfl), (lx rfl), trivial⟩ r51) ?_
  refine WPl.imp (Imp.bitF 28 (b' := true) rfl (sameInts_refl _)) ?_
  refine WPl.on rfl ⟨_, _, rfl, rfl, rfl⟩ (o_not rfl) ?_
  refine WPl.v rfl (o_pickF rfl rfl) ?_
  refine WPl.v rfl (o_move rfl) ?_
  refine WPl.ung ⟨_, _, rfl, rfl, rfl⟩ ?_
  refine WPl.v rfl (o_fldp F26_3 rfl) ?_
  refine WPl.ung ⟨_, _, rfl, rfl, rfl⟩ ?_
  refine WPl.v rfl (o_ldp S3 rfl rfl rfl) ?_
  refine WPl.ung ⟨_, _, rfl, rfl, rfl⟩ ?_
  refine WPl.v rfl (o_fldp F26_3 rfl) ?_
  refine WPl.ung ⟨_, _, rfl, rfl, rfl⟩ ?_
  refine WPl.v rfl (o_ldp S3 rfl rfl rfl) ?_
  refine WPl.on rfl ⟨_, _, rfl, rfl, rfl⟩ (o_neq rfl rfl) ?_
  refine WPl.imp (Imp.bitF 36 (b' := false) rfl (by simp)) ?_
  refine WPl.v rfl (o_pickF rfl rfl) ?_
  refine WPl.nil (EX.then ?_)
  refine WP.cond rfl (fun h => by cases h) (fun _ => ?_)
  refine WP.skip (EX.then (WP.seq (WP.seq (WP.region ?_))))
  refine WPl.v rfl (o_assign rfl) ?_
  refine WPl.nil (EX.then (WP.block ?_))
  refine WP.loop (Gh := Nat) (fun i => ⟨8, [(2, .e (.a (.p 6 (0)))), (3, .e (.a (.p 7 (0)))), (4, .b (false)), (5, .i ((i : Int)))], [(0, PL ETm (h.machs)), (1, PL EBd (h.buns)), (2, PL EP.int (h.trains)), (3, PL ETm (h.machs)), (4, PL EBd (h.buns)), (5, PL EP.int (h.trains))], [(6, .blk [.q 0, .q 1, .q 2, ai (h.change)] 26), (7, .blk [.q 3, .q 4, .q 5, ai (h.change)] 26)], [], []⟩) (fun i => i ≤ h.machs.length) (fun i => h.machs.length - i) (0) id ?_ (LeR.of ⟨rfl, rfl, rfl, rfl, trivial⟩ ⟨(lx rfl), (lx rfl), (lx rfl), (lx rfl), (lx rfl), (lx rfl), trivial⟩ ⟨rfl, rfl, trivial⟩ rfl rfl rfl rfl rfl) ?_
  · first | trivial | omega | (constructor <;> omega) | simp
  intro i hφ
  have hi : i ≤ h.machs.length := hφ
  refine WP.seq (WP.seq (WP.region ?_))
  refine WPl.v rfl (o_move rfl) ?_
  refine WPl.v rfl (o_fldp F26_0 rfl) ?_
  refine WPl.v rfl (o_ldp S22 rfl rfl rfl) ?_
  refine WPl.v rfl (o_lenq L22 rfl (lx rfl)) ?_
  refine WPl.v rfl (o_lss rfl rfl) ?_
  refine WPl.nil (EX.then ?_)
  refine WP.cond rfl (fun hc2 => ?_) (fun hc2 => ?_)
  · try simp only [cnd] at hc2
    refine WP.skip (EX.then (WP.seq (WP.block (WP.seq ?_))))
    refine WP.draw (nf := 10) [⟨[47, 50, 51, 52, 53, 54], [9], [], [], []⟩, ⟨[47, 50, 51, 52, 53, 54], [9], [], [], [0]⟩, ⟨[45, 46, 50, 51, 52, 53, 54], [9], [], [], []⟩, ⟨[50, 51, 52, 53, 54], [9], [8], [8], [0, 1, 2]⟩, ⟨[50, 51, 52, 53, 54], [9], [], [], [0, 1, 2, 3]⟩, ⟨[45, 46, 47, 48, 49, 52], [8], [], [], []⟩, ⟨[45, 46, 47, 48, 49, 52], [8], [], [], [5]⟩, ⟨[45, 46, 47, 48, 49, 50, 51], [8], [], [], []⟩, ⟨[45, 46, 47, 48, 49], [8], [9], [9], [5, 6, 7]⟩, ⟨[45, 46, 47, 48, 49], [8], [], [], [5, 6, 7, 8]⟩, ⟨[], [], [], [], [0, 1, 2, 3, 4, 5, 6, 7, 8, 9]⟩] (by kernel_rfl) (by kernel_rfl) ?_
    refine DRQ.v rfl rfl rfl (o_fldp F26_0 rfl) ?_
    refine DRQ.v rfl rfl rfl (o_ldp S22 rfl rfl rfl) ?_
    refine DRQ.v rfl rfl rfl (o_move rfl) ?_
    refine DRQ.x 8 rfl rfl rfl rfl (o_idx L22 rfl (lx rfl) rfl (by first | omega | (simp; omega)) (by first | omega | (simp; omega))) ?_
    refine DRQ.v rfl rfl rfl (o_ldqg G156 rfl (lx rfl) (strG rfl) rfl rfl) ?_
    refine DRQ.v rfl rfl rfl (o_fldp F26_0 rfl) ?_
    refine DRQ.v rfl rfl rfl (o_ldp S22 rfl rfl rfl) ?_
    refine DRQ.v rfl rfl rfl (o_move rfl) ?_
    refine DRQ.x 9 rfl rfl rfl rfl (o_idx L22 rfl (lx rfl) rfl (by first | omega | (simp; omega)) (by first | omega | (simp; omega))) ?_
    refine DRQ.v rfl rfl rfl (o_ldqg G156 rfl (lx rfl) (strG rfl) rfl rfl) ?_
    refine DRQ.v rfl rfl rfl (o_nes (a := [(nth h.machs (i : Int)).ready, (nth h.machs (i : Int)).pace, (nth h.machs (i : Int)).stops]) (b := [(nth h.machs (i : Int)).ready, (nth h.machs (i : Int)).pace, (nth h.machs (i : Int)).stops]) Q156 rfl Tryz.eqGuardType156 rfl rfl rfl rfl) ?_
    refine DRQ.nil' ?_
    refine EX.then ?_
    refine WP.cond rfl (fun hc3 => ?_) (fun hc3 => ?_)
    · try simp only [cnd] at hc3
      simp at hc3
    · try simp only [cnd] at hc3
      refine WP.skip (EX.blk (EX.then (WP.region ?_)))
      refine WPl.v rfl (o_move rfl) ?_
      refine WPl.v rfl (o_add rfl rfl (by first | omega | (simp; omega)) (by first | omega | (simp; omega))) ?_
      refine WPl.v rfl (o_assign rfl) ?_
      refine WPl.nil ?_
      refine EX.again (i + 1) id (by first | omega | (constructor <;> omega)) (by omega) (LeR.of ⟨rfl, rfl, rfl, rfl, trivial⟩ ⟨(lx rfl), (lx rfl), (lx rfl), (lx rfl), (lx rfl), (lx rfl), trivial⟩ ⟨rfl, rfl, trivial⟩ rfl rfl rfl rfl rfl)
  · try simp only [cnd] at hc2
    refine WP.exit (EX.exit_then (EX.exit_then (EX.exit_blk (EX.then (WP.seq (WP.seq (WP.region ?_)))))))
    refine WPl.v rfl (o_assign rfl) ?_
    refine WPl.nil (EX.then (WP.block ?_))
    refine WP.loop (Gh := Nat) (fun i2 => ⟨8, [(2, .e (.a (.p 6 (0)))), (3, .e (.a (.p 7 (0)))), (4, .b (false)), (6, .i ((i2 : Int)))], [(0, PL ETm (h.machs)), (1, PL EBd (h.buns)), (2, PL EP.int (h.trains)), (3, PL ETm (h.machs)), (4, PL EBd (h.buns)), (5, PL EP.int (h.trains))], [(6, .blk [.q 0, .q 1, .q 2, ai (h.change)] 26), (7, .blk [.q 3, .q 4, .q 5, ai (h.change)] 26)], [], []⟩) (fun i2 => i2 ≤ h.buns.length) (fun i2 => h.buns.length - i2) (0) id ?_ (LeR.of ⟨rfl, rfl, rfl, rfl, trivial⟩ ⟨(lx rfl), (lx rfl), (lx rfl), (lx rfl), (lx rfl), (lx rfl), trivial⟩ ⟨rfl, rfl, trivial⟩ rfl rfl rfl rfl rfl) ?_
    · first | trivial | omega | (constructor <;> omega) | simp
    intro i2 hφ
    have hi2 : i2 ≤ h.buns.length := hφ
    refine WP.seq (WP.seq (WP.region ?_))
    refine WPl.v rfl (o_move rfl) ?_
    refine WPl.v rfl (o_fldp F26_1 rfl) ?_
    refine WPl.v rfl (o_ldp S23 rfl rfl rfl) ?_
    refine WPl.v rfl (o_lenq L23 rfl (lx rfl)) ?_
    refine WPl.v rfl (o_lss rfl rfl) ?_
    refine WPl.nil (EX.then ?_)
    refine WP.cond rfl (fun hc4 => ?_) (fun hc4 => ?_)
    · try simp only [cnd] at hc4
      refine WP.skip (EX.then (WP.seq (WP.block (WP.seq ?_))))
      refine WP.draw (nf := 10) [⟨[65, 68, 69, 70, 71, 72], [9], [], [], []⟩, ⟨[65, 68, 69, 70, 71, 72], [9], [], [], [0]⟩, ⟨[63, 64, 68, 69, 70, 71, 72], [9], [], [], []⟩, ⟨[68, 69, 70, 71, 72], [9], [8], [8], [0, 1, 2]⟩, ⟨[68, 69, 70, 71, 72], [9], [], [], [0, 1, 2, 3]⟩, ⟨[63, 64, 65, 66, 67, 70], [8], [], [], []⟩, ⟨[63, 64, 65, 66, 67, 70], [8], [], [], [5]⟩, ⟨[63, 64, 65, 66, 67, 68, 69], [8], [], [], []⟩, ⟨[63, 64, 65, 66, 67], [8], [9], [9], [5, 6, 7]⟩, ⟨[63, 64, 65, 66, 67], [8], [], [], [5, 6, 7, 8]⟩, ⟨[], [], [], [], [0, 1, 2, 3, 4, 5, 6, 7, 8, 9]⟩] (by kernel_rfl) (by kernel_rfl) ?_
      refine DRQ.v rfl rfl rfl (o_fldp F26_1 rfl) ?_
      refine DRQ.v rfl rfl rfl (o_ldp S23 rfl rfl rfl) ?_
      refine DRQ.v rfl rfl rfl (o_move rfl) ?_
      refine DRQ.x 8 rfl rfl rfl rfl (o_idx L23 rfl (lx rfl) rfl (by first | omega | (simp; omega)) (by first | omega | (simp; omega))) ?_
      refine DRQ.v rfl rfl rfl (o_ldqg G95 rfl (lx rfl) (strG rfl) rfl rfl) ?_
      refine DRQ.v rfl rfl rfl (o_fldp F26_1 rfl) ?_
      refine DRQ.v rfl rfl rfl (o_ldp S23 rfl rfl rfl) ?_
      refine DRQ.v rfl rfl rfl (o_move rfl) ?_
      refine DRQ.x 9 rfl rfl rfl rfl (o_idx L23 rfl (lx rfl) rfl (by first | omega | (simp; omega)) (by first | omega | (simp; omega))) ?_
      refine DRQ.v rfl rfl rfl (o_ldqg G95 rfl (lx rfl) (strG rfl) rfl rfl) ?_
      refine DRQ.v rfl rfl rfl (o_nes (a := [(nth h.buns (i2 : Int)).train, (nth h.buns (i2 : Int)).hundreds, (nth h.buns (i2 : Int)).edition]) (b := [(nth h.buns (i2 : Int)).train, (nth h.buns (i2 : Int)).hundreds, (nth h.buns (i2 : Int)).edition]) Q95 rfl Tryz.eqGuardType95 rfl rfl rfl rfl) ?_
      refine DRQ.nil' ?_
      refine EX.then ?_
      refine WP.cond rfl (fun hc5 => ?_) (fun hc5 => ?_)
      · try simp only [cnd] at hc5
        simp at hc5
      · try simp only [cnd] at hc5
        refine WP.skip (EX.blk (EX.then (WP.region ?_)))
        refine WPl.v rfl (o_move rfl) ?_
        refine WPl.v rfl (o_add rfl rfl (by first | omega | (simp; omega)) (by first | omega | (simp; omega))) ?_
        refine WPl.v rfl (o_assign rfl) ?_
        refine WPl.nil ?_
        refine EX.again (i2 + 1) id (by first | omega | (constructor <;> omega)) (by omega) (LeR.of ⟨rfl, rfl, rfl, rfl, trivial⟩ ⟨(lx rfl), (lx rfl), (lx rfl), (lx rfl), (lx rfl), (lx rfl), trivial⟩ ⟨rfl, rfl, trivial⟩ rfl rfl rfl rfl rfl)
    · try simp only [cnd] at hc4
      refine WP.exit (EX.exit_then (EX.exit_then (EX.exit_blk (EX.then (WP.seq (WP.region ?_))))))
      refine WPl.v rfl (o_assign rfl) ?_
      refine WPl.nil (EX.then (WP.ret ?_))
      exact EX.fin id (.inl rfl) rfl (.tmp rfl .nil) rfl r137 trivial (by simp) (by simp)
theorem w92 {h : Hall} : ∀ x ∈ ([.e (.g [.q 0, .q 1, .q 2, ai (h.change), .q 3, .q 4]), .e (.g [.q 5, .q 6, .q 7, ai (h.change), .q 8, .q 9])] : List SV), x.res (keys (α := Pred) [(0, PL ETm (h.machs)), (1, PL EBd (h.buns)), (2, PL EP.int (h.trains)), (3, PL EP.int (h.bores)), (4, PL (EP.sl EP.int) (h.eds)), (5, PL ETm (h.machs)), (6, PL EBd (h.buns)), (7, PL EP.int (h.trains)), (8, PL EP.int (h.bores)), (9, PL (EP.sl EP.int) (h.eds))]) := by simp [SV.res, El.res, At.res, keys]
theorem r92  : SV.res (keys (α := Pred) []) (.b (true)) := by simp [SV.res, El.res, At.res, keys]
set_option maxHeartbeats 4000000 in
set_option maxRecDepth 10000 in
theorem c92 (h : Hall) (hm : h.Small) : Sig Tryz.prog 92 [.e (.g [.q 0, .q 1, .q 2, ai (h.change), .q 3, .q 4]), .e (.g [.q 5, .q 6, .q 7, ai (h.change), .q 8, .q 9])] [(0, PL ETm (h.machs)), (1, PL EBd (h.buns)), (2, PL EP.int (h.trains)), (3, PL EP.int (h.bores)), (4, PL (EP.sl EP.int) (h.eds)), (5, PL ETm (h.machs)), (6, PL EBd (h.buns)), (7, PL EP.int (h.trains)), (8, PL EP.int (h.bores)), (9, PL (EP.sl EP.int) (h.eds))] (.b (true)) [] := by
  have hm4 := hm.o
  have hm5 := hm.e
  have hm6 := hm.p
  refine Sig.intro Tryz.func92 rfl 10 [(0, .e (.g [.q 0, .q 1, .q 2, ai (h.change), .q 3, .q 4])), (1, .e (.g [.q 5, .q 6, .q 7, ai (h.change), .q 8, .q 9]))] rfl w92 rfl rfl fun I w => ?_
  refine WP.seq (WP.region ?_)
  refine WPl.l 10 11 rfl rfl rfl (o_boxg rfl) ?_
  refine WPl.l 11 12 rfl rfl rfl (o_boxg rfl) ?_
  refine WPl.v rfl (o_assign rfl) ?_
  refine WPl.nil (EX.then (WP.seq (WP.region ?_)))
  refine WPl.v rfl (o_fldp F29_0 rfl) ?_
  refine WPl.v rfl (o_ldpg G26 rfl rfl rfl) ?_
  refine WPl.v rfl (o_fldp F29_0 rfl) ?_
  refine WPl.v rfl (o_ldpg G26 rfl rfl rfl) ?_
  refine WPl.cs 12 rfl rfl rfl rfl (o_sig 12 (ren [(0, 0), (1, 1), (2, 2), (3, 5), (4, 6), (5, 7)]) (c137 h hm) e137 rfl rfl rfl w137 ⟨(lx rfl), (lx rfl), (lx rfl), (lx rfl), (lx rfl), (lx rfl), trivial⟩ r137) ?_
  refine WPl.v rfl (o_move rfl) ?_
  refine WPl.ung ⟨_, _, rfl, rfl, rfl⟩ ?_
  refine WPl.v rfl (o_fldp F29_1 rfl) ?_
  refine WPl.ung ⟨_, _, rfl, rfl, rfl⟩ ?_
  refine WPl.v rfl (o_ldp S24 rfl rfl rfl) ?_
  refine WPl.ung ⟨_, _, rfl, rfl, rfl⟩ ?_
  refine WPl.v rfl (o_fldp F29_1 rfl) ?_
  refine WPl.ung ⟨_, _, rfl, rfl, rfl⟩ ?_
  refine WPl.v rfl (o_ldp S24 rfl rfl rfl) ?_
  refine WPl.ung ⟨_, _, rfl, rfl, rfl⟩ ?_
  refine WPl.cs 12 rfl rfl rfl rfl (o_sig 12 (ren [(0, 3), (1, 8)]) (c51 h.bores h.bores (by omega)) e51 rfl rfl rfl w51 ⟨(lx rfl), (lx rfl), trivial⟩ r51) ?_
  refine WPl.imp (Imp.bitF 15 (b' := true) rfl (sameInts_refl _)) ?_
  refine WPl.v rfl (o_pickT rfl rfl) ?_
  refine WPl.v rfl (o_move rfl) ?_
  refine WPl.ung ⟨_, _, rfl, rfl, rfl⟩ ?_
  refine WPl.v rfl (o_fldp F29_2 rfl) ?_
  refine WPl.ung ⟨_, _, rfl, rfl, rfl⟩ ?_
  refine WPl.v rfl (o_ldp S27 rfl rfl rfl) ?_
  refine WPl.ung ⟨_, _, rfl, rfl, rfl⟩ ?_
  refine WPl.v rfl (o_fldp F29_2 rfl) ?_
  refine WPl.ung ⟨_, _, rfl, rfl, rfl⟩ ?_
  refine WPl.v rfl (o_ldp S27 rfl rfl rfl) ?_
  refine WPl.ung ⟨_, _, rfl, rfl, rfl⟩ ?_
  refine WPl.cs 12 rfl rfl rfl rfl (o_sig 12 (ren [(0, 4), (1, 9)]) (c138 h.eds (by omega) (fun i hi => by have := hm6 i hi; omega)) e138 rfl rfl rfl w138 ⟨(lx rfl), (lx rfl), trivial⟩ r138) ?_
  refine WPl.v rfl (o_pickT rfl rfl) ?_
  refine WPl.v rfl (o_assign rfl) ?_
  refine WPl.nil (EX.then (WP.ret ?_))
  exact EX.fin id (.inl rfl) rfl (.tmp rfl .nil) rfl r92 trivial (by simp) (by simp)
theorem w23 {b : Book} : ∀ x ∈ ([.e (.g [.q 0, .q 1, .q 2, ai (b.hall.change), .q 3, .q 4, .q 5, .q 6, ai (b.boys), .q 7]), .e (.g [.q 8, .q 9, .q 10, ai (b.hall.change), .q 11, .q 12, .q 13, .q 14, ai (b.boys), .q 15])] : List SV), x.res (keys (α := Pred) [(0, PL ETm (b.hall.machs)), (1, PL EBd (b.hall.buns)), (2, PL EP.int (b.hall.trains)), (3, PL EP.int (b.hall.bores)), (4, PL (EP.sl EP.int) (b.hall.eds)), (5, PL EPl (b.set)), (6, PL EP.int (b.walk)), (7, PL ETa (b.tals)), (8, PL ETm (b.hall.machs)), (9, PL EBd (b.hall.buns)), (10, PL EP.int (b.hall.trains)), (11, PL EP.int (b.hall.bores)), (12, PL (EP.sl EP.int) (b.hall.eds)), (13, PL EPl (b.set)), (14, PL EP.int (b.walk)), (15, PL ETa (b.tals))]) := by simp [SV.res, El.res, At.res, keys]
theorem r23  : SV.res (keys (α := Pred) []) (.b (true)) := by simp [SV.res, El.res, At.res, keys]
set_option maxHeartbeats 4000000 in
set_option maxRecDepth 10000 in
theorem c23 (b : Book) (hm : b.Small) : Sig Tryz.prog 23 [.e (.g [.q 0, .q 1, .q 2, ai (b.hall.change), .q 3, .q 4, .q 5, .q 6, ai (b.boys), .q 7]), .e (.g [.q 8, .q 9, .q 10, ai (b.hall.change), .q 11, .q 12, .q 13, .q 14, ai (b.boys), .q 15])] [(0, PL ETm (b.hall.machs)), (1, PL EBd (b.hall.buns)), (2, PL EP.int (b.hall.trains)), (3, PL EP.int (b.hall.bores)), (4, PL (EP.sl EP.int) (b.hall.eds)), (5, PL EPl (b.set)), (6, PL EP.int (b.walk)), (7, PL ETa (b.tals)), (8, PL ETm (b.hall.machs)), (9, PL EBd (b.hall.buns)), (10, PL EP.int (b.hall.trains)), (11, PL EP.int (b.hall.bores)), (12, PL (EP.sl EP.int) (b.hall.eds)), (13, PL EPl (b.set)), (14, PL EP.int (b.walk)), (15, PL ETa (b.tals))] (.b (true)) [] := by
  have hm1 := hm.h.m
  have hm2 := hm.h.b
  have hm3 := hm.h.t
  have hm4 := hm.h.o
  have hm5 := hm.h.e
  have hm6 := hm.s
  have hm7 := hm.w
  have hm8 := hm.t
  refine Sig.intro Tryz.func23 rfl 16 [(0, .e (.g [.q 0, .q 1, .q 2, ai (b.hall.change), .q 3, .q 4, .q 5, .q 6, ai (b.boys), .q 7])), (1, .e (.g [.q 8, .q 9, .q 10, ai (b.hall.change), .q 11, .q 12, .q 13, .q 14, ai (b.boys), .q 15]))] rfl w23 rfl rfl fun I w => ?_
  refine WP.seq (WP.region ?_)
  refine WPl.l 16 17 rfl rfl rfl (o_boxg rfl) ?_
  refine WPl.l 17 18 rfl rfl rfl (o_boxg rfl) ?_
  refine WPl.v rfl (o_assign rfl) ?_
  refine WPl.nil (EX.then (WP.seq (WP.seq (WP.region ?_))))
  refine WPl.v rfl (o_fldp F33_0 rfl) ?_
  refine WPl.v rfl (o_ldpg G29 rfl rfl rfl) ?_
  refine WPl.v rfl (o_fldp F33_0 rfl) ?_
  refine WPl.v rfl (o_ldpg G29 rfl rfl rfl) ?_
  refine WPl.cs 18 rfl rfl rfl rfl (o_sig 18 (ren [(0, 0), (1, 1), (2, 2), (3, 3), (4, 4), (5, 8), (6, 9), (7, 10), (8, 11), (9, 12)]) (c92 b.hall hm.h) e92 rfl rfl rfl w92 ⟨(lx rfl), (lx rfl), (lx rfl), (lx rfl), (lx rfl), (lx rfl), (lx rfl), (lx rfl), (lx rfl), (lx rfl), trivial⟩ r92) ?_
  refine WPl.v rfl (o_not rfl) ?_
  refine WPl.v rfl (o_move rfl) ?_
  refine WPl.ung ⟨_, _, rfl, rfl, rfl⟩ ?_
  refine WPl.v rfl (o_fldp F33_1 rfl) ?_
  refine WPl.ung ⟨_, _, rfl, rfl, rfl⟩ ?_
  refine WPl.v rfl (o_ldp S30 rfl rfl rfl) ?_
  refine WPl.ung ⟨_, _, rfl, rfl, rfl⟩ ?_
  refine WPl.v rfl (o_fldp F33_1 rfl) ?_
  refine WPl.ung ⟨_, _, rfl, rfl, rfl⟩ ?_
  refine WPl.v rfl (o_ldp S30 rfl rfl rfl) ?_
  refine WPl.ung ⟨_, _, rfl, rfl, rfl⟩ ?_
  refine WPl.cs 18 rfl rfl rfl rfl (o_sig 18 (ren [(0, 5), (1, 13)]) (c44 b.set b.set (by omega)) e44 rfl rfl rfl w44 ⟨(lx rfl), (lx rfl), trivial⟩ r44) ?_
  refine WPl.imp (Imp.bitF 17 (b' := true) rfl (samePl_refl _)) ?_
  refine WPl.on rfl ⟨_, _, rfl, rfl, rfl⟩ (o_not rfl) ?_
  refine WPl.v rfl (o_pickF rfl rfl) ?_
  refine WPl.v rfl (o_move rfl) ?_
  refine WPl.ung ⟨_, _, rfl, rfl, rfl⟩ ?_
  refine WPl.v rfl (o_fldp F33_2 rfl) ?_
  refine WPl.ung ⟨_, _, rfl, rfl, rfl⟩ ?_
  refine WPl.v rfl (o_ldp S24 rfl rfl rfl) ?_
  refine WPl.ung ⟨_, _, rfl, rfl, rfl⟩ ?_
  refine WPl.v rfl (o_fldp F33_2 rfl) ?_
  refine WPl.ung ⟨_, _, rfl, rfl, rfl⟩ ?_
  refine WPl.v rfl (o_ldp S24 rfl rfl rfl) ?_
  refine WPl.ung ⟨_, _, rfl, rfl, rfl⟩ ?_
  refine WPl.cs 18 rfl rfl rfl rfl (o_sig 18 (ren [(0, 6), (1, 14)]) (c51 b.walk b.walk (by omega)) e51 rfl rfl rfl w51 ⟨(lx rfl), (lx rfl), trivial⟩ r51) ?_
  refine WPl.imp (Imp.bitF 25 (b' := true) rfl (sameInts_refl _)) ?_
  refine WPl.on rfl ⟨_, _, rfl, rfl, rfl⟩ (o_not rfl) ?_
  refine WPl.v rfl (o_pickF rfl rfl) ?_
  refine WPl.v rfl (o_move rfl) ?_
  refine WPl.ung ⟨_, _, rfl, rfl, rfl⟩ ?_
  refine WPl.v rfl (o_fldp F33_3 rfl) ?_
  refine WPl.ung ⟨_, _, rfl, rfl, rfl⟩ ?_
  refine WPl.v rfl (o_ldp S3 rfl rfl rfl) ?_
  refine WPl.ung ⟨_, _, rfl, rfl, rfl⟩ ?_
  refine WPl.v rfl (o_fldp F33_3 rfl) ?_
  refine WPl.ung ⟨_, _, rfl, rfl, rfl⟩ ?_
  refine WPl.v rfl (o_ldp S3 rfl rfl rfl) ?_
  refine WPl.on rfl ⟨_, _, rfl, rfl, rfl⟩ (o_neq rfl rfl) ?_
  refine WPl.imp (Imp.bitF 33 (b' := false) rfl (by simp)) ?_
  refine WPl.v rfl (o_pickF rfl rfl) ?_
  refine WPl.v rfl (o_move rfl) ?_
  refine WPl.ung ⟨_, _, rfl, rfl, rfl⟩ ?_
  refine WPl.v rfl (o_fldp F33_4 rfl) ?_
  refine WPl.ung ⟨_, _, rfl, rfl, rfl⟩ ?_
  refine WPl.v rfl (o_ldp S31 rfl rfl rfl) ?_
  refine WPl.ung ⟨_, _, rfl, rfl, rfl⟩ ?_
  refine WPl.v rfl (o_lenq L31 rfl (lx rfl)) ?_
  refine WPl.ung ⟨_, _, rfl, rfl, rfl⟩ ?_
  refine WPl.v rfl (o_fldp F33_4 rfl) ?_
  refine WPl.ung ⟨_, _, rfl, rfl, rfl⟩ ?_
  refine WPl.v rfl (o_ldp S31 rfl rfl rfl) ?_
  refine WPl.ung ⟨_, _, rfl, rfl, rfl⟩ ?_
  refine WPl.v rfl (o_lenq L31 rfl (lx rfl)) ?_
  refine WPl.on rfl ⟨_, _, rfl, rfl, rfl⟩ (o_neq rfl rfl) ?_
  refine WPl.imp (Imp.bitF 42 (b' := false) rfl (by simp)) ?_
  refine WPl.v rfl (o_pickF rfl rfl) ?_
  refine WPl.nil (EX.then ?_)
  refine WP.cond rfl (fun h => by cases h) (fun _ => ?_)
  refine WP.skip (EX.then (WP.seq (WP.seq (WP.region ?_))))
  refine WPl.v rfl (o_assign rfl) ?_
  refine WPl.nil (EX.then (WP.block ?_))
  refine WP.loop (Gh := Nat) (fun i => ⟨18, [(2, .e (.a (.p 16 (0)))), (3, .e (.a (.p 17 (0)))), (4, .b (false)), (5, .i ((i : Int)))], [(0, PL ETm (b.hall.machs)), (1, PL EBd (b.hall.buns)), (2, PL EP.int (b.hall.trains)), (3, PL EP.int (b.hall.bores)), (4, PL (EP.sl EP.int) (b.hall.eds)), (5, PL EPl (b.set)), (6, PL EP.int (b.walk)), (7, PL ETa (b.tals)), (8, PL ETm (b.hall.machs)), (9, PL EBd (b.hall.buns)), (10, PL EP.int (b.hall.trains)), (11, PL EP.int (b.hall.bores)), (12, PL (EP.sl EP.int) (b.hall.eds)), (13, PL EPl (b.set)), (14, PL EP.int (b.walk)), (15, PL ETa (b.tals))], [(16, .blk [.q 0, .q 1, .q 2, ai (b.hall.change), .q 3, .q 4, .q 5, .q 6, ai (b.boys), .q 7] 33), (17, .blk [.q 8, .q 9, .q 10, ai (b.hall.change), .q 11, .q 12, .q 13, .q 14, ai (b.boys), .q 15] 33)], [], []⟩) (fun i => i ≤ b.tals.length) (fun i => b.tals.length - i) (0) id ?_ (LeR.of ⟨rfl, rfl, rfl, rfl, trivial⟩ ⟨(lx rfl), (lx rfl), (lx rfl), (lx rfl), (lx rfl), (lx rfl), (lx rfl), (lx rfl), (lx rfl), (lx rfl), (lx rfl), (lx rfl), (lx rfl), (lx rfl), (lx rfl), (lx rfl), trivial⟩ ⟨rfl, rfl, trivial⟩ rfl rfl rfl rfl rfl) ?_
  · first | trivial | omega | (constructor <;> omega) | simp
  intro i hφ
  have hi : i ≤ b.tals.length := hφ
  refine WP.seq (WP.seq (WP.region ?_))
  refine WPl.v rfl (o_move rfl) ?_
  refine WPl.v rfl (o_fldp F33_4 rfl) ?_
  refine WPl.v rfl (o_ldp S31 rfl rfl rfl) ?_
  refine WPl.v rfl (o_lenq L31 rfl (lx rfl)) ?_
  refine WPl.v rfl (o_lss rfl rfl) ?_
  refine WPl.nil (EX.then ?_)
  refine WP.cond rfl (fun hc2 => ?_) (fun hc2 => ?_)
  · try simp only [cnd] at hc2
    refine WP.skip (EX.then (WP.seq (WP.block (WP.seq ?_))))
    refine WP.draw (nf := 20) [⟨[53, 56, 57, 58, 59, 60], [19], [], [], []⟩, ⟨[53, 56, 57, 58, 59, 60], [19], [], [], [0]⟩, ⟨[51, 52, 56, 57, 58, 59, 60], [19], [], [], []⟩, ⟨[56, 57, 58, 59, 60], [19], [18], [18], [0, 1, 2]⟩, ⟨[56, 57, 58, 59, 60], [19], [], [], [0, 1, 2, 3]⟩, ⟨[51, 52, 53, 54, 55, 58], [18], [], [], []⟩, ⟨[51, 52, 53, 54, 55, 58], [18], [], [], [5]⟩, ⟨[51, 52, 53, 54, 55, 56, 57], [18], [], [], []⟩, ⟨[51, 52, 53, 54, 55], [18], [19], [19], [5, 6, 7]⟩, ⟨[51, 52, 53, 54, 55], [18], [], [], [5, 6, 7, 8]⟩, ⟨[], [], [], [], [0, 1, 2, 3, 4, 5, 6, 7, 8, 9]⟩] (by kernel_rfl) (by kernel_rfl) ?_
    refine DRQ.v rfl rfl rfl (o_fldp F33_4 rfl) ?_
    refine DRQ.v rfl rfl rfl (o_ldp S31 rfl rfl rfl) ?_
    refine DRQ.v rfl rfl rfl (o_move rfl) ?_
    refine DRQ.x 18 rfl rfl rfl rfl (o_idx L31 rfl (lx rfl) rfl (by first | omega | (simp; omega)) (by first | omega | (simp; omega))) ?_
    refine DRQ.v rfl rfl rfl (o_ldqg G58 rfl (lx rfl) (strG rfl) rfl rfl) ?_
    refine DRQ.v rfl rfl rfl (o_fldp F33_4 rfl) ?_
    refine DRQ.v rfl rfl rfl (o_ldp S31 rfl rfl rfl) ?_
    refine DRQ.v rfl rfl rfl (o_move rfl) ?_
    refine DRQ.x 19 rfl rfl rfl rfl (o_idx L31 rfl (lx rfl) rfl (by first | omega | (simp; omega)) (by first | omega | (simp; omega))) ?_
    refine DRQ.v rfl rfl rfl (o_ldqg G58 rfl (lx rfl) (strG rfl) rfl rfl) ?_
    refine DRQ.v rfl rfl rfl (o_nes (a := [(nth b.tals (i : Int)).boy, (nth b.tals (i : Int)).page, (nth b.tals (i : Int)).mach, (nth b.tals (i : Int)).min]) (b := [(nth b.tals (i : Int)).boy, (nth b.tals (i : Int)).page, (nth b.tals (i : Int)).mach, (nth b.tals (i : Int)).min]) Q58 rfl Tryz.eqGuardType58 rfl rfl rfl rfl) ?_
    refine DRQ.nil' ?_
    refine EX.then ?_
    refine WP.cond rfl (fun hc3 => ?_) (fun hc3 => ?_)
    · try simp only [cnd] at hc3
      simp at hc3
    · try simp only [cnd] at hc3
      refine WP.skip (EX.blk (EX.then (WP.region ?_)))
      refine WPl.v rfl (o_move rfl) ?_
      refine WPl.v rfl (o_add rfl rfl (by first | omega | (simp; omega)) (by first | omega | (simp; omega))) ?_
      refine WPl.v rfl (o_assign rfl) ?_
      refine WPl.nil ?_
      refine EX.again (i + 1) id (by first | omega | (constructor <;> omega)) (by omega) (LeR.of ⟨rfl, rfl, rfl, rfl, trivial⟩ ⟨(lx rfl), (lx rfl), (lx rfl), (lx rfl), (lx rfl), (lx rfl), (lx rfl), (lx rfl), (lx rfl), (lx rfl), (lx rfl), (lx rfl), (lx rfl), (lx rfl), (lx rfl), (lx rfl), trivial⟩ ⟨rfl, rfl, trivial⟩ rfl rfl rfl rfl rfl)
  · try simp only [cnd] at hc2
    refine WP.exit (EX.exit_then (EX.exit_then (EX.exit_blk (EX.then (WP.seq (WP.region ?_))))))
    refine WPl.v rfl (o_assign rfl) ?_
    refine WPl.nil (EX.then (WP.ret ?_))
    exact EX.fin id (.inl rfl) rfl (.tmp rfl .nil) rfl r23 trivial (by simp) (by simp)
theorem w147 {h : Hall} {m n : Int} : ∀ x ∈ ([.e (.g [.q 0, .q 1, .q 2, ai (h.change), .q 3, .q 4]), .i (m), .i (n)] : List SV), x.res (keys (α := Pred) [(0, PL ETm (h.machs)), (1, PL EBd (h.buns)), (2, PL EP.int (h.trains)), (3, PL EP.int (h.bores)), (4, PL (EP.sl EP.int) (h.eds))]) := by simp [SV.res, El.res, At.res, keys]
theorem r147 {h : Hall} {m n : Int} : SV.res (keys (α := Pred) [(0, PL ETm (h.machs)), (1, PL EBd (h.buns)), (2, PL EP.int (h.trains)), (3, PL EP.int ((lset h.bores m (nth h.bores n)))), (4, PL (EP.sl EP.int) (h.eds))]) (.e (.g [.q 0, .q 1, .q 2, ai (h.change), .q 3, .q 4])) := by simp [SV.res, El.res, At.res, keys]
set_option maxHeartbeats 4000000 in
theorem c147 (h : Hall) (m n : Int) (hm : h.Small) (h1 : 0 ≤ m ∧ m < h.bores.length) (h2 : 0 ≤ n ∧ n < h.bores.length) : Sig Tryz.prog 147 [.e (.g [.q 0, .q 1, .q 2, ai (h.change), .q 3, .q 4]), .i (m), .i (n)] [(0, PL ETm (h.machs)), (1, PL EBd (h.buns)), (2, PL EP.int (h.trains)), (3, PL EP.int (h.bores)), (4, PL (EP.sl EP.int) (h.eds))] (.e (.g [.q 0, .q 1, .q 2, ai (h.change), .q 3, .q 4])) [(0, PL ETm (h.machs)), (1, PL EBd (h.buns)), (2, PL EP.int (h.trains)), (3, PL EP.int ((lset h.bores m (nth h.bores n)))), (4, PL (EP.sl EP.int) (h.eds))] := by
  refine Sig.intro Tryz.func147 rfl 5 [(0, .e (.g [.q 0, .q 1, .q 2, ai (h.change), .q 3, .q 4])), (1, .i (m)), (2, .i (n))] rfl w147 rfl rfl fun I w => ?_
  refine WP.seq (WP.region ?_)
  refine WPl.l 5 6 rfl rfl rfl (o_boxg rfl) ?_
  refine WPl.l 6 7 rfl rfl rfl (o_alloc Z29) ?_
  refine WPl.nil (EX.then (WP.seq (WP.region ?_)))
  refine WPl.v rfl (o_ldpa G29 rfl rfl rfl) ?_
  refine WPl.cL 12 rfl rfl rfl rfl rfl (o_sigo 7 (ren [(0, 0), (1, 1), (2, 2), (3, 3), (4, 4)]) (c74O h hm) e74 rfl rfl SvsOK.rf w74O ⟨(lx rfl), (lx rfl), (lx rfl), (lx rfl), (lx rfl), trivial⟩ r74O rfl rfl) ?_
  refine WPl.l 12 13 rfl rfl rfl (o_alloc Z29) ?_
  refine WPl.s1 (o_stag G29 rfl rfl rfl ⟨(.inl ⟨_, (lx rfl), PL.one⟩), (.inl ⟨_, (lx rfl), PL.one⟩), (.inl ⟨_, (lx rfl), PL.one⟩), rfl, (.inr ⟨_, _, _, _, rfl⟩), (.inl ⟨_, (lx rfl), PL.one⟩), trivial⟩ rfl rfl) ?_
  refine WPl.nil (EX.then (WP.seq ?_))
  refine WP.draw (nf := 14) [⟨[12, 13, 14, 15, 16, 17], [13], [], [], []⟩, ⟨[12, 13, 14, 15, 16, 17], [13], [], [], [0]⟩, ⟨[10, 11, 13, 14, 15, 16, 17], [13], [], [], []⟩, ⟨[10, 11, 12, 15], [], [], [], []⟩, ⟨[10, 11, 12, 15], [], [], [], [3]⟩, ⟨[10, 11, 12, 13, 14], [], [], [], []⟩, ⟨[10, 11, 12], [], [13], [13], [3, 4, 5]⟩, ⟨[10, 11, 12], [], [], [], [3, 4, 5, 6]⟩, ⟨[], [], [], [], [0, 1, 2, 3, 4, 5, 6, 7]⟩, ⟨[], [], [], [10], [0, 1, 2, 3, 4, 5, 6, 7, 8]⟩] (by kernel_rfl) (by kernel_rfl) ?_
  refine DRQ.v rfl rfl rfl (o_fldp F29_1 rfl) ?_
  refine DRQ.v rfl rfl rfl (o_ldp S24 rfl rfl rfl) ?_
  refine DRQ.v rfl rfl rfl (o_move rfl) ?_
  refine DRQ.v rfl rfl rfl (o_fldp F29_1 rfl) ?_
  refine DRQ.v rfl rfl rfl (o_ldp S24 rfl rfl rfl) ?_
  refine DRQ.v rfl rfl rfl (o_move rfl) ?_
  refine DRQ.x 13 rfl rfl rfl rfl (o_idx L24 rfl (lx rfl) rfl (by first | omega | (simp; omega)) (by first | omega | (simp; omega))) ?_
  refine DRQ.v rfl rfl rfl (o_ldq S3 rfl (lx rfl) intc) ?_
  refine DRQ.v rfl rfl rfl (o_idxo L24 rfl rfl rfl (by first | omega | (simp; omega)) (by first | omega | (simp; omega))) ?_
  refine DRQ.s 10 rfl rfl rfl (o_steE2 Tryz.sizeOf3 rfl rfl rfl rfl eok_int rfl rfl rfl (by first | omega | (simp; omega)) (by first | omega | (simp; omega))) ?_
  refine DRQ.nil' ?_
  refine EX.then (WP.seq (WP.region ?_))
  refine WPl.v rfl (o_ldpa G29 rfl rfl rfl) ?_
  refine WPl.s1 (o_stag G29 rfl rfl rfl ⟨(.inl ⟨_, (lx rfl), PL.one⟩), (.inl ⟨_, (lx rfl), PL.one⟩), (.inl ⟨_, (lx rfl), PL.one⟩), rfl, (.inr ⟨_, _, _, _, rfl⟩), (.inl ⟨_, (lx rfl), PL.one⟩), trivial⟩ rfl rfl) ?_
  refine WPl.nil (EX.then (WP.ret ?_))
  refine EX.imp (Imp.frz (E := EP.int) (l := lset ([] ++ h.bores) m (nth h.bores n)) 10 rfl rfl) ?_
  exact EX.fin (ren [(0, 7), (1, 8), (2, 9), (3, 10), (4, 11)]) (.inl rfl) rfl (.cellg G29 rfl rfl rfl (.nil)) rfl r147 ⟨(lx rfl), (lx rfl), (lx rfl), (lx rfl), (lx rfl), trivial⟩ (by simp) (by simp)
theorem w126  : ∀ x ∈ ([] : List SV), x.res (keys (α := Pred) []) := by simp [SV.res, El.res, At.res, keys]
theorem r126  : SV.res (keys (α := Pred) [(0, PL ETm (exK.machs)), (1, PL EBd (exK.buns)), (2, PL EP.int (exK.trains)), (3, PL EP.int (exK.bores)), (4, PL (EP.sl EP.int) (exK.eds)), (5, PL ETm (exL.machs)), (6, PL EBd (exL.buns)), (7, PL EP.int (exL.trains)), (8, PL EP.int (exL.bores)), (9, PL (EP.sl EP.int) (exL.eds))]) (.t [.g [.q 0, .q 1, .q 2, ai (exK.change), .q 3, .q 4], .g [.q 5, .q 6, .q 7, ai (exL.change), .q 8, .q 9]]) := by simp [SV.res, El.res, At.res, keys]
set_option maxHeartbeats 4000000 in
theorem c126   : Sig Tryz.prog 126 [] [] (.t [.g [.q 0, .q 1, .q 2, ai (exK.change), .q 3, .q 4], .g [.q 5, .q 6, .q 7, ai (exL.change), .q 8, .q 9]]) [(0, PL ETm (exK.machs)), (1, PL EBd (exK.buns)), (2, PL EP.int (exK.trains)), (3, PL EP.int (exK.bores)), (4, PL (EP.sl EP.int) (exK.eds)), (5, PL ETm (exL.machs)), (6, PL EBd (exL.buns)), (7, PL EP.int (exL.trains)), (8, PL EP.int (exL.bores)), (9, PL (EP.sl EP.int) (exL.eds))] := by
  refine Sig.intro Tryz.func126 rfl 0 [] rfl w126 rfl rfl fun I w => ?_
  refine WP.seq (WP.region ?_)
  refine WPl.l 0 1 rfl rfl rfl (o_alloc Z29) ?_
  refine WPl.l 1 2 rfl rfl rfl (o_alloc Z29) ?_
  refine WPl.nil (EX.then (WP.seq (WP.region ?_)))
  refine WPl.v rfl (o_build B156 rfl ⟨rfl, rfl, trivial⟩ rfl rfl) ?_
  refine WPl.v rfl (o_build B156 rfl ⟨rfl, rfl, trivial⟩ rfl rfl) ?_
  refine WPl.x 2 3 rfl rfl rfl (OpG.settle0 (o_bsl (E := ETm) (l := [(⟨0, 2, 1⟩ : TM), (⟨0, 2, 1⟩ : TM)]) R22 rfl rfl (.cons (⟨rfl, rfl, rfl, trivial⟩) rfl (eok_str ⟨rfl, rfl, rfl, trivial⟩) (.cons (⟨rfl, rfl, rfl, trivial⟩) rfl (eok_str ⟨rfl, rfl, rfl, trivial⟩) (.nil))) rfl rfl)) ?_
  refine WPl.v rfl (o_build B95 rfl ⟨rfl, rfl, rfl, trivial⟩ rfl rfl) ?_
  refine WPl.v rfl (o_build B95 rfl ⟨rfl, rfl, rfl, trivial⟩ rfl rfl) ?_
  refine WPl.x 3 4 rfl rfl rfl (OpG.settle0 (o_bsl (E := EBd) (l := [(⟨0, 2, 0⟩ : TBd), (⟨1, 3, 1⟩ : TBd)]) R23 rfl rfl (.cons (⟨rfl, rfl, rfl, trivial⟩) rfl (eok_str ⟨rfl, rfl, rfl, trivial⟩) (.cons (⟨rfl, rfl, rfl, trivial⟩) rfl (eok_str ⟨rfl, rfl, rfl, trivial⟩) (.nil))) rfl rfl)) ?_
  refine WPl.x 4 5 rfl rfl rfl (OpG.settle0 (o_bsl (E := EP.int) (l := [5, 12]) R24 rfl rfl (.cons (rfl) rfl (eok_int) (.cons (rfl) rfl (eok_int) (.nil))) rfl rfl)) ?_
  refine WPl.v rfl (o_build B26 rfl ⟨(.inl ⟨_, (lx rfl), PL.one⟩), (.inl ⟨_, (lx rfl), PL.one⟩), (.inl ⟨_, (lx rfl), PL.one⟩), rfl, trivial⟩ rfl rfl) ?_
  refine WPl.x 5 6 rfl rfl rfl (OpG.settle0 (o_bsl (E := EP.int) (l := [0, 1]) R24 rfl rfl (.cons (rfl) rfl (eok_int) (.cons (rfl) rfl (eok_int) (.nil))) rfl rfl)) ?_
  refine WPl.x 6 7 rfl rfl rfl (OpG.settle0 (o_bsl (E := EP.int) (l := [0, 1]) R24 rfl rfl (.cons (rfl) rfl (eok_int) (.cons (rfl) rfl (eok_int) (.nil))) rfl rfl)) ?_
  refine WPl.x 7 8 rfl rfl rfl (OpG.settle0 (o_bsl (E := EP.int) (l := [0, 2]) R24 rfl rfl (.cons (rfl) rfl (eok_int) (.cons (rfl) rfl (eok_int) (.nil))) rfl rfl)) ?_
  refine WPl.x 8 9 rfl rfl rfl (OpG.settle0 (o_bsl (E := (EP.sl EP.int)) (l := [[0, 1], [0, 2]]) R27 rfl rfl (.cons ((.inl ⟨_, (lx rfl), PL.one⟩)) rfl (eok_sl (lx rfl)) (.cons ((.inl ⟨_, (lx rfl), PL.one⟩)) rfl (eok_sl (lx rfl)) (.nil))) rfl rfl)) ?_
  refine WPl.v rfl (o_build B29 rfl ⟨(.inl ⟨_, (lx rfl), PL.one⟩), (.inl ⟨_, (lx rfl), PL.one⟩), trivial⟩ rfl rfl) ?_
  refine WPl.s1 (o_stag G29 rfl rfl rfl ⟨(.inl ⟨_, (lx rfl), PL.one⟩), (.inl ⟨_, (lx rfl), PL.one⟩), (.inl ⟨_, (lx rfl), PL.one⟩), rfl, (.inl ⟨_, (lx rfl), PL.one⟩), (.inl ⟨_, (lx rfl), PL.one⟩), trivial⟩ rfl rfl) ?_
  refine WPl.nil (EX.then (WP.seq ?_))
  refine WP.draw (nf := 14) [⟨[16, 17], [9, 10, 11, 12, 13], [], [], []⟩, ⟨[15], [], [], [], []⟩, ⟨[15], [], [9, 10, 11, 12, 13], [9, 10, 11, 12, 13], [1]⟩, ⟨[], [], [], [0], [0, 1, 2]⟩, ⟨[], [], [], [1], [0, 1, 2, 3]⟩] (by kernel_rfl) (by kernel_rfl) ?_
  refine DRQ.v rfl rfl rfl (o_ldpa G29 rfl rfl rfl) ?_
  refine DRQ.v rfl rfl rfl (o_ldpa G29 rfl rfl rfl) ?_
  refine DRQ.cs rfl rfl rfl rfl (o_sig 9 (ren [(0, 2), (1, 3), (2, 4), (3, 5), (4, 8)]) (c147 exK 1 0 exK_small (by decide) (by decide)) e147 rfl rfl rfl w147 ⟨(lx rfl), (lx rfl), (lx rfl), (lx rfl), (lx rfl), trivial⟩ r147) ?_
  refine DRQ.s 0 rfl rfl rfl (o_stag G29 rfl rfl rfl ⟨(.inl ⟨_, (lx rfl), PL.one⟩), (.inl ⟨_, (lx rfl), PL.one⟩), (.inl ⟨_, (lx rfl), PL.one⟩), rfl, (.inl ⟨_, (lx rfl), PL.one⟩), (.inl ⟨_, (lx rfl), PL.one⟩), trivial⟩ rfl rfl) ?_
  refine DRQ.s 1 rfl rfl rfl (o_stag G29 rfl rfl rfl ⟨(.inl ⟨_, (lx rfl), PL.one⟩), (.inl ⟨_, (lx rfl), PL.one⟩), (.inl ⟨_, (lx rfl), PL.one⟩), rfl, (.inl ⟨_, (lx rfl), PL.one⟩), (.inl ⟨_, (lx rfl), PL.one⟩), trivial⟩ rfl rfl) ?_
  refine DRQ.nil' ?_
  refine EX.then (WP.ret ?_)
  exact EX.fin (ren [(0, 2), (1, 3), (2, 4), (3, 5), (4, 8), (5, 9), (6, 10), (7, 11), (8, 12), (9, 13)]) (.inl rfl) rfl (.cellg G29 rfl rfl rfl (.cellg G29 rfl rfl rfl (.nil))) rfl r126 ⟨(lx rfl), (lx rfl), (lx rfl), (lx rfl), (lx rfl), (lx rfl), (lx rfl), (lx rfl), (lx rfl), (lx rfl), trivial⟩ (by simp) (by simp)
theorem w76  : ∀ x ∈ ([] : List SV), x.res (keys (α := Pred) []) := by simp [SV.res, El.res, At.res, keys]
theorem r76  : SV.res (keys (α := Pred) [(0, PL ETm (exB.hall.machs)), (1, PL EBd (exB.hall.buns)), (2, PL EP.int (exB.hall.trains)), (3, PL EP.int (exB.hall.bores)), (4, PL (EP.sl EP.int) (exB.hall.eds)), (5, PL EPl (exB.set)), (6, PL EP.int (exB.walk)), (7, PL ETa (exB.tals)), (8, PL ETm (exC.hall.machs)), (9, PL EBd (exC.hall.buns)), (10, PL EP.int (exC.hall.trains)), (11, PL EP.int (exC.hall.bores)), (12, PL (EP.sl EP.int) (exC.hall.eds)), (13, PL EPl (exC.set)), (14, PL EP.int (exC.walk)), (15, PL ETa (exC.tals))]) (.t [.g [.q 0, .q 1, .q 2, ai (exB.hall.change), .q 3, .q 4, .q 5, .q 6, ai (exB.boys), .q 7], .g [.q 8, .q 9, .q 10, ai (exC.hall.change), .q 11, .q 12, .q 13, .q 14, ai (exC.boys), .q 15]]) := by simp [SV.res, El.res, At.res, keys]
set_option maxHeartbeats 4000000 in
theorem c76   : Sig Tryz.prog 76 [] [] (.t [.g [.q 0, .q 1, .q 2, ai (exB.hall.change), .q 3, .q 4, .q 5, .q 6, ai (exB.boys), .q 7], .g [.q 8, .q 9, .q 10, ai (exC.hall.change), .q 11, .q 12, .q 13, .q 14, ai (exC.boys), .q 15]]) [(0, PL ETm (exB.hall.machs)), (1, PL EBd (exB.hall.buns)), (2, PL EP.int (exB.hall.trains)), (3, PL EP.int (exB.hall.bores)), (4, PL (EP.sl EP.int) (exB.hall.eds)), (5, PL EPl (exB.set)), (6, PL EP.int (exB.walk)), (7, PL ETa (exB.tals)), (8, PL ETm (exC.hall.machs)), (9, PL EBd (exC.hall.buns)), (10, PL EP.int (exC.hall.trains)), (11, PL EP.int (exC.hall.bores)), (12, PL (EP.sl EP.int) (exC.hall.eds)), (13, PL EPl (exC.set)), (14, PL EP.int (exC.walk)), (15, PL ETa (exC.tals))] := by
  refine Sig.intro Tryz.func76 rfl 0 [] rfl w76 rfl rfl fun I w => ?_
  refine WP.seq (WP.region ?_)
  refine WPl.l 0 1 rfl rfl rfl (o_alloc Z33) ?_
  refine WPl.l 1 2 rfl rfl rfl (o_alloc Z33) ?_
  refine WPl.nil (EX.then (WP.seq (WP.region ?_)))
  refine WPl.cs 12 rfl rfl rfl rfl (o_sig 2 id c126 e126 rfl rfl rfl w126 trivial r126) ?_
  refine WPl.v rfl (o_move rfl) ?_
  refine WPl.v rfl (o_extract rfl rfl) ?_
  refine WPl.v rfl (o_extract rfl rfl) ?_
  refine WPl.l 12 13 rfl rfl rfl (o_alloc Z29) ?_
  refine WPl.l 13 14 rfl rfl rfl (o_alloc Z29) ?_
  refine WPl.s1 (o_stag G29 rfl rfl rfl ⟨(.inl ⟨_, (lx rfl), PL.one⟩), (.inl ⟨_, (lx rfl), PL.one⟩), (.inl ⟨_, (lx rfl), PL.one⟩), rfl, (.inl ⟨_, (lx rfl), PL.one⟩), (.inl ⟨_, (lx rfl), PL.one⟩), trivial⟩ rfl rfl) ?_
  refine WPl.s1 (o_stag G29 rfl rfl rfl ⟨(.inl ⟨_, (lx rfl), PL.one⟩), (.inl ⟨_, (lx rfl), PL.one⟩), (.inl ⟨_, (lx rfl), PL.one⟩), rfl, (.inl ⟨_, (lx rfl), PL.one⟩), (.inl ⟨_, (lx rfl), PL.one⟩), trivial⟩ rfl rfl) ?_
  refine WPl.nil (EX.then (WP.seq (WP.region ?_)))
  refine WPl.v rfl (o_ldpa G29 rfl rfl rfl) ?_
  refine WPl.v rfl (o_build B77 rfl ⟨rfl, rfl, rfl, trivial⟩ rfl rfl) ?_
  refine WPl.v rfl (o_build B77 rfl ⟨rfl, rfl, rfl, trivial⟩ rfl rfl) ?_
  refine WPl.v rfl (o_build B77 rfl ⟨rfl, rfl, rfl, trivial⟩ rfl rfl) ?_
  refine WPl.v rfl (o_build B77 rfl ⟨rfl, rfl, rfl, trivial⟩ rfl rfl) ?_
  refine WPl.x 14 15 rfl rfl rfl (OpG.settle0 (o_bsl (E := EPl) (l := [(⟨0, 0, 1⟩ : Plate), (⟨0, 1, 1⟩ : Plate), (⟨1, 0, 1⟩ : Plate), (⟨2, 1, 1⟩ : Plate)]) R30 rfl rfl (.cons (⟨rfl, rfl, rfl, trivial⟩) rfl (eok_str ⟨rfl, rfl, rfl, trivial⟩) (.cons (⟨rfl, rfl, rfl, trivial⟩) rfl (eok_str ⟨rfl, rfl, rfl, trivial⟩) (.cons (⟨rfl, rfl, rfl, trivial⟩) rfl (eok_str ⟨rfl, rfl, rfl, trivial⟩) (.cons (⟨rfl, rfl, rfl, trivial⟩) rfl (eok_str ⟨rfl, rfl, rfl, trivial⟩) (.nil))))) rfl rfl)) ?_
  refine WPl.x 15 16 rfl rfl rfl (OpG.settle0 (o_bsl (E := EP.int) (l := [3, 5]) R24 rfl rfl (.cons (rfl) rfl (eok_int) (.cons (rfl) rfl (eok_int) (.nil))) rfl rfl)) ?_
  refine WPl.v rfl (o_build B58 rfl ⟨rfl, trivial⟩ rfl rfl) ?_
  refine WPl.v rfl (o_build B58 rfl ⟨rfl, rfl, trivial⟩ rfl rfl) ?_
  refine WPl.v rfl (o_build B58 rfl ⟨rfl, rfl, rfl, trivial⟩ rfl rfl) ?_
  refine WPl.v rfl (o_build B58 rfl ⟨rfl, rfl, rfl, rfl, trivial⟩ rfl rfl) ?_
  refine WPl.v rfl (o_build B58 rfl ⟨rfl, trivial⟩ rfl rfl) ?_
  refine WPl.x 16 17 rfl rfl rfl (OpG.settle0 (o_bsl (E := ETa) (l := [(⟨0, 0, 0, 4⟩ : Tal), (⟨0, 1, 0, 8⟩ : Tal), (⟨1, 0, 1, 6⟩ : Tal), (⟨1, 2, 1, 16⟩ : Tal), (⟨0, 0, 0, 20⟩ : Tal)]) R31 rfl rfl (.cons (⟨rfl, rfl, rfl, rfl, trivial⟩) rfl (eok_str ⟨rfl, rfl, rfl, rfl, trivial⟩) (.cons (⟨rfl, rfl, rfl, rfl, trivial⟩) rfl (eok_str ⟨rfl, rfl, rfl, rfl, trivial⟩) (.cons (⟨rfl, rfl, rfl, rfl, trivial⟩) rfl (eok_str ⟨rfl, rfl, rfl, rfl, trivial⟩) (.cons (⟨rfl, rfl, rfl, rfl, trivial⟩) rfl (eok_str ⟨rfl, rfl, rfl, rfl, trivial⟩) (.cons (⟨rfl, rfl, rfl, rfl, trivial⟩) rfl (eok_str ⟨rfl, rfl, rfl, rfl, trivial⟩) (.nil)))))) rfl rfl)) ?_
  refine WPl.v rfl (o_build B33 rfl ⟨(.inl ⟨_, (lx rfl), PL.one⟩), (.inl ⟨_, (lx rfl), PL.one⟩), rfl, (.inl ⟨_, (lx rfl), PL.one⟩), trivial⟩ rfl rfl) ?_
  refine WPl.s1 (o_stag G33 rfl rfl rfl ⟨(.inl ⟨_, (lx rfl), PL.one⟩), (.inl ⟨_, (lx rfl), PL.one⟩), (.inl ⟨_, (lx rfl), PL.one⟩), rfl, (.inl ⟨_, (lx rfl), PL.one⟩), (.inl ⟨_, (lx rfl), PL.one⟩), (.inl ⟨_, (lx rfl), PL.one⟩), (.inl ⟨_, (lx rfl), PL.one⟩), rfl, (.inl ⟨_, (lx rfl), PL.one⟩), trivial⟩ rfl rfl) ?_
  refine WPl.nil (EX.then (WP.seq (WP.region ?_)))
  refine WPl.v rfl (o_ldpa G33 rfl rfl rfl) ?_
  refine WPl.cs 25 rfl rfl rfl rfl (o_sig 17 (ren [(0, 2), (1, 3), (2, 4), (3, 5), (4, 6), (5, 14), (6, 15), (7, 16)]) (c20 exB exB_small) e20 rfl rfl rfl w20 ⟨(lx rfl), (lx rfl), (lx rfl), (lx rfl), (lx rfl), (lx rfl), (lx rfl), (lx rfl), trivial⟩ r20) ?_
  refine WPl.s1 (o_stag G33 rfl rfl rfl ⟨(.inl ⟨_, (lx rfl), PL.one⟩), (.inl ⟨_, (lx rfl), PL.one⟩), (.inl ⟨_, (lx rfl), PL.one⟩), rfl, (.inl ⟨_, (lx rfl), PL.one⟩), (.inl ⟨_, (lx rfl), PL.one⟩), (.inl ⟨_, (lx rfl), PL.one⟩), (.inl ⟨_, (lx rfl), PL.one⟩), rfl, (.inl ⟨_, (lx rfl), PL.one⟩), trivial⟩ rfl rfl) ?_
  refine WPl.nil (EX.then (WP.seq (WP.region ?_)))
  refine WPl.v rfl (o_fldp F33_4 rfl) ?_
  refine WPl.v rfl (o_ldp S31 rfl rfl rfl) ?_
  refine WPl.x 25 26 rfl rfl rfl (o_slice (a := 0) (b := 4) L31 rfl (lx rfl) rfl rfl (by decide) (by decide) (by decide)) ?_
  refine WPl.v rfl (o_fldp F33_4 rfl) ?_
  refine WPl.s1 (o_sta S31 rfl rfl rfl (.inl ⟨_, (lx rfl), PL.one⟩) rfl) ?_
  refine WPl.nil (EX.then (WP.seq ?_))
  refine WP.draw (nf := 26) [⟨[29], [], [], [], []⟩, ⟨[28], [0], [], [], []⟩, ⟨[29], [], [], [0], [0]⟩, ⟨[], [], [], [1], [0, 1, 2]⟩] (by kernel_rfl) (by kernel_rfl) ?_
  refine DRQ.v rfl rfl rfl (o_ldpa G33 rfl rfl rfl) ?_
  refine DRQ.v rfl rfl rfl (o_ldpa G33 rfl rfl rfl) ?_
  refine DRQ.s 0 rfl rfl rfl (o_stag G33 rfl rfl rfl ⟨(.inl ⟨_, (lx rfl), PL.one⟩), (.inl ⟨_, (lx rfl), PL.one⟩), (.inl ⟨_, (lx rfl), PL.one⟩), rfl, (.inl ⟨_, (lx rfl), PL.one⟩), (.inl ⟨_, (lx rfl), PL.one⟩), (.inl ⟨_, (lx rfl), PL.one⟩), (.inl ⟨_, (lx rfl), PL.one⟩), rfl, (.inl ⟨_, (lx rfl), PL.one⟩), trivial⟩ rfl rfl) ?_
  refine DRQ.s 1 rfl rfl rfl (o_stag G33 rfl rfl rfl ⟨(.inl ⟨_, (lx rfl), PL.one⟩), (.inl ⟨_, (lx rfl), PL.one⟩), (.inl ⟨_, (lx rfl), PL.one⟩), rfl, (.inl ⟨_, (lx rfl), PL.one⟩), (.inl ⟨_, (lx rfl), PL.one⟩), (.inl ⟨_, (lx rfl), PL.one⟩), (.inl ⟨_, (lx rfl), PL.one⟩), rfl, (.inl ⟨_, (lx rfl), PL.one⟩), trivial⟩ rfl rfl) ?_
  refine DRQ.nil' ?_
  refine EX.then (WP.ret ?_)
  exact EX.fin (ren [(0, 2), (1, 3), (2, 4), (3, 5), (4, 6), (5, 14), (6, 15), (7, 16), (8, 17), (9, 18), (10, 19), (11, 20), (12, 21), (13, 22), (14, 23), (15, 25)]) (.inl rfl) rfl (.cellg G33 rfl rfl rfl (.cellg G33 rfl rfl rfl (.nil))) rfl r76 ⟨(lx rfl), (lx rfl), (lx rfl), (lx rfl), (lx rfl), (lx rfl), (lx rfl), (lx rfl), (lx rfl), (lx rfl), (lx rfl), (lx rfl), (lx rfl), (lx rfl), (lx rfl), (lx rfl), trivial⟩ (by simp) (by simp)
theorem w19  : ∀ x ∈ ([] : List SV), x.res (keys (α := Pred) [(0, (Pred.tab 1 tz64))]) := by simp [SV.res, El.res, At.res, keys]
theorem r19  : SV.res (keys (α := Pred) []) (.b (true)) := by simp [SV.res, El.res, At.res, keys]
set_option maxHeartbeats 4000000 in
set_option maxRecDepth 10000 in
theorem c19   : Sig Tryz.prog 19 [] [(0, (Pred.tab 1 tz64))] (.b (true)) [] := by
  refine Sig.intro Tryz.func19 rfl 1 [] rfl w19 rfl rfl fun I w => ?_
  refine WP.seq (WP.region ?_)
  refine WPl.v rfl (o_assign rfl) ?_
  refine WPl.nil (EX.then (WP.seq (WP.region ?_)))
  refine WPl.cs 17 rfl rfl rfl rfl (o_sig 1 id c76 e76 rfl rfl rfl w76 trivial r76) ?_
  refine WPl.v rfl (o_move rfl) ?_
  refine WPl.v rfl (o_extract rfl rfl) ?_
  refine WPl.v rfl (o_extract rfl rfl) ?_
  refine WPl.l 17 18 rfl rfl rfl (o_alloc Z33) ?_
  refine WPl.l 18 19 rfl rfl rfl (o_alloc Z33) ?_
  refine WPl.s1 (o_stag G33 rfl rfl rfl ⟨(.inl ⟨_, (lx rfl), PL.one⟩), (.inl ⟨_, (lx rfl), PL.one⟩), (.inl ⟨_, (lx rfl), PL.one⟩), rfl, (.inl ⟨_, (lx rfl), PL.one⟩), (.inl ⟨_, (lx rfl), PL.one⟩), (.inl ⟨_, (lx rfl), PL.one⟩), (.inl ⟨_, (lx rfl), PL.one⟩), rfl, (.inl ⟨_, (lx rfl), PL.one⟩), trivial⟩ rfl rfl) ?_
  refine WPl.s1 (o_stag G33 rfl rfl rfl ⟨(.inl ⟨_, (lx rfl), PL.one⟩), (.inl ⟨_, (lx rfl), PL.one⟩), (.inl ⟨_, (lx rfl), PL.one⟩), rfl, (.inl ⟨_, (lx rfl), PL.one⟩), (.inl ⟨_, (lx rfl), PL.one⟩), (.inl ⟨_, (lx rfl), PL.one⟩), (.inl ⟨_, (lx rfl), PL.one⟩), rfl, (.inl ⟨_, (lx rfl), PL.one⟩), trivial⟩ rfl rfl) ?_
  refine WPl.nil (EX.then (WP.seq (WP.region ?_)))
  refine WPl.v rfl (o_ldpa G33 rfl rfl rfl) ?_
  refine WPl.cs 19 rfl rfl rfl rfl (o_sig 19 (ren [(0, 1), (1, 2), (2, 3), (3, 4), (4, 5), (5, 6), (6, 7), (7, 8)]) (c47 exB 0 4 exB_small) e47 rfl rfl rfl w47 ⟨(lx rfl), (lx rfl), (lx rfl), (lx rfl), (lx rfl), (lx rfl), (lx rfl), (lx rfl), trivial⟩ r47) ?_
  refine WPl.v rfl (o_move rfl) ?_
  refine WPl.v rfl (o_extract rfl rfl) ?_
  refine WPl.v rfl (o_extract rfl rfl) ?_
  refine WPl.v rfl (o_assign rfl) ?_
  refine WPl.v rfl (o_assign rfl) ?_
  refine WPl.nil (EX.then (WP.seq (WP.region ?_)))
  refine WPl.v rfl (o_ldpa G33 rfl rfl rfl) ?_
  refine WPl.cs 19 rfl rfl rfl rfl (o_sig 19 (ren [(0, 9), (1, 10), (2, 11), (3, 12), (4, 13), (5, 14), (6, 15), (7, 16), (8, 0)]) (c60 exC exC_small) e60 rfl rfl rfl w60 ⟨(lx rfl), (lx rfl), (lx rfl), (lx rfl), (lx rfl), (lx rfl), (lx rfl), (lx rfl), (lx rfl), trivial⟩ r60) ?_
  refine WPl.v rfl (o_move rfl) ?_
  refine WPl.v rfl (o_extract rfl rfl) ?_
  refine WPl.v rfl (o_extract rfl rfl) ?_
  refine WPl.v rfl (o_assign rfl) ?_
  refine WPl.v rfl (o_assign rfl) ?_
  refine WPl.nil (EX.then (WP.seq (WP.region ?_)))
  refine WPl.v rfl (o_ldpa G33 rfl rfl rfl) ?_
  refine WPl.cs 19 rfl rfl rfl rfl (o_sig 19 (ren [(0, 9), (1, 10), (2, 11), (3, 12), (4, 13), (5, 14), (6, 15), (7, 16), (8, 0)]) (c38 exC 0 exC_small) e38 rfl rfl rfl w38 ⟨(lx rfl), (lx rfl), (lx rfl), (lx rfl), (lx rfl), (lx rfl), (lx rfl), (lx rfl), (lx rfl), trivial⟩ r38) ?_
  refine WPl.v rfl (o_move rfl) ?_
  refine WPl.v rfl (o_extract rfl rfl) ?_
  refine WPl.v rfl (o_extract rfl rfl) ?_
  refine WPl.v rfl (o_assign rfl) ?_
  refine WPl.v rfl (o_assign rfl) ?_
  refine WPl.nil (EX.then (WP.seq (WP.region ?_)))
  refine WPl.v rfl (o_ldpa G33 rfl rfl rfl) ?_
  refine WPl.cs 20 rfl rfl rfl rfl (o_sig 19 (ren [(0, 9), (1, 10), (2, 11), (3, 12), (4, 13), (5, 14), (6, 15), (7, 16), (8, 0)]) (c30 exC exC_small) e30 rfl rfl rfl w30 ⟨(lx rfl), (lx rfl), (lx rfl), (lx rfl), (lx rfl), (lx rfl), (lx rfl), (lx rfl), (lx rfl), trivial⟩ r30) ?_
  refine WPl.v rfl (o_move rfl) ?_
  refine WPl.v rfl (o_extract rfl rfl) ?_
  refine WPl.v rfl (o_extract rfl rfl) ?_
  refine WPl.v rfl (o_assign rfl) ?_
  refine WPl.v rfl (o_assign rfl) ?_
  refine WPl.nil (EX.then (WP.seq (WP.region ?_)))
  refine WPl.v rfl (o_ldpa G33 rfl rfl rfl) ?_
  refine WPl.cs 20 rfl rfl rfl rfl (o_sig 20 (ren [(0, 9), (1, 10), (2, 11), (3, 12), (4, 13), (5, 14), (6, 15), (7, 16), (8, 0)]) (c37 exC 0 exC_small) e37 rfl rfl rfl w37 ⟨(lx rfl), (lx rfl), (lx rfl), (lx rfl), (lx rfl), (lx rfl), (lx rfl), (lx rfl), (lx rfl), trivial⟩ r37) ?_
  refine WPl.v rfl (o_move rfl) ?_
  refine WPl.v rfl (o_extract rfl rfl) ?_
  refine WPl.v rfl (o_extract rfl rfl) ?_
  refine WPl.l 20 21 rfl rfl rfl (o_alloc Z60) ?_
  refine WPl.s1 (o_stag G60 rfl rfl rfl ⟨rfl, rfl, trivial⟩ rfl rfl) ?_
  refine WPl.v rfl (o_assign rfl) ?_
  refine WPl.nil (EX.then (WP.seq (WP.region ?_)))
  refine WPl.v rfl (o_ldpa G33 rfl rfl rfl) ?_
  refine WPl.cs 21 rfl rfl rfl rfl (o_sig 21 (ren [(0, 1), (1, 2), (2, 3), (3, 4), (4, 5), (5, 6), (6, 7), (7, 8), (8, 0)]) (c21 exB 1 1 16 exB_small) e21 rfl rfl rfl w21 ⟨(lx rfl), (lx rfl), (lx rfl), (lx rfl), (lx rfl), (lx rfl), (lx rfl), (lx rfl), (lx rfl), trivial⟩ r21) ?_
  refine WPl.v rfl (o_move rfl) ?_
  refine WPl.v rfl (o_extract rfl rfl) ?_
  refine WPl.v rfl (o_extract rfl rfl) ?_
  refine WPl.v rfl (o_assign rfl) ?_
  refine WPl.v rfl (o_assign rfl) ?_
  refine WPl.nil (EX.then (WP.seq (WP.region ?_)))
  refine WPl.v rfl (o_move rfl) ?_
  refine WPl.v rfl (o_eql rfl rfl) ?_
  refine WPl.imp (Imp.bitF 50 (b' := true) rfl (decide_eq_true xt_c.2)) ?_
  refine WPl.v rfl (o_move rfl) ?_
  refine WPl.on rfl ⟨_, _, rfl, rfl, rfl⟩ (o_move rfl) ?_
  refine WPl.on rfl ⟨_, _, rfl, rfl, rfl⟩ (o_eql rfl rfl) ?_
  refine WPl.imp (Imp.bitF 53 (b' := true) rfl (decide_eq_true xt_s.2)) ?_
  refine WPl.v rfl (o_pickT rfl rfl) ?_
  refine WPl.v rfl (o_move rfl) ?_
  refine WPl.on rfl ⟨_, _, rfl, rfl, rfl⟩ (o_move rfl) ?_
  refine WPl.on rfl ⟨_, _, rfl, rfl, rfl⟩ (o_eql rfl rfl) ?_
  refine WPl.imp (Imp.bitF 57 (b' := true) rfl (decide_eq_true xt_l.2)) ?_
  refine WPl.v rfl (o_pickT rfl rfl) ?_
  refine WPl.v rfl (o_move rfl) ?_
  refine WPl.on rfl ⟨_, _, rfl, rfl, rfl⟩ (o_move rfl) ?_
  refine WPl.on rfl ⟨_, _, rfl, rfl, rfl⟩ (o_eql rfl rfl) ?_
  refine WPl.imp (Imp.bitF 61 (b' := true) rfl (decide_eq_true xt_s.2)) ?_
  refine WPl.v rfl (o_pickT rfl rfl) ?_
  refine WPl.v rfl (o_move rfl) ?_
  refine WPl.on rfl ⟨_, _, rfl, rfl, rfl⟩ (o_move rfl) ?_
  refine WPl.on rfl ⟨_, _, rfl, rfl, rfl⟩ (o_eql rfl rfl) ?_
  refine WPl.imp (Imp.bitF 65 (b' := true) rfl (decide_eq_true xt_p.2)) ?_
  refine WPl.v rfl (o_pickT rfl rfl) ?_
  refine WPl.v rfl (o_move rfl) ?_
  refine WPl.on rfl ⟨_, _, rfl, rfl, rfl⟩ (o_move rfl) ?_
  refine WPl.on rfl ⟨_, _, rfl, rfl, rfl⟩ (o_eql rfl rfl) ?_
  refine WPl.imp (Imp.bitF 69 (b' := true) rfl (decide_eq_true xt_r.2)) ?_
  refine WPl.v rfl (o_pickT rfl rfl) ?_
  refine WPl.v rfl (o_move rfl) ?_
  refine WPl.on rfl ⟨_, _, rfl, rfl, rfl⟩ (o_move rfl) ?_
  refine WPl.on rfl ⟨_, _, rfl, rfl, rfl⟩ (o_eql rfl rfl) ?_
  refine WPl.imp (Imp.bitF 73 (b' := true) rfl (decide_eq_true xt_c.1)) ?_
  refine WPl.v rfl (o_pickT rfl rfl) ?_
  refine WPl.v rfl (o_move rfl) ?_
  refine WPl.on rfl ⟨_, _, rfl, rfl, rfl⟩ (o_move rfl) ?_
  refine WPl.on rfl ⟨_, _, rfl, rfl, rfl⟩ (o_eql rfl rfl) ?_
  refine WPl.imp (Imp.bitF 77 (b' := true) rfl (decide_eq_true xt_s.1)) ?_
  refine WPl.v rfl (o_pickT rfl rfl) ?_
  refine WPl.v rfl (o_move rfl) ?_
  refine WPl.on rfl ⟨_, _, rfl, rfl, rfl⟩ (o_move rfl) ?_
  refine WPl.on rfl ⟨_, _, rfl, rfl, rfl⟩ (o_eql rfl rfl) ?_
  refine WPl.imp (Imp.bitF 81 (b' := true) rfl (decide_eq_true xt_l.1)) ?_
  refine WPl.v rfl (o_pickT rfl rfl) ?_
  refine WPl.v rfl (o_move rfl) ?_
  refine WPl.on rfl ⟨_, _, rfl, rfl, rfl⟩ (o_move rfl) ?_
  refine WPl.ung ⟨_, _, rfl, rfl, rfl⟩ ?_
  refine WPl.v rfl (o_build B77 rfl ⟨rfl, trivial⟩ rfl rfl) ?_
  refine WPl.ung ⟨_, _, rfl, rfl, rfl⟩ ?_
  refine WPl.x 21 22 rfl rfl rfl (OpG.settle0 (o_bsl (E := EPl) (l := [(⟨0, 0, 1⟩ : Plate)]) R30 rfl rfl (.cons (⟨rfl, rfl, rfl, trivial⟩) rfl (eok_str ⟨rfl, rfl, rfl, trivial⟩) (.nil)) rfl rfl)) ?_
  refine WPl.ung ⟨_, _, rfl, rfl, rfl⟩ ?_
  refine WPl.cs 22 rfl rfl rfl rfl (o_sig 22 (ren [(0, 19), (1, 21)]) (c44 (lfV exC) [(⟨0, 0, 1⟩ : Plate)] (by rw [xt_f1]; decide)) e44 rfl rfl rfl w44 ⟨(lx rfl), (lx rfl), trivial⟩ r44) ?_
  refine WPl.imp (Imp.bitF 87 (b' := true) rfl (by rw [xt_f1]; exact samePl_refl _)) ?_
  refine WPl.v rfl (o_pickT rfl rfl) ?_
  refine WPl.v rfl (o_move rfl) ?_
  refine WPl.ung ⟨_, _, rfl, rfl, rfl⟩ ?_
  refine WPl.v rfl (o_ldpa G60 rfl rfl rfl) ?_
  refine WPl.ung ⟨_, _, rfl, rfl, rfl⟩ ?_
  refine WPl.v rfl (o_build B60 rfl ⟨rfl, rfl, trivial⟩ rfl rfl) ?_
  refine WPl.on rfl ⟨_, _, rfl, rfl, rfl⟩ (o_eqs (a := [(plV exC 0).1, (plV exC 0).2]) (b := [1, 2]) Q60 rfl Tryz.eqGuardType60 rfl rfl rfl rfl) ?_
  refine WPl.imp (Imp.bitF 92 (b' := true) rfl (by rw [xt_p.1]; rfl)) ?_
  refine WPl.v rfl (o_pickT rfl rfl) ?_
  refine WPl.v rfl (o_move rfl) ?_
  refine WPl.on rfl ⟨_, _, rfl, rfl, rfl⟩ (o_move rfl) ?_
  refine WPl.on rfl ⟨_, _, rfl, rfl, rfl⟩ (o_eql rfl rfl) ?_
  refine WPl.imp (Imp.bitF 96 (b' := true) rfl (decide_eq_true xt_r.1)) ?_
  refine WPl.v rfl (o_pickT rfl rfl) ?_
  refine WPl.v rfl (o_assign rfl) ?_
  refine WPl.nil (EX.then (WP.ret ?_))
  exact EX.fin id (.inl rfl) rfl (.tmp rfl .nil) rfl r19 trivial (by simp) (by simp)
end Go.Flong
namespace Go.Flong
open Go Go.Eng Go.Proofs
theorem e18 : Enters' Tryz.prog 18 := Tryz.call18
theorem e19 : Enters' Tryz.prog 19 := Tryz.call19
theorem e39 : Enters' Tryz.prog 39 := Tryz.call39
theorem e40 : Enters' Tryz.prog 40 := Tryz.call40
theorem e41 : Enters' Tryz.prog 41 := Tryz.call41
theorem e42 : Enters' Tryz.prog 42 := Tryz.call42
theorem e43 : Enters' Tryz.prog 43 := Tryz.call43
theorem e23 : Enters' Tryz.prog 23 := Tryz.call23
theorem w6 {b : Book} {n : Int} : ∀ x ∈ ([.e (.g [.q 0, .q 1, .q 2, ai (b.hall.change), .q 3, .q 4, .q 5, .q 6, ai (b.boys), .q 7]), .i (n)] : List SV), x.res (keys (α := Pred) [(0, PL ETm (b.hall.machs)), (1, PL EBd (b.hall.buns)), (2, PL EP.int (b.hall.trains)), (3, PL EP.int (b.hall.bores)), (4, PL (EP.sl EP.int) (b.hall.eds)), (5, PL EPl (b.set)), (6, PL EP.int (b.walk)), (7, PL ETa (b.tals)), (8, (Pred.tab 1 tz64))]) := by simp [SV.res, El.res, At.res, keys]
theorem r6  : SV.res (keys (α := Pred) []) (.b (true)) := by simp [SV.res, El.res, At.res, keys]
set_option maxHeartbeats 4000000 in
set_option maxRecDepth 10000 in
theorem c6 (b : Book) (n : Int)  : Sig Tryz.prog 6 [.e (.g [.q 0, .q 1, .q 2, ai (b.hall.change), .q 3, .q 4, .q 5, .q 6, ai (b.boys), .q 7]), .i (n)] [(0, PL ETm (b.hall.machs)), (1, PL EBd (b.hall.buns)), (2, PL EP.int (b.hall.trains)), (3, PL EP.int (b.hall.bores)), (4, PL (EP.sl EP.int) (b.hall.eds)), (5, PL EPl (b.set)), (6, PL EP.int (b.walk)), (7, PL ETa (b.tals)), (8, (Pred.tab 1 tz64))] (.b (true)) [] := by
  refine Sig.intro Tryz.func6 rfl 9 [(0, .e (.g [.q 0, .q 1, .q 2, ai (b.hall.change), .q 3, .q 4, .q 5, .q 6, ai (b.boys), .q 7])), (1, .i (n))] rfl w6 rfl rfl fun I w => ?_
  refine WP.seq (WP.region ?_)
  refine WPl.l 9 10 rfl rfl rfl (o_boxg rfl) ?_
  refine WPl.v rfl (o_assign rfl) ?_
  refine WPl.nil (EX.then (WP.seq (WP.seq (WP.region ?_))))
  refine WPl.v rfl (o_ldpa G33 rfl rfl rfl) ?_
  refine WPl.cs 10 rfl rfl rfl rfl (o_sig 10 (ren [(0, 0), (1, 1), (2, 2), (3, 3), (4, 4), (5, 5), (6, 6), (7, 7)]) (c18 b) e18 rfl rfl rfl w18 ⟨(lx rfl), (lx rfl), (lx rfl), (lx rfl), (lx rfl), (lx rfl), (lx rfl), (lx rfl), trivial⟩ r18) ?_
  refine WPl.nil (EX.then ?_)
  refine WP.cond rfl (fun hc1 => ?_) (fun hc1 => ?_)
  · try simp only [cnd] at hc1
    refine WP.seq (WP.region ?_)
    refine WPl.cs 10 rfl rfl rfl rfl (o_sig 10 (ren [(0, 8)]) c19 e19 rfl rfl rfl w19 ⟨(lx rfl), trivial⟩ r19) ?_
    refine WPl.v rfl (o_assign rfl) ?_
    refine WPl.nil (EX.then (WP.ret (EX.ret_then ?_)))
    exact EX.fin id (.inl rfl) rfl (.tmp rfl .nil) rfl r6 trivial (by simp) (by simp)
  · try simp only [cnd] at hc1
    have hm : b.Small := farB_small (by simpa using hc1)
    refine WP.skip (EX.then (WP.seq (WP.region ?_)))
    refine WPl.v rfl (o_ldpa G33 rfl rfl rfl) ?_
    refine WPl.cs 18 rfl rfl rfl rfl (o_sig 10 (ren [(0, 0), (1, 1), (2, 2), (3, 3), (4, 4), (5, 5), (6, 6), (7, 7)]) (c20 b hm) e20 rfl rfl rfl w20 ⟨(lx rfl), (lx rfl), (lx rfl), (lx rfl), (lx rfl), (lx rfl), (lx rfl), (lx rfl), trivial⟩ r20) ?_
    refine WPl.l 18 19 rfl rfl rfl (o_alloc Z33) ?_
    refine WPl.s1 (o_stag G33 rfl rfl rfl ⟨(.inl ⟨_, (lx rfl), PL.one⟩), (.inl ⟨_, (lx rfl), PL.one⟩), (.inl ⟨_, (lx rfl), PL.one⟩), rfl, (.inl ⟨_, (lx rfl), PL.one⟩), (.inl ⟨_, (lx rfl), PL.one⟩), (.inl ⟨_, (lx rfl), PL.one⟩), (.inl ⟨_, (lx rfl), PL.one⟩), rfl, (.inl ⟨_, (lx rfl), PL.one⟩), trivial⟩ rfl rfl) ?_
    refine WPl.nil (EX.then (WP.seq (WP.region ?_)))
    refine WPl.v rfl (o_ldpa G33 rfl rfl rfl) ?_
    refine WPl.v rfl (o_move rfl) ?_
    refine WPl.cs 19 rfl rfl rfl rfl (o_sig 19 (ren [(0, 10), (1, 11), (2, 12), (3, 13), (4, 14), (5, 15), (6, 16), (7, 17), (8, 8)]) (c38 b n hm) e38 rfl rfl rfl w38 ⟨(lx rfl), (lx rfl), (lx rfl), (lx rfl), (lx rfl), (lx rfl), (lx rfl), (lx rfl), (lx rfl), trivial⟩ r38) ?_
    refine WPl.v rfl (o_move rfl) ?_
    refine WPl.v rfl (o_extract rfl rfl) ?_
    refine WPl.v rfl (o_extract rfl rfl) ?_
    refine WPl.v rfl (o_assign rfl) ?_
    refine WPl.v rfl (o_assign rfl) ?_
    refine WPl.nil (EX.then (WP.seq (WP.region ?_)))
    refine WPl.v rfl (o_ldpa G33 rfl rfl rfl) ?_
    refine WPl.v rfl (o_move rfl) ?_
    refine WPl.cs 19 rfl rfl rfl rfl (o_sig 19 (ren [(0, 0), (1, 1), (2, 2), (3, 3), (4, 4), (5, 5), (6, 6), (7, 7)]) (c39 b n hm) e39 rfl rfl rfl w39 ⟨(lx rfl), (lx rfl), (lx rfl), (lx rfl), (lx rfl), (lx rfl), (lx rfl), (lx rfl), trivial⟩ r39) ?_
    refine WPl.v rfl (o_move rfl) ?_
    refine WPl.v rfl (o_extract rfl rfl) ?_
    refine WPl.v rfl (o_extract rfl rfl) ?_
    refine WPl.v rfl (o_assign rfl) ?_
    refine WPl.v rfl (o_assign rfl) ?_
    refine WPl.nil (EX.then (WP.seq (WP.region ?_)))
    refine WPl.v rfl (o_ldpa G33 rfl rfl rfl) ?_
    refine WPl.v rfl (o_move rfl) ?_
    refine WPl.cs 19 rfl rfl rfl rfl (o_sig 19 (ren [(0, 10), (1, 11), (2, 12), (3, 13), (4, 14), (5, 15), (6, 16), (7, 17), (8, 8)]) (c40 b n hm) e40 rfl rfl rfl w40 ⟨(lx rfl), (lx rfl), (lx rfl), (lx rfl), (lx rfl), (lx rfl), (lx rfl), (lx rfl), (lx rfl), trivial⟩ r40) ?_
    refine WPl.v rfl (o_move rfl) ?_
    refine WPl.v rfl (o_extract rfl rfl) ?_
    refine WPl.v rfl (o_extract rfl rfl) ?_
    refine WPl.v rfl (o_assign rfl) ?_
    refine WPl.v rfl (o_assign rfl) ?_
    refine WPl.nil (EX.then (WP.seq (WP.region ?_)))
    refine WPl.v rfl (o_ldpa G33 rfl rfl rfl) ?_
    refine WPl.v rfl (o_move rfl) ?_
    refine WPl.cs 19 rfl rfl rfl rfl (o_sig 19 (ren [(0, 0), (1, 1), (2, 2), (3, 3), (4, 4), (5, 5), (6, 6), (7, 7)]) (c41 b n hm) e41 rfl rfl rfl w41 ⟨(lx rfl), (lx rfl), (lx rfl), (lx rfl), (lx rfl), (lx rfl), (lx rfl), (lx rfl), trivial⟩ r41) ?_
    refine WPl.v rfl (o_move rfl) ?_
    refine WPl.v rfl (o_extract rfl rfl) ?_
    refine WPl.v rfl (o_extract rfl rfl) ?_
    refine WPl.v rfl (o_assign rfl) ?_
    refine WPl.v rfl (o_assign rfl) ?_
    refine WPl.nil (EX.then (WP.seq (WP.seq (WP.region ?_))))
    refine WPl.v rfl (o_move rfl) ?_
    refine WPl.v rfl (o_move rfl) ?_
    refine WPl.v rfl (o_neq rfl rfl) ?_
    refine WPl.imp (Imp.bitF 49 (b' := false) rfl (by simp)) ?_
    refine WPl.v rfl (o_move rfl) ?_
    refine WPl.on rfl ⟨_, _, rfl, rfl, rfl⟩ (o_move rfl) ?_
    refine WPl.on rfl ⟨_, _, rfl, rfl, rfl⟩ (o_move rfl) ?_
    refine WPl.on rfl ⟨_, _, rfl, rfl, rfl⟩ (o_neq rfl rfl) ?_
    refine WPl.imp (Imp.bitF 53 (b' := false) rfl (by simp)) ?_
    refine WPl.v rfl (o_pickF rfl rfl) ?_
    refine WPl.v rfl (o_move rfl) ?_
    refine WPl.on rfl ⟨_, _, rfl, rfl, rfl⟩ (o_move rfl) ?_
    refine WPl.on rfl ⟨_, _, rfl, rfl, rfl⟩ (o_move rfl) ?_
    refine WPl.on rfl ⟨_, _, rfl, rfl, rfl⟩ (o_neq rfl rfl) ?_
    refine WPl.imp (Imp.bitF 58 (b' := false) rfl (by simp)) ?_
    refine WPl.v rfl (o_pickF rfl rfl) ?_
    refine WPl.v rfl (o_move rfl) ?_
    refine WPl.on rfl ⟨_, _, rfl, rfl, rfl⟩ (o_move rfl) ?_
    refine WPl.on rfl ⟨_, _, rfl, rfl, rfl⟩ (o_move rfl) ?_
    refine WPl.on rfl ⟨_, _, rfl, rfl, rfl⟩ (o_neq rfl rfl) ?_
    refine WPl.imp (Imp.bitF 63 (b' := false) rfl (by simp)) ?_
    refine WPl.v rfl (o_pickF rfl rfl) ?_
    refine WPl.nil (EX.then ?_)
    refine WP.cond rfl (fun h => by cases h) (fun _ => ?_)
    refine WP.skip (EX.then (WP.seq (WP.region ?_)))
    refine WPl.v rfl (o_ldpa G33 rfl rfl rfl) ?_
    refine WPl.v rfl (o_move rfl) ?_
    refine WPl.cs 19 rfl rfl rfl rfl (o_sig 19 (ren [(0, 10), (1, 11), (2, 12), (3, 13), (4, 14), (5, 15), (6, 16), (7, 17), (8, 8)]) (c37 b n hm) e37 rfl rfl rfl w37 ⟨(lx rfl), (lx rfl), (lx rfl), (lx rfl), (lx rfl), (lx rfl), (lx rfl), (lx rfl), (lx rfl), trivial⟩ r37) ?_
    refine WPl.v rfl (o_move rfl) ?_
    refine WPl.v rfl (o_extract rfl rfl) ?_
    refine WPl.v rfl (o_extract rfl rfl) ?_
    refine WPl.l 19 20 rfl rfl rfl (o_alloc Z60) ?_
    refine WPl.s1 (o_stag G60 rfl rfl rfl ⟨rfl, rfl, trivial⟩ rfl rfl) ?_
    refine WPl.v rfl (o_assign rfl) ?_
    refine WPl.nil (EX.then (WP.seq (WP.region ?_)))
    refine WPl.v rfl (o_ldpa G33 rfl rfl rfl) ?_
    refine WPl.v rfl (o_move rfl) ?_
    refine WPl.cs 20 rfl rfl rfl rfl (o_sig 20 (ren [(0, 0), (1, 1), (2, 2), (3, 3), (4, 4), (5, 5), (6, 6), (7, 7)]) (c42 b n hm) e42 rfl rfl rfl w42 ⟨(lx rfl), (lx rfl), (lx rfl), (lx rfl), (lx rfl), (lx rfl), (lx rfl), (lx rfl), trivial⟩ r42) ?_
    refine WPl.v rfl (o_move rfl) ?_
    refine WPl.v rfl (o_extract rfl rfl) ?_
    refine WPl.v rfl (o_extract rfl rfl) ?_
    refine WPl.l 20 21 rfl rfl rfl (o_alloc Z60) ?_
    refine WPl.s1 (o_stag G60 rfl rfl rfl ⟨rfl, rfl, trivial⟩ rfl rfl) ?_
    refine WPl.v rfl (o_assign rfl) ?_
    refine WPl.nil (EX.then (WP.seq (WP.region ?_)))
    refine WPl.v rfl (o_ldpa G33 rfl rfl rfl) ?_
    refine WPl.cs 22 rfl rfl rfl rfl (o_sig 21 (ren [(0, 10), (1, 11), (2, 12), (3, 13), (4, 14), (5, 15), (6, 16), (7, 17), (8, 8)]) (c30 b hm) e30 rfl rfl rfl w30 ⟨(lx rfl), (lx rfl), (lx rfl), (lx rfl), (lx rfl), (lx rfl), (lx rfl), (lx rfl), (lx rfl), trivial⟩ r30) ?_
    refine WPl.v rfl (o_move rfl) ?_
    refine WPl.v rfl (o_extract rfl rfl) ?_
    refine WPl.v rfl (o_extract rfl rfl) ?_
    refine WPl.v rfl (o_assign rfl) ?_
    refine WPl.v rfl (o_assign rfl) ?_
    refine WPl.nil (EX.then (WP.seq (WP.region ?_)))
    refine WPl.v rfl (o_ldpa G33 rfl rfl rfl) ?_
    refine WPl.cs 23 rfl rfl rfl rfl (o_sig 22 (ren [(0, 0), (1, 1), (2, 2), (3, 3), (4, 4), (5, 5), (6, 6), (7, 7)]) (c43 b hm) e43 rfl rfl rfl w43 ⟨(lx rfl), (lx rfl), (lx rfl), (lx rfl), (lx rfl), (lx rfl), (lx rfl), (lx rfl), trivial⟩ r43) ?_
    refine WPl.v rfl (o_move rfl) ?_
    refine WPl.v rfl (o_extract rfl rfl) ?_
    refine WPl.v rfl (o_extract rfl rfl) ?_
    refine WPl.v rfl (o_assign rfl) ?_
    refine WPl.v rfl (o_assign rfl) ?_
    refine WPl.nil (EX.then (WP.seq (WP.region ?_)))
    refine WPl.v rfl (o_ldpa G60 rfl rfl rfl) ?_
    refine WPl.v rfl (o_ldpa G60 rfl rfl rfl) ?_
    refine WPl.v rfl (o_eqs (a := [(plV b n).1, (plV b n).2]) (b := [(plV b n).1, (plV b n).2]) Q60 rfl Tryz.eqGuardType60 rfl rfl rfl rfl) ?_
    refine WPl.imp (Imp.bitF 89 (b' := true) rfl (by simp)) ?_
    refine WPl.v rfl (o_move rfl) ?_
    refine WPl.on rfl ⟨_, _, rfl, rfl, rfl⟩ (o_move rfl) ?_
    refine WPl.on rfl ⟨_, _, rfl, rfl, rfl⟩ (o_move rfl) ?_
    refine WPl.on rfl ⟨_, _, rfl, rfl, rfl⟩ (o_eql rfl rfl) ?_
    refine WPl.imp (Imp.bitF 93 (b' := true) rfl (by simp)) ?_
    refine WPl.v rfl (o_pickT rfl rfl) ?_
    refine WPl.v rfl (o_move rfl) ?_
    refine WPl.on rfl ⟨_, _, rfl, rfl, rfl⟩ (o_move rfl) ?_
    refine WPl.on rfl ⟨_, _, rfl, rfl, rfl⟩ (o_move rfl) ?_
    refine WPl.ung ⟨_, _, rfl, rfl, rfl⟩ ?_
    refine WPl.cs 23 rfl rfl rfl rfl (o_sig 23 (ren [(0, 21), (1, 22)]) (c44 (lfV b) (lfV b) (lfV_len hm)) e44 rfl rfl rfl w44 ⟨(lx rfl), (lx rfl), trivial⟩ r44) ?_
    refine WPl.imp (Imp.bitF 98 (b' := true) rfl (samePl_refl _)) ?_
    refine WPl.v rfl (o_pickT rfl rfl) ?_
    refine WPl.v rfl (o_move rfl) ?_
    refine WPl.on rfl ⟨_, _, rfl, rfl, rfl⟩ (o_move rfl) ?_
    refine WPl.on rfl ⟨_, _, rfl, rfl, rfl⟩ (o_move rfl) ?_
    refine WPl.on rfl ⟨_, _, rfl, rfl, rfl⟩ (o_eql rfl rfl) ?_
    refine WPl.imp (Imp.bitF 103 (b' := true) rfl (by simp)) ?_
    refine WPl.v rfl (o_pickT rfl rfl) ?_
    refine WPl.v rfl (o_move rfl) ?_
    refine WPl.ung ⟨_, _, rfl, rfl, rfl⟩ ?_
    refine WPl.v rfl (o_ldpa G33 rfl rfl rfl) ?_
    refine WPl.ung ⟨_, _, rfl, rfl, rfl⟩ ?_
    refine WPl.v rfl (o_ldpa G33 rfl rfl rfl) ?_
    refine WPl.ung ⟨_, _, rfl, rfl, rfl⟩ ?_
    refine WPl.cs 23 rfl rfl rfl rfl (o_sig 23 (ren [(0, 10), (1, 11), (2, 12), (3, 13), (4, 14), (5, 15), (6, 16), (7, 17), (8, 0), (9, 1), (10, 2), (11, 3), (12, 4), (13, 5), (14, 6), (15, 7)]) (c23 b hm) e23 rfl rfl rfl w23 ⟨(lx rfl), (lx rfl), (lx rfl), (lx rfl), (lx rfl), (lx rfl), (lx rfl), (lx rfl), (lx rfl), (lx rfl), (lx rfl), (lx rfl), (lx rfl), (lx rfl), (lx rfl), (lx rfl), trivial⟩ r23) ?_
    refine WPl.v rfl (o_pickT rfl rfl) ?_
    refine WPl.v rfl (o_move rfl) ?_
    refine WPl.ung ⟨_, _, rfl, rfl, rfl⟩ ?_
    refine WPl.cs 23 rfl rfl rfl rfl (o_sig 23 (ren [(0, 8)]) c19 e19 rfl rfl rfl w19 ⟨(lx rfl), trivial⟩ r19) ?_
    refine WPl.v rfl (o_pickT rfl rfl) ?_
    refine WPl.v rfl (o_assign rfl) ?_
    refine WPl.nil (EX.then (WP.ret ?_))
    exact EX.fin id (.inl rfl) rfl (.tmp rfl .nil) rfl r6 trivial (by simp) (by simp)
end Go.Flong
namespace Go.Proofs.YtapgiededfphfaaGreatDoor
open Go Go.Eng Go.Flong Go.ChangeShapes Go.WideShapes
set_option maxRecDepth 100000 in
theorem talliesLies_lifted (os : Os) (started : os.Started) (H : Type) (enc : TypeId × Value → H) : ReturnsInHanded {} Tryz.checked os 6 .any (fun w args => (Rows.talliesLiesSpec.pre enc Tryz.prog Tryz.f6 Rows.talliesLiesRow.domain false w args ∧ laidMetH Tryz.prog laid2 w) ∧ sizedMet enc Tryz.prog Tryz.f6 (OpenSpec.ofChange Rows.talliesLiesSpec) false w args) (Rows.talliesLiesSpec.post enc Tryz.prog Tryz.f6 false true false false) := by
  refine lawLiftedX (C := Tryz.checked) (X := fun w => laidMetH Tryz.prog laid2 w) (fun _ _ hh h => h.of_heap hh) own started (by kernel_rfl) Tryz.func6
    (ChangeSpec.witness_shaped (enc := enc) (C := Tryz.checked) (os := os) (X := fun w _ => laidMetH Tryz.prog laid2 w) false (World.doorLaid Tryz.prog 400 os) #[.agg #[.slice none 0 0, .slice none 0 0, .slice none 0 0, .int .i64 0, .slice none 0 0, .slice none 0 0, .slice none 0 0, .slice none 0 0, .int .i64 0, .slice none 0 0], .int .i64 0] 8 rfl (World.shaped_of_RefB (by kernel_rfl) (by kernel_rfl)) (by kernel_rfl) (by kernel_rfl) (by kernel_rfl) (door_met os _))
    laidOut rfl Tryz.underlying4 (by intro t ht; revert ht; revert t; exact of_decide_eq_true (by kernel_rfl)) rfl (fun ds hd => ?_) fun W base args ds p hval hA hL => ?_
  · match ds, hd with
    | [_, _], _ => rfl
  · obtain ⟨v0, vs, d0, ds0, p0, q0, ha, rfl, rfl, h0, hA⟩ := trodAll_cons hA
    obtain ⟨v1, vs, d1, ds1, p1, q1, rfl, rfl, rfl, h1, hA⟩ := trodAll_cons hA
    obtain ⟨rfl, rfl, rfl⟩ := trodAll_nil hA
    obtain rfl : args = #[v0, v1] := by cases args; simp_all
    obtain ⟨a0, x0, x1, x2, x3, x4, x5, x6, x7, rfl, ok0⟩ := argBook (hval 0 _ v0 rfl rfl) h0
    obtain ⟨a1, rfl⟩ := okWide_int Tryz.underlying3 (hval 1 3 v1 rfl rfl)
    exact Sig.kept (c6 a0 a1 ) (ν := nuL [x0, x1, x2, x3, x4, x5, x6, x7, undef]) ⟨ok0.h.m, ok0.h.b, ok0.h.t, ok0.h.o, ok0.h.e, ok0.s, ok0.w, ok0.t, tab_laid hL undef, trivial⟩
theorem talliesLies_row : Rows.TalliesLiesSaid :=
  OpenClaim.holds_of_wide 6 Tryz.f6 rfl rfl rfl rfl rfl rfl rfl ⟨rfl, rfl, rfl, rfl, rfl⟩ rfl rfl rfl rfl rfl (by kernel_rfl) Tryz.func6 (by kernel_rfl)
    (of_decide_eq_true (by kernel_rfl)) (by unfold Func.isWrapper; rw [if_neg (by decide +kernel)]; exact ⟨rfl, rfl⟩)
    (fun os started H enc _ => talliesLies_lifted os started H enc)
theorem talliesLies_holds : Rows.TalliesLiesCardSaid :=
  Claim7.holds_tied_plain_at .later [] [.data, .data] true Rows.talliesLiesCard.stood.harness false
    talliesLies_row (fun _ h => by cases h) (by kernel_rfl) (fun _ h => by cases h) talliesLies_row_tie rfl ⟨rfl, rfl⟩ (by kernel_rfl) rfl
    (fun f fn hf hfn => by
      obtain rfl : f = 6 := Option.some.inj ((show Tryz.prog.funcNamed "flong/flonglaw11.TalliesLies" = some 6 by kernel_rfl).symm.trans hf) |>.symm
      obtain rfl : fn = Tryz.f6 := (Option.some.inj (Tryz.func6.symm.trans hfn)).symm
      exact ⟨by kernel_rfl, fun j t ht => by
        rw [Tryz.params6] at ht
        have hm : t ∈ [33, 3] := by simpa using Array.mem_of_getElem? ht
        have hall : ([33, 3].all fun u => !Tryz.prog.wantsStandIn u) = true := by kernel_rfl
        exact (show Tryz.prog.wantsStandIn t = false by simpa using List.all_eq_true.1 hall t hm)⟩)
    (by kernel_rfl)
end Go.Proofs.YtapgiededfphfaaGreatDoor
