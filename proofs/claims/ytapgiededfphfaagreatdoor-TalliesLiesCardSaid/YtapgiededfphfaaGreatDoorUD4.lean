/- Part 4 of the texts behind the claim: FDTW3 FDTW4 FDTW5 FDTW6 FDTW7 FDTW8 FDTW9 FDTW10 FDTW11 FDTW12. -/
import Derived.Test.YtapgiededfphfaaGreatDoorUD3
set_option linter.unusedSimpArgs false
set_option linter.unusedVariables false
namespace Go.Flong
open Go Go.Eng Go.Proofs
theorem R24 : RowT Tryz.prog 24 3 1 8 [.int .i64 0] := ⟨Tryz.underlying24, ⟨Tryz.t3, _, by kernel_rfl, rfl, rfl, rfl, rfl⟩, rfl, by decide⟩
theorem e141 : Enters' Tryz.prog 141 := Tryz.call141
theorem Z117 : Zero Tryz.prog 117 [.v (.slice none 0 0), .v (.slice none 0 0), .v (.slice none 0 0), ai (0), .v (.slice none 0 0), .v (.slice none 0 0)] := .mk Tryz.zeroValue117 rfl rfl
theorem e139 : Enters' Tryz.prog 139 := Tryz.call139
theorem B117 : BldT Tryz.prog 117 [(0, 6)] [.slice none 0 0, .slice none 0 0, .slice none 0 0, .int .i64 0, .slice none 0 0, .slice none 0 0] := BldT.mk (ns := [6]) Tryz.underlying117 ⟨Tryz.sizeOf29, trivial⟩ rfl Tryz.zeroValue117 rfl
theorem G117 : TyG Tryz.prog 117 6 := ⟨Tryz.isAgg117, Tryz.sizeOf117⟩
theorem Z123 : Zero Tryz.prog 123 [ai (0), ai (0), ai (0), ai (0), ai (0), ai (0), ai (0), ai (0), ai (0), ai (0), ai (0), ai (0)] := .mk Tryz.zeroValue123 rfl rfl
theorem A123 : IsArrG Tryz.prog 123 121 4 3 := ⟨Tryz.underlying123, Tryz.sizeOf121⟩
theorem A121 : IsArr Tryz.prog 121 3 3 := ⟨Tryz.underlying121, Tryz.sizeOf3⟩
theorem G123 : TyG Tryz.prog 123 12 := ⟨Tryz.isAgg123, Tryz.sizeOf123⟩
theorem F117_0 : Fld Tryz.prog 117 0 0 := .mk Tryz.underlying117 rfl rfl rfl Tryz.sizeOf29 rfl
theorem e94 : Enters' Tryz.prog 94 := Tryz.call94
theorem e95 : Enters' Tryz.prog 95 := Tryz.call95
theorem e93 : Enters' Tryz.prog 93 := Tryz.call93
theorem e96 : Enters' Tryz.prog 96 := Tryz.call96
theorem e97 : Enters' Tryz.prog 97 := Tryz.call97
theorem e27 : Enters' Tryz.prog 27 := Tryz.call27
theorem e118 : Enters' Tryz.prog 118 := Tryz.call118
theorem e103 : Enters' Tryz.prog 103 := Tryz.call103
theorem e78 : Enters' Tryz.prog 78 := Tryz.call78
theorem e80 : Enters' Tryz.prog 80 := Tryz.call80
theorem w95 {l : List Plate} : ∀ x ∈ ([.e (.a (.q 0))] : List SV), x.res (keys (α := Pred) [(0, PL EPl (l))]) := by simp [SV.res, El.res, At.res, keys]
theorem r95 {l : List Plate} : SV.res (keys (α := Pred) []) (.b (isSet l)) := by simp [SV.res, El.res, At.res, keys]
set_option maxHeartbeats 4000000 in
theorem c95 (l : List Plate) (hl : l.length ≤ 1000) : Sig Tryz.prog 95 [.e (.a (.q 0))] [(0, PL EPl (l))] (.b (isSet l)) [] := by
  refine Sig.intro Tryz.func95 rfl 1 [(0, .e (.a (.q 0)))] rfl w95 rfl rfl fun I w => ?_
  refine WP.seq (WP.region ?_)
  refine WPl.v rfl (o_assign rfl) ?_
  refine WPl.nil (EX.then (WP.seq (WP.seq (WP.region ?_))))
  refine WPl.v rfl (o_move rfl) ?_
  refine WPl.v rfl (o_lenq L30 rfl (lx rfl)) ?_
  refine WPl.v rfl (o_move rfl) ?_
  refine WPl.nil (EX.then (WP.block ?_))
  refine WP.loop (Gh := Nat) (fun i => ⟨1, [(0, .e (.a (.q 0))), (2, .b (false)), (5, .e (.a (.q 0))), (6, .i ((l.length : Int))), (7, .i ((i : Int)))], [(0, PL EPl (l))], [], [], []⟩) (fun i => i ≤ l.length ∧ allI (setAt l) i = true) (fun i => l.length - i) (0) id ?_ (LeR.of ⟨rfl, rfl, rfl, rfl, rfl, trivial⟩ ⟨(lx rfl), trivial⟩ trivial rfl rfl rfl rfl rfl) ?_
  · exact ⟨by omega, rfl⟩
  intro i hφ
  have hi : i ≤ l.length := hφ.1
  have hall := hφ.2
  refine WP.seq (WP.region ?_)
  refine WPl.v rfl (o_lss rfl rfl) ?_
  refine WPl.nil (EX.then (WP.seq ?_))
  refine WP.cond rfl (fun hc1 => ?_) (fun hc1 => ?_)
  · try simp only [cnd] at hc1
    refine WP.skip (EX.then (WP.seq (WP.block (WP.seq (WP.region ?_)))))
    refine WPl.v rfl (o_move rfl) ?_
    refine WPl.x 1 2 rfl rfl rfl (o_idx L30 rfl (lx rfl) rfl (by first | omega | (simp; omega)) (by first | omega | (simp; omega))) ?_
    refine WPl.v rfl (o_ldqg G77 rfl (lx rfl) (strG rfl) rfl rfl) ?_
    refine WPl.l 2 3 rfl rfl rfl (o_alloc Z77) ?_
    refine WPl.v rfl (o_assign rfl) ?_
    refine WPl.s1 (o_stag G77 rfl rfl rfl ⟨rfl, rfl, rfl, trivial⟩ rfl rfl) ?_
    refine WPl.nil (EX.then (WP.seq (WP.seq (WP.region ?_))))
    refine WPl.v rfl (o_fldp F77_0 rfl) ?_
    refine WPl.v rfl (o_ldp S3 rfl rfl rfl) ?_
    refine WPl.cs 3 rfl rfl rfl rfl (o_sig 3 id (c140 ((nth l (i : Int)).page) 0 3) e140 rfl rfl rfl w140 trivial r140) ?_
    refine WPl.v rfl (o_not rfl) ?_
    refine WPl.v rfl (o_move rfl) ?_
    refine WPl.bit 3 4 (!(!(within ((nth l (i : Int)).page) 0 3))) rfl rfl ?_
    refine WPl.gv 3 rfl rfl (.plain rfl (by first | (simp; done) | simp only [Bool.not_eq_true']) rfl) (fun hb => o_fldp F77_1 rfl) ?_
    refine WPl.gv 3 rfl rfl (.plain rfl (by first | (simp; done) | simp only [Bool.not_eq_true']) rfl) (fun hb => o_ldp S3 rfl rfl rfl) ?_
    refine WPl.gc0 3 rfl rfl (.plain rfl (by first | (simp; done) | simp only [Bool.not_eq_true']) rfl) (fun hb => o_sig 4 id (c140 ((nth l (i : Int)).bore) 0 2) e140 rfl rfl rfl w140 trivial r140) ?_
    refine WPl.gv 3 rfl rfl (.plain rfl (by first | (simp; done) | simp only [Bool.not_eq_true']) rfl) (fun hb => o_not rfl) ?_
    refine WPl.v rfl (o_or rfl rfl rfl (by first | (simp; done) | exact fun h => by rw [h]; rfl | exact fun h => Bool.and_eq_true_iff.2 ⟨hb, by rw [h]; rfl⟩ | simp_all)) ?_
    refine WPl.v rfl (o_move rfl) ?_
    refine WPl.bit 4 5 (!((!(within ((nth l (i : Int)).page) 0 3)) || (!(within ((nth l (i : Int)).bore) 0 2)))) rfl rfl ?_
    refine WPl.gv 4 rfl rfl (.plain rfl (by first | (simp; done) | simp only [Bool.not_eq_true']) rfl) (fun hb => o_fldp F77_2 rfl) ?_
    refine WPl.gv 4 rfl rfl (.plain rfl (by first | (simp; done) | simp only [Bool.not_eq_true']) rfl) (fun hb => o_ldp S3 rfl rfl rfl) ?_
    refine WPl.gc0 4 rfl rfl (.plain rfl (by first | (simp; done) | simp only [Bool.not_eq_true']) rfl) (fun hb => o_sig 5 id (c140 ((nth l (i : Int)).many) 1 9) e140 rfl rfl rfl w140 trivial r140) ?_
    refine WPl.gv 4 rfl rfl (.plain rfl (by first | (simp; done) | simp only [Bool.not_eq_true']) rfl) (fun hb => o_not rfl) ?_
    refine WPl.v rfl (o_or rfl rfl rfl (by first | (simp; done) | exact fun h => by rw [h]; rfl | exact fun h => Bool.and_eq_true_iff.2 ⟨hb, by rw [h]; rfl⟩ | simp_all)) ?_
    refine WPl.nil (EX.then ?_)
    refine WP.cond rfl (fun hc2 => ?_) (fun hc2 => ?_)
    · try simp only [cnd] at hc2
      refine WP.seq (WP.region ?_)
      refine WPl.v rfl (o_assign rfl) ?_
      refine WPl.nil (EX.then (WP.ret (EX.ret_then (EX.ret_blk (EX.ret_then (EX.ret_then (EX.ret_blk (EX.ret_then ?_))))))))
      rw [show isSet l = false from not_allI (show i < l.length by omega) (by unfold setAt; rw [show (nth l (i : Int)).chk = false from by unfold Plate.chk; simp only [Bool.and_eq_false_iff]; exact hc2]; rfl)]
      exact EX.fin id (.inl rfl) rfl (.tmp rfl .nil) rfl (by simp [SV.res, El.res, At.res, keys]) trivial (by simp) (by simp)
    · try simp only [cnd] at hc2
      have hpk : (nth l (i : Int)).chk = true := by simp only [Plate.chk, Bool.and_eq_true]; exact hc2
      refine WP.skip (EX.then (WP.seq ?_))
      refine WP.imp (Imp.bit 5 6 (decide (0 < (i : Int))) rfl rfl) ?_
      refine WP.draw (nf := 9) [⟨[], [], [], [], []⟩, ⟨[], [], [], [], [0]⟩, ⟨[], [], [], [], [0, 1]⟩, ⟨[32, 33, 37, 38, 40, 41, 42, 43, 44, 45, 46, 47], [7], [], [], [0, 1, 2]⟩, ⟨[31, 37, 38, 40, 41, 42, 43, 44, 45, 46, 47], [7], [], [], [0, 1, 2]⟩, ⟨[31, 37, 38, 40, 41, 42, 43, 44, 45, 46, 47], [7], [], [], [0, 1, 2, 4]⟩, ⟨[37, 38, 40, 41, 42, 43, 44, 45, 46, 47], [7], [6], [6], [0, 1, 2, 3, 4, 5]⟩, ⟨[37, 38, 40, 41, 42, 43, 44, 45, 46, 47], [7], [], [], [0, 1, 2, 3, 4, 5, 6]⟩, ⟨[37, 38, 40, 41, 42, 43, 44, 45, 46, 47], [7], [], [], [0, 1, 2, 3, 4, 5, 6, 7]⟩, ⟨[31, 32, 33, 34, 35, 36, 40, 41, 42, 43, 44, 45, 46, 47], [6, 7], [], [], [0, 1, 2]⟩, ⟨[31, 32, 33, 34, 35, 36, 40, 41, 42, 43, 44, 45, 46, 47], [6, 7], [], [], [0, 1, 2, 9]⟩, ⟨[40, 41, 42, 43, 44, 45, 46, 47], [7], [], [], [0, 1, 2, 3, 4, 5, 6, 7, 8, 9, 10]⟩, ⟨[31, 32, 33, 34, 35, 36, 37, 38, 39, 41, 42, 46, 47], [6], [], [], [0, 1, 2]⟩, ⟨[31, 32, 33, 34, 35, 36, 37, 38, 39, 40, 46, 47], [6], [], [], [0, 1, 2]⟩, ⟨[31, 32, 33, 34, 35, 36, 37, 38, 39, 40, 46, 47], [6], [], [], [0, 1, 2, 13]⟩, ⟨[31, 32, 33, 34, 35, 36, 37, 38, 39, 46, 47], [6], [7], [7], [0, 1, 2, 12, 13, 14]⟩, ⟨[31, 32, 33, 34, 35, 36, 37, 38, 39, 46, 47], [6], [], [], [0, 1, 2, 12, 13, 14, 15]⟩, ⟨[31, 32, 33, 34, 35, 36, 37, 38, 39, 46, 47], [6], [], [], [0, 1, 2, 12, 13, 14, 15, 16]⟩, ⟨[31, 32, 33, 34, 35, 36, 37, 38, 39, 40, 41, 42, 43, 44, 45], [6, 7], [], [], [0, 1, 2]⟩, ⟨[31, 32, 33, 34, 35, 36, 37, 38, 39, 40, 41, 42, 43, 44, 45], [6, 7], [], [], [0, 1, 2, 18]⟩, ⟨[], [], [], [], [0, 1, 2, 3, 4, 5, 6, 7, 8, 9, 10, 11, 12, 13, 14, 15, 16, 17, 18, 19]⟩, ⟨[], [], [8], [8], [0, 1, 2, 3, 4, 5, 6, 7, 8, 9, 10, 11, 12, 13, 14, 15, 16, 17, 18, 19, 20]⟩, ⟨[], [], [], [], [0, 1, 2, 3, 4, 5, 6, 7, 8, 9, 10, 11, 12, 13, 14, 15, 16, 17, 18, 19, 20, 21]⟩, ⟨[], [], [], [], [0, 1, 2, 3, 4, 5, 6, 7, 8, 9, 10, 11, 12, 13, 14, 15, 16, 17, 18, 19, 20, 21, 22]⟩, ⟨[], [], [], [], [0, 1, 2, 3, 4, 5, 6, 7, 8, 9, 10, 11, 12, 13, 14, 15, 16, 17, 18, 19, 20, 21, 22, 23]⟩] (by kernel_rfl) (by kernel_rfl) ?_
      refine DRQ.v rfl rfl rfl (o_move rfl) ?_
      refine DRQ.v rfl rfl rfl (o_gtr rfl rfl) ?_
      refine DRQ.v rfl rfl rfl (o_move rfl) ?_
      refine DRQ.gv 5 rfl rfl (.plain rfl Iff.rfl rfl) rfl (fun hb => o_move rfl) ?_
      refine DRQ.gv 5 rfl rfl (.plain rfl Iff.rfl rfl) rfl (fun hb => o_move rfl) ?_
      refine DRQ.gv 5 rfl rfl (.plain rfl Iff.rfl rfl) rfl (fun hb => o_sub rfl rfl (by simp at hb; omega) (by simp at hb; omega)) ?_
      refine DRQ.gx 5 6 rfl rfl (.plain rfl Iff.rfl rfl) rfl rfl (fun hb => o_idx L30 rfl (lx rfl) rfl (by simp at hb; omega) (by simp at hb; omega)) ?_
      refine DRQ.gv 5 rfl rfl (.plain rfl Iff.rfl rfl) rfl (fun hb => o_fldq F77_0 rfl (lxi hb rfl)) ?_
      refine DRQ.gv 5 rfl rfl (.plain rfl Iff.rfl rfl) rfl (fun hb => o_lde S3 rfl (lxi hb rfl) (strI rfl)) ?_
      refine DRQ.gv 5 rfl rfl (.plain rfl Iff.rfl rfl) rfl (fun hb => o_fldp F77_0 rfl) ?_
      refine DRQ.gv 5 rfl rfl (.plain rfl Iff.rfl rfl) rfl (fun hb => o_ldp S3 rfl rfl rfl) ?_
      refine DRQ.gv 5 rfl rfl (.plain rfl Iff.rfl rfl) rfl (fun hb => o_sig 7 id (c142 ((nth l ((i : Int) - 1)).page) ((nth l (i : Int)).page)) e142 rfl rfl rfl w142 trivial r142) ?_
      refine DRQ.gv 5 rfl rfl (.plain rfl Iff.rfl rfl) rfl (fun hb => o_move rfl) ?_
      refine DRQ.gv 5 rfl rfl (.plain rfl Iff.rfl rfl) rfl (fun hb => o_move rfl) ?_
      refine DRQ.gv 5 rfl rfl (.plain rfl Iff.rfl rfl) rfl (fun hb => o_sub rfl rfl (by simp at hb; omega) (by simp at hb; omega)) ?_
      refine DRQ.gx 5 7 rfl rfl (.plain rfl Iff.rfl rfl) rfl rfl (fun hb => o_idx L30 rfl (lx rfl) rfl (by simp at hb; omega) (by simp at hb; omega)) ?_
      refine DRQ.gv 5 rfl rfl (.plain rfl Iff.rfl rfl) rfl (fun hb => o_fldq F77_1 rfl (lxi hb rfl)) ?_
      refine DRQ.gv 5 rfl rfl (.plain rfl Iff.rfl rfl) rfl (fun hb => o_lde S3 rfl (lxi hb rfl) (strI rfl)) ?_
      refine DRQ.gv 5 rfl rfl (.plain rfl Iff.rfl rfl) rfl (fun hb => o_fldp F77_1 rfl) ?_
      refine DRQ.gv 5 rfl rfl (.plain rfl Iff.rfl rfl) rfl (fun hb => o_ldp S3 rfl rfl rfl) ?_
      refine DRQ.gv 5 rfl rfl (.plain rfl Iff.rfl rfl) rfl (fun hb => o_sig 8 id (c142 ((nth l ((i : Int) - 1)).bore) ((nth l (i : Int)).bore)) e142 rfl rfl rfl w142 trivial r142) ?_
      refine DRQ.gx 5 8 rfl rfl (.plain rfl Iff.rfl rfl) rfl rfl (fun hb => OpG.settle0 (o_bsl (E := EP.int) (l := [cmpI ((nth l ((i : Int) - 1)).page) ((nth l (i : Int)).page), cmpI ((nth l ((i : Int) - 1)).bore) ((nth l (i : Int)).bore)]) R24 rfl rfl (.cons (rfl) rfl (eok_int) (.cons (rfl) rfl (eok_int) (.nil))) rfl rfl)) ?_
      refine DRQ.gv 5 rfl rfl (.plain rfl Iff.rfl rfl) rfl (fun hb => o_sig 9 (ren [(0, 8)]) (c141 [cmpI ((nth l ((i : Int) - 1)).page) ((nth l (i : Int)).page), cmpI ((nth l ((i : Int) - 1)).bore) ((nth l (i : Int)).bore)] (by simp)) e141 rfl rfl rfl w141 ⟨(lxi hb rfl), trivial⟩ r141) ?_
      refine DRQ.gv 5 rfl rfl (.plain rfl Iff.rfl rfl) rfl (fun hb => o_geq rfl rfl) ?_
      refine DRQ.v rfl rfl rfl (o_and rfl rfl rfl id) ?_
      refine DRQ.nil' ?_
      refine EX.then ?_
      refine WP.cond rfl (fun hc3 => ?_) (fun hc3 => ?_)
      · try simp only [cnd] at hc3
        refine WP.seq (WP.region ?_)
        refine WPl.v rfl (o_assign rfl) ?_
        refine WPl.nil (EX.then (WP.ret (EX.ret_blk (EX.ret_then (EX.ret_then (EX.ret_blk (EX.ret_then ?_)))))))
        rw [show isSet l = false from not_allI (show i < l.length by omega) (by unfold setAt; rw [hpk, Bool.true_and]; simp only [Bool.not_eq_false', Bool.and_eq_true, decide_eq_true_eq]; exact ⟨hc3.1, (set_or hall hpk hc3.1).1 hc3.2⟩)]
        exact EX.fin id (.inl rfl) rfl (.tmp rfl .nil) rfl (by simp [SV.res, El.res, At.res, keys]) trivial (by simp) (by simp)
      · try simp only [cnd] at hc3
        refine WP.skip (EX.blk (EX.then (WP.region ?_)))
        refine WPl.v rfl (o_add rfl rfl (by first | omega | (simp; omega)) (by first | omega | (simp; omega))) ?_
        refine WPl.v rfl (o_move rfl) ?_
        refine WPl.nil ?_
        refine EX.again (i + 1) id (by exact ⟨by omega, by simp only [allI, hall, Bool.true_and]; unfold setAt; rw [hpk, Bool.true_and]; simp only [Bool.not_eq_true', Bool.and_eq_false_iff, decide_eq_false_iff_not]; exact Classical.or_iff_not_imp_left.2 fun h0 => by rw [← set_or hall hpk (Classical.not_not.1 h0)]; exact hc3.resolve_left h0⟩) (by omega) (LeR.of ⟨rfl, rfl, rfl, rfl, rfl, trivial⟩ ⟨(lx rfl), trivial⟩ trivial rfl rfl rfl rfl rfl)
  · try simp only [cnd] at hc1
    refine WP.exit (EX.exit_then (EX.exit_then (EX.exit_blk (EX.then (WP.seq (WP.region ?_))))))
    refine WPl.v rfl (o_assign rfl) ?_
    refine WPl.nil (EX.then (WP.ret ?_))
    have he : i = l.length := by omega
    subst he
    rw [show isSet l = true from hall]
    exact EX.fin id (.inl rfl) rfl (.tmp rfl .nil) rfl (by simp [SV.res, El.res, At.res, keys]) trivial (by simp) (by simp)
theorem w93 {h : Hall} {v : Bool} : ∀ x ∈ ([.e (.g [.q 0, .q 1, .q 2, ai (h.change), .q 3, .q 4]), .b (v)] : List SV), x.res (keys (α := Pred) [(0, PL ETm (h.machs)), (1, PL EBd (h.buns)), (2, PL EP.int (h.trains)), (3, PL EP.int (h.bores)), (4, PL (EP.sl EP.int) (h.eds))]) := by simp [SV.res, El.res, At.res, keys]
theorem r93 {h : Hall} : SV.res (keys (α := Pred) [(0, PL ETm (h.machs)), (1, PL EBd (h.buns)), (2, PL EP.int (h.trains)), (3, PL EP.int (h.bores)), (4, PL (EP.sl EP.int) (h.eds))]) (.t [.g [.q 0, .q 1, .q 2, ai (h.change), .q 3, .q 4], .a (ai (0))]) := by simp [SV.res, El.res, At.res, keys]
set_option maxHeartbeats 4000000 in
theorem c93 (h : Hall) (v : Bool) (hm : h.Small) (hc : h.chk = true) (hv : v = true) : Sig Tryz.prog 93 [.e (.g [.q 0, .q 1, .q 2, ai (h.change), .q 3, .q 4]), .b (v)] [(0, PL ETm (h.machs)), (1, PL EBd (h.buns)), (2, PL EP.int (h.trains)), (3, PL EP.int (h.bores)), (4, PL (EP.sl EP.int) (h.eds))] (.t [.g [.q 0, .q 1, .q 2, ai (h.change), .q 3, .q 4], .a (ai (0))]) [(0, PL ETm (h.machs)), (1, PL EBd (h.buns)), (2, PL EP.int (h.trains)), (3, PL EP.int (h.bores)), (4, PL (EP.sl EP.int) (h.eds))] := by
  refine Sig.intro Tryz.func93 rfl 5 [(0, .e (.g [.q 0, .q 1, .q 2, ai (h.change), .q 3, .q 4])), (1, .b (v))] rfl w93 rfl rfl fun I w => ?_
  refine WP.seq (WP.region ?_)
  refine WPl.l 5 6 rfl rfl rfl (o_boxg rfl) ?_
  refine WPl.l 6 7 rfl rfl rfl (o_alloc Z117) ?_
  refine WPl.v rfl (o_assign rfl) ?_
  refine WPl.nil (EX.then (WP.seq (WP.seq (WP.region ?_))))
  refine WPl.v rfl (o_ldpa G29 rfl rfl rfl) ?_
  refine WPl.cs 7 rfl rfl rfl rfl (o_sig 7 (ren [(0, 0), (1, 1), (2, 2), (3, 3), (4, 4)]) (c139 h hm) e139 rfl rfl rfl w139 ⟨(lx rfl), (lx rfl), (lx rfl), (lx rfl), (lx rfl), trivial⟩ r139) ?_
  refine WPl.v rfl (o_assign rfl) ?_
  refine WPl.nil (EX.then (WP.seq (WP.region ?_)))
  refine WPl.v rfl (o_move rfl) ?_
  refine WPl.v rfl (o_neq rfl rfl) ?_
  refine WPl.nil (EX.then ?_)
  refine WP.cond rfl (fun hc1 => ?_) (fun hc1 => ?_)
  · try simp only [cnd] at hc1
    simp [errL, hc] at hc1
  · try simp only [cnd] at hc1
    refine WP.skip (EX.then (WP.seq (WP.seq (WP.region ?_))))
    refine WPl.v rfl (o_move rfl) ?_
    refine WPl.v rfl (o_not rfl) ?_
    refine WPl.nil (EX.then ?_)
    refine WP.cond rfl (fun hc2 => ?_) (fun hc2 => ?_)
    · try simp only [cnd] at hc2
      simp [hv] at hc2
    · try simp only [cnd] at hc2
      refine WP.skip (EX.then (WP.seq (WP.region ?_)))
      refine WPl.v rfl (o_ldpa G29 rfl rfl rfl) ?_
      refine WPl.v rfl (o_build B117 rfl trivial rfl rfl) ?_
      refine WPl.s1 (o_stag G117 rfl rfl rfl ⟨(.inl ⟨_, (lx rfl), PL.one⟩), (.inl ⟨_, (lx rfl), PL.one⟩), (.inl ⟨_, (lx rfl), PL.one⟩), rfl, (.inl ⟨_, (lx rfl), PL.one⟩), (.inl ⟨_, (lx rfl), PL.one⟩), trivial⟩ rfl rfl) ?_
      refine WPl.v rfl (o_assign rfl) ?_
      refine WPl.nil (EX.then (WP.ret ?_))
      exact EX.fin (ren [(0, 0), (1, 1), (2, 2), (3, 3), (4, 4)]) (.inl rfl) rfl (.cellg G117 rfl rfl rfl (.tmp rfl .nil)) rfl r93 ⟨(lx rfl), (lx rfl), (lx rfl), (lx rfl), (lx rfl), trivial⟩ (by simp) (by simp)
theorem w93E {h : Hall} {v : Bool} : ∀ x ∈ ([.e (.g [.q 0, .q 1, .q 2, ai (h.change), .q 3, .q 4]), .b (v)] : List SV), x.res (keys (α := Pred) [(0, PL ETm (h.machs)), (1, PL EBd (h.buns)), (2, PL EP.int (h.trains)), (3, PL EP.int (h.bores)), (4, PL (EP.sl EP.int) (h.eds))]) := by simp [SV.res, El.res, At.res, keys]
theorem r93E {h : Hall} {v : Bool} : SV.res (keys (α := Pred) []) (.t [.g [.v (.slice none 0 0), .v (.slice none 0 0), .v (.slice none 0 0), ai (0), .v (.slice none 0 0), .v (.slice none 0 0)], .a (ai (opL h v))]) := by simp [SV.res, El.res, At.res, keys]
set_option maxHeartbeats 4000000 in
theorem c93E (h : Hall) (v : Bool) (hm : h.Small) (hv : opL h v ≠ 0) : Sig Tryz.prog 93 [.e (.g [.q 0, .q 1, .q 2, ai (h.change), .q 3, .q 4]), .b (v)] [(0, PL ETm (h.machs)), (1, PL EBd (h.buns)), (2, PL EP.int (h.trains)), (3, PL EP.int (h.bores)), (4, PL (EP.sl EP.int) (h.eds))] (.t [.g [.v (.slice none 0 0), .v (.slice none 0 0), .v (.slice none 0 0), ai (0), .v (.slice none 0 0), .v (.slice none 0 0)], .a (ai (opL h v))]) [] := by
  refine Sig.intro Tryz.func93 rfl 5 [(0, .e (.g [.q 0, .q 1, .q 2, ai (h.change), .q 3, .q 4])), (1, .b (v))] rfl w93E rfl rfl fun I w => ?_
  refine WP.seq (WP.region ?_)
  refine WPl.l 5 6 rfl rfl rfl (o_boxg rfl) ?_
  refine WPl.l 6 7 rfl rfl rfl (o_alloc Z117) ?_
  refine WPl.v rfl (o_assign rfl) ?_
  refine WPl.nil (EX.then (WP.seq (WP.seq (WP.region ?_))))
  refine WPl.v rfl (o_ldpa G29 rfl rfl rfl) ?_
  refine WPl.cs 7 rfl rfl rfl rfl (o_sig 7 (ren [(0, 0), (1, 1), (2, 2), (3, 3), (4, 4)]) (c139 h hm) e139 rfl rfl rfl w139 ⟨(lx rfl), (lx rfl), (lx rfl), (lx rfl), (lx rfl), trivial⟩ r139) ?_
  refine WPl.v rfl (o_assign rfl) ?_
  refine WPl.nil (EX.then (WP.seq (WP.region ?_)))
  refine WPl.v rfl (o_move rfl) ?_
  refine WPl.v rfl (o_neq rfl rfl) ?_
  refine WPl.nil (EX.then ?_)
  refine WP.cond rfl (fun hc1 => ?_) (fun hc1 => ?_)
  · try simp only [cnd] at hc1
    refine WP.seq (WP.region ?_)
    refine WPl.v rfl (o_build B117 rfl trivial rfl rfl) ?_
    refine WPl.v rfl (o_move rfl) ?_
    refine WPl.s1 (o_stag G117 rfl rfl rfl ⟨rfl, rfl, rfl, rfl, rfl, rfl, trivial⟩ rfl rfl) ?_
    refine WPl.v rfl (o_assign rfl) ?_
    refine WPl.nil (EX.then (WP.ret (EX.ret_then ?_)))
    rw [show opL h v = errL h.chk from opL0 (by simpa using hc1)]
    exact EX.fin id (.inl rfl) rfl (.cellg G117 rfl rfl rfl (.tmp rfl .nil)) rfl (by simp [SV.res, El.res, At.res, keys]) trivial (by simp) (by simp)
  · try simp only [cnd] at hc1
    refine WP.skip (EX.then (WP.seq (WP.seq (WP.region ?_))))
    refine WPl.v rfl (o_move rfl) ?_
    refine WPl.v rfl (o_not rfl) ?_
    refine WPl.nil (EX.then ?_)
    refine WP.cond rfl (fun hc2 => ?_) (fun hc2 => ?_)
    · try simp only [cnd] at hc2
      refine WP.seq (WP.region ?_)
      refine WPl.v rfl (o_build B117 rfl trivial rfl rfl) ?_
      refine WPl.s1 (o_stag G117 rfl rfl rfl ⟨rfl, rfl, rfl, rfl, rfl, rfl, trivial⟩ rfl rfl) ?_
      refine WPl.v rfl (o_assign rfl) ?_
      refine WPl.nil (EX.then (WP.ret (EX.ret_then ?_)))
      rw [show opL h v = 1 from opL1 (by simpa using hc1) (by simpa using hc2)]
      exact EX.fin id (.inl rfl) rfl (.cellg G117 rfl rfl rfl (.tmp rfl .nil)) rfl (by simp [SV.res, El.res, At.res, keys]) trivial (by simp) (by simp)
    · try simp only [cnd] at hc2
      exact absurd (opL_eq.2 ⟨errL_eq.1 (by simpa using hc1), by simpa using hc2⟩) hv
theorem w96 {l : List Plate} : ∀ x ∈ ([.e (.a (.q 0))] : List SV), x.res (keys (α := Pred) [(0, PL EPl (l))]) := by simp [SV.res, El.res, At.res, keys]
theorem r96 {l : List Plate} : SV.res (keys (α := Pred) []) (.e (.g [ai (nth (shelf l) 0), ai (nth (shelf l) 1), ai (nth (shelf l) 2), ai (nth (shelf l) 3), ai (nth (shelf l) 4), ai (nth (shelf l) 5), ai (nth (shelf l) 6), ai (nth (shelf l) 7), ai (nth (shelf l) 8), ai (nth (shelf l) 9), ai (nth (shelf l) 10), ai (nth (shelf l) 11)])) := by simp [SV.res, El.res, At.res, keys]
set_option maxHeartbeats 4000000 in
theorem c96 (l : List Plate) (hl : l.length ≤ 1000) (hs : isSet l = true) : Sig Tryz.prog 96 [.e (.a (.q 0))] [(0, PL EPl (l))] (.e (.g [ai (nth (shelf l) 0), ai (nth (shelf l) 1), ai (nth (shelf l) 2), ai (nth (shelf l) 3), ai (nth (shelf l) 4), ai (nth (shelf l) 5), ai (nth (shelf l) 6), ai (nth (shelf l) 7), ai (nth (shelf l) 8), ai (nth (shelf l) 9), ai (nth (shelf l) 10), ai (nth (shelf l) 11)])) [] := by
  refine Sig.intro Tryz.func96 rfl 1 [(0, .e (.a (.q 0)))] rfl w96 rfl rfl fun I w => ?_
  refine WP.seq (WP.region ?_)
  refine WPl.l 1 2 rfl rfl rfl (o_alloc Z123) ?_
  refine WPl.nil (EX.then (WP.seq (WP.seq (WP.region ?_))))
  refine WPl.v rfl (o_move rfl) ?_
  refine WPl.v rfl (o_lenq L30 rfl (lx rfl)) ?_
  refine WPl.v rfl (o_move rfl) ?_
  refine WPl.nil (EX.then (WP.block ?_))
  refine WP.loop (Gh := Nat) (fun i => ⟨2, [(2, .e (.a (.p 1 (0)))), (5, .e (.a (.q 0))), (6, .i ((l.length : Int))), (7, .i ((i : Int)))], [(0, PL EPl (l))], [(1, .blk [ai (nth (shelfTo l i) 0), ai (nth (shelfTo l i) 1), ai (nth (shelfTo l i) 2), ai (nth (shelfTo l i) 3), ai (nth (shelfTo l i) 4), ai (nth (shelfTo l i) 5), ai (nth (shelfTo l i) 6), ai (nth (shelfTo l i) 7), ai (nth (shelfTo l i) 8), ai (nth (shelfTo l i) 9), ai (nth (shelfTo l i) 10), ai (nth (shelfTo l i) 11)] 123)], [], []⟩) (fun i => i ≤ l.length) (fun i => l.length - i) (0) id ?_ (LeR.of ⟨rfl, rfl, rfl, rfl, trivial⟩ ⟨(lx rfl), trivial⟩ ⟨rfl, trivial⟩ rfl rfl rfl rfl rfl) ?_
  · first | trivial | omega | (constructor <;> omega) | simp
  intro i hφ
  have hi : i ≤ l.length := hφ
  refine WP.seq (WP.region ?_)
  refine WPl.v rfl (o_lss rfl rfl) ?_
  refine WPl.nil (EX.then (WP.seq ?_))
  refine WP.cond rfl (fun hc1 => ?_) (fun hc1 => ?_)
  · try simp only [cnd] at hc1
    have hpb := isSetB hs (show i < l.length by omega)
    refine WP.skip (EX.then (WP.seq (WP.block (WP.seq (WP.region ?_)))))
    refine WPl.x 2 3 rfl rfl rfl (o_idx L30 rfl (lx rfl) rfl (by first | omega | (simp; omega)) (by first | omega | (simp; omega))) ?_
    refine WPl.v rfl (o_ldqg G77 rfl (lx rfl) (strG rfl) rfl rfl) ?_
    refine WPl.l 3 4 rfl rfl rfl (o_alloc Z77) ?_
    refine WPl.s1 (o_stag G77 rfl rfl rfl ⟨rfl, rfl, rfl, trivial⟩ rfl rfl) ?_
    refine WPl.nil (EX.then ?_)
    refine WP.draw (nf := 4) [⟨[13, 14, 15, 16], [], [], [], []⟩, ⟨[13, 14, 15, 16], [], [], [], [0]⟩, ⟨[11, 12, 15, 16, 17], [], [], [], []⟩, ⟨[11, 12, 15, 16, 17], [], [], [], [2]⟩, ⟨[11, 12, 13, 14, 17], [], [], [], []⟩, ⟨[11, 12, 13, 14, 17], [], [], [], [4]⟩, ⟨[13, 14, 15, 16], [], [], [], [0, 1]⟩, ⟨[], [], [], [], [0, 1, 2, 3, 4, 5, 6]⟩, ⟨[], [], [], [1], [0, 1, 2, 3, 4, 5, 6, 7]⟩] (by kernel_rfl) (by kernel_rfl) ?_
    refine DRQ.v rfl rfl rfl (o_fldp F77_0 rfl) ?_
    refine DRQ.v rfl rfl rfl (o_ldp S3 rfl rfl rfl) ?_
    refine DRQ.v rfl rfl rfl (o_fldp F77_1 rfl) ?_
    refine DRQ.v rfl rfl rfl (o_ldp S3 rfl rfl rfl) ?_
    refine DRQ.v rfl rfl rfl (o_fldp F77_2 rfl) ?_
    refine DRQ.v rfl rfl rfl (o_ldp S3 rfl rfl rfl) ?_
    refine DRQ.v rfl rfl rfl (o_idxpr A123 rfl rfl (by first | omega | (simp; omega)) (by first | omega | (simp; omega))) ?_
    refine DRQ.v rfl rfl rfl (o_idxpc (((nth l (i : Int)).page) * 3 + ((nth l (i : Int)).bore)) A121 rfl rfl (by first | omega | (simp; omega)) (by first | omega | (simp; omega)) (by omega)) ?_
    refine DRQ.s 1 rfl rfl rfl (o_stpn (n := 12) (l := shelfTo l i) (cs' := [ai (nth (lset (shelfTo l i) (((nth l (i : Int)).page) * 3 + ((nth l (i : Int)).bore)) ((nth l (i : Int)).many)) 0), ai (nth (lset (shelfTo l i) (((nth l (i : Int)).page) * 3 + ((nth l (i : Int)).bore)) ((nth l (i : Int)).many)) 1), ai (nth (lset (shelfTo l i) (((nth l (i : Int)).page) * 3 + ((nth l (i : Int)).bore)) ((nth l (i : Int)).many)) 2), ai (nth (lset (shelfTo l i) (((nth l (i : Int)).page) * 3 + ((nth l (i : Int)).bore)) ((nth l (i : Int)).many)) 3), ai (nth (lset (shelfTo l i) (((nth l (i : Int)).page) * 3 + ((nth l (i : Int)).bore)) ((nth l (i : Int)).many)) 4), ai (nth (lset (shelfTo l i) (((nth l (i : Int)).page) * 3 + ((nth l (i : Int)).bore)) ((nth l (i : Int)).many)) 5), ai (nth (lset (shelfTo l i) (((nth l (i : Int)).page) * 3 + ((nth l (i : Int)).bore)) ((nth l (i : Int)).many)) 6), ai (nth (lset (shelfTo l i) (((nth l (i : Int)).page) * 3 + ((nth l (i : Int)).bore)) ((nth l (i : Int)).many)) 7), ai (nth (lset (shelfTo l i) (((nth l (i : Int)).page) * 3 + ((nth l (i : Int)).bore)) ((nth l (i : Int)).many)) 8), ai (nth (lset (shelfTo l i) (((nth l (i : Int)).page) * 3 + ((nth l (i : Int)).bore)) ((nth l (i : Int)).many)) 9), ai (nth (lset (shelfTo l i) (((nth l (i : Int)).page) * 3 + ((nth l (i : Int)).bore)) ((nth l (i : Int)).many)) 10), ai (nth (lset (shelfTo l i) (((nth l (i : Int)).page) * 3 + ((nth l (i : Int)).bore)) ((nth l (i : Int)).many)) 11)]) S3 rfl rfl rfl rfl rfl (by rw [shelfTo_len]) (by omega) (by omega)) ?_
    refine DRQ.nil' ?_
    refine EX.blk (EX.then (WP.region ?_))
    refine WPl.v rfl (o_add rfl rfl (by first | omega | (simp; omega)) (by first | omega | (simp; omega))) ?_
    refine WPl.v rfl (o_move rfl) ?_
    refine WPl.nil ?_
    refine EX.again (i + 1) id (by first | omega | (constructor <;> omega)) (by omega) (LeR.of ⟨rfl, rfl, rfl, rfl, trivial⟩ ⟨(lx rfl), trivial⟩ ⟨rfl, trivial⟩ rfl rfl rfl rfl rfl)
  · try simp only [cnd] at hc1
    refine WP.exit (EX.exit_then (EX.exit_then (EX.exit_blk (EX.then (WP.seq (WP.region ?_))))))
    refine WPl.v rfl (o_ldpa G123 rfl rfl rfl) ?_
    refine WPl.s1 (o_stag G123 rfl rfl rfl ⟨rfl, rfl, rfl, rfl, rfl, rfl, rfl, rfl, rfl, rfl, rfl, rfl, trivial⟩ rfl rfl) ?_
    refine WPl.nil (EX.then (WP.ret ?_))
    have hie : i = l.length := by omega
    subst hie
    rw [show shelf l = shelfTo l l.length from rfl]
    exact EX.fin id (.inl rfl) rfl (.cellg G123 rfl rfl rfl (.nil)) rfl (by simp [SV.res, El.res, At.res, keys]) trivial (by simp) (by simp)
theorem w97 {pg : Int} {L : List Int} {h : Hall} {m : Int} : ∀ x ∈ ([.i (pg), .e (.a (.q 0)), .e (.a (.q 1)), .e (.a (.q 2))] : List SV), x.res (keys (α := Pred) [(0, PP (EArr 12) (L)), (1, PP EHa (h)), (2, PP EP.int (m))]) := by simp [SV.res, El.res, At.res, keys]
theorem r97 {pg : Int} {L : List Int} {h : Hall} {m : Int} : SV.res (keys (α := Pred) []) (.b (decide (nth L (pg * 3 + nth h.bores m) = 0))) := by simp [SV.res, El.res, At.res, keys]
set_option maxHeartbeats 4000000 in
theorem c97 (pg : Int) (L : List Int) (h : Hall) (m : Int) (hx : 0 ≤ pg ∧ pg < 4) (hm : 0 ≤ m ∧ m < h.bores.length) (hb : 0 ≤ nth h.bores m ∧ nth h.bores m ≤ 2) : Sig Tryz.prog 97 [.i (pg), .e (.a (.q 0)), .e (.a (.q 1)), .e (.a (.q 2))] [(0, PP (EArr 12) (L)), (1, PP EHa (h)), (2, PP EP.int (m))] (.b (decide (nth L (pg * 3 + nth h.bores m) = 0))) [] := by
  refine Sig.intro Tryz.func97 rfl 3 [(0, .i (pg)), (1, .e (.a (.q 0))), (2, .e (.a (.q 1))), (3, .e (.a (.q 2)))] rfl w97 rfl rfl fun I w => ?_
  refine WP.seq (WP.region ?_)
  refine WPl.v rfl (o_assign rfl) ?_
  refine WPl.nil (EX.then (WP.seq ?_))
  refine WP.draw (nf := 5) [⟨[7, 8, 9, 10, 11, 12], [3, 4], [], [], []⟩, ⟨[6, 10, 13], [], [], [], []⟩, ⟨[6, 10, 13], [], [], [], [1]⟩, ⟨[6, 10, 13], [], [3], [3], [1, 2]⟩, ⟨[6, 7, 8, 9, 13], [3], [], [], []⟩, ⟨[6, 13], [], [4], [4], [1, 2, 3, 4]⟩, ⟨[6, 13], [], [], [], [1, 2, 3, 4, 5]⟩, ⟨[7, 8, 9, 10, 11, 12], [3, 4], [], [], [0]⟩, ⟨[], [], [], [], [0, 1, 2, 3, 4, 5, 6, 7]⟩, ⟨[], [], [], [], [0, 1, 2, 3, 4, 5, 6, 7, 8]⟩, ⟨[], [], [], [], [0, 1, 2, 3, 4, 5, 6, 7, 8, 9]⟩, ⟨[], [], [], [], [0, 1, 2, 3, 4, 5, 6, 7, 8, 9, 10]⟩] (by kernel_rfl) (by kernel_rfl) ?_
  refine DRQ.v rfl rfl rfl (o_move rfl) ?_
  refine DRQ.v rfl rfl rfl (o_fldq F117_0 rfl (lx rfl)) ?_
  refine DRQ.v rfl rfl rfl (o_flde F29_1 rfl (lx rfl)) ?_
  refine DRQ.x 3 rfl rfl rfl rfl (o_ldex S24 rfl (lx rfl) (strS rfl)) ?_
  refine DRQ.v rfl rfl rfl (o_ldq S3 rfl (lx rfl) intc) ?_
  refine DRQ.x 4 rfl rfl rfl rfl (o_idx L24 rfl (lx rfl) rfl (by first | omega | (simp; omega)) (by first | omega | (simp; omega))) ?_
  refine DRQ.v rfl rfl rfl (o_ldq S3 rfl (lx rfl) intc) ?_
  refine DRQ.v rfl rfl rfl (o_idxqr A123 rfl (lx rfl) rfl (by first | omega | (simp; omega)) (by first | omega | (simp; omega))) ?_
  refine DRQ.v rfl rfl rfl (o_idxec (pg * 3 + (nth h.bores m)) A121 rfl (lx rfl) rfl (by first | omega | (simp; omega)) (by first | omega | (simp; omega)) (by omega)) ?_
  refine DRQ.v rfl rfl rfl (o_lde S3 rfl (lx rfl) (arr_get (by first | omega | (simp; omega)) (by first | omega | (simp; omega)))) ?_
  refine DRQ.v rfl rfl rfl (o_eql rfl rfl) ?_
  refine DRQ.v rfl rfl rfl (o_assign rfl) ?_
  refine DRQ.nil' ?_
  refine EX.then (WP.ret ?_)
  exact EX.fin id (.inl rfl) rfl (.tmp rfl .nil) rfl r97 trivial (by simp) (by simp)
theorem w27 {h : Hall} {m : Int} {l : List Plate} : ∀ x ∈ ([.e (.g [.q 0, .q 1, .q 2, ai (h.change), .q 3, .q 4]), .i (m), .e (.a (.q 5))] : List SV), x.res (keys (α := Pred) [(0, PL ETm (h.machs)), (1, PL EBd (h.buns)), (2, PL EP.int (h.trains)), (3, PL EP.int (h.bores)), (4, PL (EP.sl EP.int) (h.eds)), (5, PL EPl (l))]) := by simp [SV.res, El.res, At.res, keys]
theorem r27 {h : Hall} {m : Int} {l : List Plate} : SV.res (keys (α := Pred) [(0, PL EP.int (h.fitL m l))]) (.t [.a (.q 0), .a (ai (h.fitE m l))]) := by simp [SV.res, El.res, At.res, keys]
set_option maxHeartbeats 4000000 in
theorem c27 (h : Hall) (m : Int) (l : List Plate) (hm : h.Small) (hl : l.length ≤ 1000) : Sig Tryz.prog 27 [.e (.g [.q 0, .q 1, .q 2, ai (h.change), .q 3, .q 4]), .i (m), .e (.a (.q 5))] [(0, PL ETm (h.machs)), (1, PL EBd (h.buns)), (2, PL EP.int (h.trains)), (3, PL EP.int (h.bores)), (4, PL (EP.sl EP.int) (h.eds)), (5, PL EPl (l))] (.t [.a (.q 0), .a (ai (h.fitE m l))]) [(0, PL EP.int (h.fitL m l))] := by
  have hm1 := hm.m
  have hm5 := hm.e
  by_cases hf : h.fitE m l = 0
  · skip
    refine Sig.intro Tryz.func27 rfl 6 [(0, .e (.g [.q 0, .q 1, .q 2, ai (h.change), .q 3, .q 4])), (1, .i (m)), (2, .e (.a (.q 5)))] rfl w27 rfl rfl fun I w => ?_
    refine WP.seq (WP.region ?_)
    refine WPl.l 6 7 rfl rfl rfl (o_boxg rfl) ?_
    refine WPl.l 7 8 rfl rfl rfl (o_boxa rfl rfl) ?_
    refine WPl.v rfl (o_assign rfl) ?_
    refine WPl.v rfl (o_assign rfl) ?_
    refine WPl.nil (EX.then (WP.seq ?_))
    refine WP.imp (Imp.bit 8 9 (within m 0 ((h.machs.length : Int) - 1)) rfl rfl) ?_
    refine WP.draw (nf := 15) [⟨[16, 17, 18, 19, 20, 21, 22, 8], [14], [], [], []⟩, ⟨[15, 17, 8], [14], [], [], []⟩, ⟨[15, 16, 8], [14], [], [], []⟩, ⟨[15, 8], [14], [], [], [1, 2]⟩, ⟨[15, 8], [14], [], [], [1, 2, 3]⟩, ⟨[15, 8], [14], [], [], [1, 2, 3, 4]⟩, ⟨[15, 8], [14], [], [], [1, 2, 3, 4, 5]⟩, ⟨[15, 8], [14], [], [], [1, 2, 3, 4, 5, 6]⟩, ⟨[8], [14], [9, 10, 11, 12, 13], [9, 10, 11, 12, 13], [0, 1, 2, 3, 4, 5, 6, 7]⟩, ⟨[8], [14], [], [], [0, 1, 2, 3, 4, 5, 6, 7, 8]⟩, ⟨[25, 8], [14], [], [], [0, 1, 2, 3, 4, 5, 6, 7, 8, 9]⟩, ⟨[24, 8], [14], [], [], [0, 1, 2, 3, 4, 5, 6, 7, 8, 9]⟩, ⟨[15, 16, 17, 18, 19, 20, 21, 22, 23, 14, 24, 25], [9, 10, 11, 12, 13], [14], [14], []⟩, ⟨[25], [], [], [14], [0, 1, 2, 3, 4, 5, 6, 7, 8, 9, 10, 12]⟩, ⟨[], [], [], [], [0, 1, 2, 3, 4, 5, 6, 7, 8, 9, 10, 11, 12, 13]⟩] (by kernel_rfl) (by kernel_rfl) ?_
    obtain ⟨hc, hv⟩ := opL_eq.1 (show opL h (h.fitOK m l) = 0 from hf)
    have hb := hallB hc
    have hv2 := hv
    unfold Hall.fitOK at hv2
    rw [Bool.and_eq_true] at hv2
    obtain ⟨hmm, hsl⟩ := hv2
    simp only [within, Bool.and_eq_true, decide_eq_true_eq] at hmm
    have hbo := hb.o
    have hbm : 0 ≤ nth h.bores m ∧ nth h.bores m ≤ 2 := by have := hb.b m.toNat (by omega); rwa [show ((m.toNat : Nat) : Int) = m by omega] at this
    refine DRQ.v rfl rfl rfl (o_ldpa G29 rfl rfl rfl) ?_
    refine DRQ.v rfl rfl rfl (o_ldpa G29 rfl rfl rfl) ?_
    refine DRQ.v rfl rfl rfl (o_ldp S3 rfl rfl rfl) ?_
    refine DRQ.cs rfl rfl rfl rfl (o_sig 9 (ren [(0, 0), (1, 1), (2, 2), (3, 3), (4, 4)]) (c94 h m (by omega)) e94 rfl rfl rfl w94 ⟨(lx rfl), (lx rfl), (lx rfl), (lx rfl), (lx rfl), trivial⟩ r94) ?_
    refine DRQ.v rfl rfl rfl (o_move rfl) ?_
    refine DRQ.gv 8 rfl rfl (.plain rfl Iff.rfl rfl) rfl (fun hb => o_move rfl) ?_
    refine DRQ.gv 8 rfl rfl (.plain rfl Iff.rfl rfl) rfl (fun hb => o_sig 9 (ren [(0, 5)]) (c95 l hl) e95 rfl rfl rfl w95 ⟨(lx rfl), trivial⟩ r95) ?_
    refine DRQ.v rfl rfl rfl (o_and rfl rfl rfl id) ?_
    refine DRQ.cs rfl rfl rfl rfl (o_sig 9 (ren [(0, 0), (1, 1), (2, 2), (3, 3), (4, 4)]) (c93 h ((within m 0 ((h.machs.length : Int) - 1)) && (isSet l)) hm hc hv) e93 rfl rfl rfl w93 ⟨(lx rfl), (lx rfl), (lx rfl), (lx rfl), (lx rfl), trivial⟩ r93) ?_
    refine DRQ.v rfl rfl rfl (o_move rfl) ?_
    refine DRQ.v rfl rfl rfl (o_extract rfl rfl) ?_
    refine DRQ.v rfl rfl rfl (o_extract rfl rfl) ?_
    refine DRQ.l 14 rfl rfl rfl rfl (o_alloc Z117) ?_
    refine DRQ.s 14 rfl rfl rfl (o_stag G117 rfl rfl rfl ⟨(.inl ⟨_, (lx rfl), PL.one⟩), (.inl ⟨_, (lx rfl), PL.one⟩), (.inl ⟨_, (lx rfl), PL.one⟩), rfl, (.inl ⟨_, (lx rfl), PL.one⟩), (.inl ⟨_, (lx rfl), PL.one⟩), trivial⟩ rfl rfl) ?_
    refine DRQ.v rfl rfl rfl (o_assign rfl) ?_
    refine DRQ.nil' ?_
    refine EX.then (WP.seq (WP.seq (WP.region ?_)))
    refine WPl.v rfl (o_move rfl) ?_
    refine WPl.v rfl (o_neq rfl rfl) ?_
    refine WPl.nil (EX.then ?_)
    refine WP.cond rfl (fun hc1 => ?_) (fun hc1 => ?_)
    · try simp only [cnd] at hc1
      simp at hc1
    · try simp only [cnd] at hc1
      refine WP.skip (EX.then (WP.seq (WP.region ?_)))
      refine WPl.v rfl (o_move rfl) ?_
      refine WPl.cs 15 rfl rfl rfl rfl (o_sig 15 (ren [(0, 5)]) (c96 l hl hsl) e96 rfl rfl rfl w96 ⟨(lx rfl), trivial⟩ r96) ?_
      refine WPl.l 15 16 rfl rfl rfl (o_alloc Z123) ?_
      refine WPl.s1 (o_stag G123 rfl rfl rfl ⟨rfl, rfl, rfl, rfl, rfl, rfl, rfl, rfl, rfl, rfl, rfl, rfl, trivial⟩ rfl rfl) ?_
      refine WPl.nil (EX.then (WP.seq (WP.region ?_)))
      refine WPl.v rfl (o_assign rfl) ?_
      refine WPl.imp (Imp.namo EP.int 16 17 3 rfl rfl) ?_
      refine WPl.imp (Imp.swF 11 16 rfl (lx rfl)) ?_
      refine WPl.nil (EX.then (WP.seq (WP.seq (WP.region ?_))))
      refine WPl.imp (Imp.frzb (E := EHa) (y := h) 14 17 18 rfl rfl (bok_str ⟨⟨_, rfl, (lx rfl)⟩, ⟨_, rfl, (lx rfl)⟩, ⟨_, rfl, (lx rfl)⟩, rfl, ⟨_, rfl, (lx rfl)⟩, ⟨_, rfl, (lx rfl)⟩, trivial⟩) rfl rfl rfl) ?_
      refine WPl.imp (Imp.frzb (E := (EArr 12)) (y := (shelf l)) 15 18 19 rfl rfl (fun _ _ _ _ _ _ => rfl) rfl rfl rfl) ?_
      refine WPl.imp (Imp.frzb (E := EP.int) (y := m) 7 19 20 rfl rfl (bok_int) rfl rfl rfl) ?_
      refine WPl.v rfl (o_fldq F117_0 rfl (lx rfl)) ?_
      refine WPl.v rfl (o_flde F29_2 rfl (lx rfl)) ?_
      refine WPl.x 20 21 rfl rfl rfl (o_ldex S27 rfl (lx rfl) (strS rfl)) ?_
      refine WPl.v rfl (o_lenq L27 rfl (lx rfl)) ?_
      refine WPl.v rfl (o_move rfl) ?_
      refine WPl.nil (EX.then (WP.block ?_))
      refine WP.loop (Gh := Nat) (fun i => ⟨21, [(4, .e (.a (.q 19))), (6, .e (.a (.v (.slice none 0 0)))), (7, .i (0)), (8, .e (.a (.q 17))), (10, .e (.a (.q 18))), (11, .e (.a (.q 16))), (33, .e (.a (.q 20))), (34, .i ((h.eds.length : Int))), (35, .i ((i : Int)))], [(17, PP EHa (h)), (18, PP (EArr 12) ((shelf l))), (19, PP EP.int (m)), (20, PL (EP.sl EP.int) (h.eds))], [(16, .own 3 EP.int.size (h.fitTo m l i).length (RP EP.int (h.fitTo m l i)))], [], []⟩) (fun i => i ≤ h.eds.length) (fun i => h.eds.length - i) (0) id ?_ (LeR.of ⟨rfl, rfl, rfl, rfl, rfl, rfl, rfl, rfl, rfl, trivial⟩ ⟨(lx rfl), (lx rfl), (lx rfl), (lx rfl), trivial⟩ ⟨rfl, trivial⟩ rfl rfl rfl rfl rfl) ?_
      · first | trivial | omega | (constructor <;> omega) | simp
      intro i hφ
      have hi : i ≤ h.eds.length := hφ
      refine WP.seq (WP.region ?_)
      refine WPl.v rfl (o_lss rfl rfl) ?_
      refine WPl.nil (EX.then (WP.seq ?_))
      refine WP.cond rfl (fun hc2 => ?_) (fun hc2 => ?_)
      · try simp only [cnd] at hc2
        refine WP.skip (EX.then (WP.seq (WP.block (WP.seq (WP.region ?_)))))
        refine WPl.v rfl (o_move rfl) ?_
        refine WPl.x 21 22 rfl rfl rfl (o_idx L27 rfl (lx rfl) rfl (by first | omega | (simp; omega)) (by first | omega | (simp; omega))) ?_
        refine WPl.x 22 23 rfl rfl rfl (o_ldqx S24 rfl (lx rfl) slx) ?_
        refine WPl.v rfl (o_assign rfl) ?_
        refine WPl.v rfl (o_assign rfl) ?_
        refine WPl.nil (EX.then (WP.seq (WP.region ?_)))
        refine WPl.v rfl (o_move rfl) ?_
        refine WPl.x 23 24 rfl rfl rfl (o_mkfve (svs := fun (o : (Dom.below 4).T) => [.i (o.1)]) (X0 := fun (o : (Dom.below 4).T) => []) (sv := fun (o : (Dom.below 4).T) => .b ((h.lacksP m l) o.1)) (X := fun (o : (Dom.below 4).T) => []) (cs := [.e (.a (.q 0)), .e (.a (.q 1)), .e (.a (.q 2))]) (Xc := [(0, PP (EArr 12) ((shelf l))), (1, PP EHa (h)), (2, PP EP.int (m))]) 23 (ren [(0, 18), (1, 17), (2, 19)]) (fun (o : (Dom.below 4).T) => (c97 o.1 (shelf l) h m o.2 (by omega) hbm)) e97 (fun _ => rfl) rfl SvsOK.rf (fun _ => (by simp [SV.res, El.res, At.res, keys])) (by simp [SV.res, El.res, At.res, keys]) ⟨(lx rfl), (lx rfl), (lx rfl), trivial⟩) ?_
        refine WPl.cs 24 rfl rfl rfl rfl (o_sig 24 (ren [(0, 22), (1, 23)]) (c83 (nth h.eds (i : Int)) (Dom.below 4) (h.lacksP m l) (by have := hm.p i (by omega); omega) (fun j hj => hb.p i (by omega) j hj)) e83 rfl rfl rfl w83 ⟨(lx rfl), (lx rfl), trivial⟩ r83) ?_
        refine WPl.v rfl (o_not rfl) ?_
        refine WPl.nil (EX.then ?_)
        refine WP.cond rfl (fun hc3 => ?_) (fun hc3 => ?_)
        · try simp only [cnd] at hc3
          refine WP.region ?_
          refine WPl.v rfl (o_move rfl) ?_
          refine WPl.v rfl (o_move rfl) ?_
          refine WPl.l 24 25 rfl rfl rfl (o_bsl (E := EP.int) (l := [(i : Int)]) R24 rfl rfl (.cons (rfl) rfl (eok_int) (.nil)) rfl rfl) ?_
          refine WPl.u1 (k := 25) (m := 26) rfl rfl rfl (o_appo R24 EP.int_one rfl rfl rfl rfl (by have := fitTo_len h m l i; first | omega | (simp; omega)) (by have := fitTo_len h m l i; first | omega | (simp; omega))) ?_
          refine WPl.v rfl (o_assign rfl) ?_
          refine WPl.nil (EX.blk (EX.then (WP.region ?_)))
          refine WPl.v rfl (o_add rfl rfl (by first | omega | (simp; omega)) (by first | omega | (simp; omega))) ?_
          refine WPl.v rfl (o_move rfl) ?_
          refine WPl.nil ?_
          refine EX.again (i + 1) (ren [(16, 25)]) (by first | omega | (constructor <;> omega)) (by omega) (LeR.of ⟨rfl, rfl, rfl, rfl, rfl, rfl, rfl, rfl, rfl, trivial⟩ ⟨(lx rfl), (lx rfl), (lx rfl), (lx rfl), trivial⟩ ⟨(congrArg (fun z => some (Ent.own 3 EP.int.size (List.length z) (RP EP.int z))) (show ((h.fitTo m l i) ++ [(i : Int)]) = ((fun i => h.fitTo m l i) (i + 1)) from by dsimp only; simp only [Hall.fitTo]; rw [if_pos (by rw [hc3]; rfl)])), trivial⟩ rfl rfl rfl rfl rfl)
        · try simp only [cnd] at hc3
          refine WP.skip (EX.blk (EX.then (WP.region ?_)))
          refine WPl.v rfl (o_add rfl rfl (by first | omega | (simp; omega)) (by first | omega | (simp; omega))) ?_
          refine WPl.v rfl (o_move rfl) ?_
          refine WPl.nil ?_
          refine EX.again (i + 1) id (by first | omega | (constructor <;> omega)) (by omega) (LeR.of ⟨rfl, rfl, rfl, rfl, rfl, rfl, rfl, rfl, rfl, trivial⟩ ⟨(lx rfl), (lx rfl), (lx rfl), (lx rfl), trivial⟩ ⟨(congrArg (fun z => some (Ent.own 3 EP.int.size (List.length z) (RP EP.int z))) (show (h.fitTo m l i) = ((fun i => h.fitTo m l i) (i + 1)) from by dsimp only; simp only [Hall.fitTo]; rw [if_neg (by rw [hc3]; simp)])), trivial⟩ rfl rfl rfl rfl rfl)
      · try simp only [cnd] at hc2
        refine WP.exit (EX.exit_then (EX.exit_then (EX.exit_blk (EX.then (WP.seq (WP.region ?_))))))
        refine WPl.v rfl (o_move rfl) ?_
        refine WPl.v rfl (o_assign rfl) ?_
        refine WPl.v rfl (o_assign rfl) ?_
        refine WPl.nil (EX.then (WP.ret ?_))
        refine EX.imp (Imp.frz (E := EP.int) (l := h.fitTo m l i) 16 rfl rfl) ?_
        have hie : i = h.eds.length := by omega
        subst hie
        rw [hf, show h.fitL m l = h.fitTo m l h.eds.length from if_pos hf]
        exact EX.fin (ren [(0, 16)]) (.inl rfl) rfl (.tmp rfl (.tmp rfl .nil)) rfl (by simp [SV.res, El.res, At.res, keys]) ⟨(lx rfl), trivial⟩ (by simp) (by simp)
  · skip
    refine Sig.intro Tryz.func27 rfl 6 [(0, .e (.g [.q 0, .q 1, .q 2, ai (h.change), .q 3, .q 4])), (1, .i (m)), (2, .e (.a (.q 5)))] rfl w27 rfl rfl fun I w => ?_
    refine WP.seq (WP.region ?_)
    refine WPl.l 6 7 rfl rfl rfl (o_boxg rfl) ?_
    refine WPl.l 7 8 rfl rfl rfl (o_boxa rfl rfl) ?_
    refine WPl.v rfl (o_assign rfl) ?_
    refine WPl.v rfl (o_assign rfl) ?_
    refine WPl.nil (EX.then (WP.seq ?_))
    refine WP.imp (Imp.bit 8 9 (within m 0 ((h.machs.length : Int) - 1)) rfl rfl) ?_
    refine WP.draw (nf := 10) [⟨[16, 17, 18, 19, 20, 21, 22, 8], [9], [], [], []⟩, ⟨[15, 17, 8], [9], [], [], []⟩, ⟨[15, 16, 8], [9], [], [], []⟩, ⟨[15, 8], [9], [], [], [1, 2]⟩, ⟨[15, 8], [9], [], [], [1, 2, 3]⟩, ⟨[15, 8], [9], [], [], [1, 2, 3, 4]⟩, ⟨[15, 8], [9], [], [], [1, 2, 3, 4, 5]⟩, ⟨[15, 8], [9], [], [], [1, 2, 3, 4, 5, 6]⟩, ⟨[8], [9], [], [], [0, 1, 2, 3, 4, 5, 6, 7]⟩, ⟨[8], [9], [], [], [0, 1, 2, 3, 4, 5, 6, 7, 8]⟩, ⟨[25, 8], [9], [], [], [0, 1, 2, 3, 4, 5, 6, 7, 8, 9]⟩, ⟨[24, 8], [9], [], [], [0, 1, 2, 3, 4, 5, 6, 7, 8, 9]⟩, ⟨[15, 16, 17, 18, 19, 20, 21, 22, 23, 14, 24, 25], [], [9], [9], []⟩, ⟨[25], [], [], [9], [0, 1, 2, 3, 4, 5, 6, 7, 8, 9, 10, 12]⟩, ⟨[], [], [], [], [0, 1, 2, 3, 4, 5, 6, 7, 8, 9, 10, 11, 12, 13]⟩] (by kernel_rfl) (by kernel_rfl) ?_
    refine DRQ.v rfl rfl rfl (o_ldpa G29 rfl rfl rfl) ?_
    refine DRQ.v rfl rfl rfl (o_ldpa G29 rfl rfl rfl) ?_
    refine DRQ.v rfl rfl rfl (o_ldp S3 rfl rfl rfl) ?_
    refine DRQ.cs rfl rfl rfl rfl (o_sig 9 (ren [(0, 0), (1, 1), (2, 2), (3, 3), (4, 4)]) (c94 h m (by omega)) e94 rfl rfl rfl w94 ⟨(lx rfl), (lx rfl), (lx rfl), (lx rfl), (lx rfl), trivial⟩ r94) ?_
    refine DRQ.v rfl rfl rfl (o_move rfl) ?_
    refine DRQ.gv 8 rfl rfl (.plain rfl Iff.rfl rfl) rfl (fun hb => o_move rfl) ?_
    refine DRQ.gv 8 rfl rfl (.plain rfl Iff.rfl rfl) rfl (fun hb => o_sig 9 (ren [(0, 5)]) (c95 l hl) e95 rfl rfl rfl w95 ⟨(lx rfl), trivial⟩ r95) ?_
    refine DRQ.v rfl rfl rfl (o_and rfl rfl rfl id) ?_
    refine DRQ.cs rfl rfl rfl rfl (o_sig 9 (ren [(0, 0), (1, 1), (2, 2), (3, 3), (4, 4)]) (c93E h ((within m 0 ((h.machs.length : Int) - 1)) && (isSet l)) hm hf) e93 rfl rfl rfl w93E ⟨(lx rfl), (lx rfl), (lx rfl), (lx rfl), (lx rfl), trivial⟩ r93E) ?_
    refine DRQ.v rfl rfl rfl (o_move rfl) ?_
    refine DRQ.v rfl rfl rfl (o_extract rfl rfl) ?_
    refine DRQ.v rfl rfl rfl (o_extract rfl rfl) ?_
    refine DRQ.l 9 rfl rfl rfl rfl (o_alloc Z117) ?_
    refine DRQ.s 9 rfl rfl rfl (o_stag G117 rfl rfl rfl ⟨rfl, rfl, rfl, rfl, rfl, rfl, trivial⟩ rfl rfl) ?_
    refine DRQ.v rfl rfl rfl (o_assign rfl) ?_
    refine DRQ.nil' ?_
    refine EX.then (WP.seq (WP.seq (WP.region ?_)))
    refine WPl.v rfl (o_move rfl) ?_
    refine WPl.v rfl (o_neq rfl rfl) ?_
    refine WPl.nil (EX.then ?_)
    refine WP.cond rfl (fun hc1 => ?_) (fun hc1 => ?_)
    · try simp only [cnd] at hc1
      refine WP.seq (WP.region ?_)
      refine WPl.v rfl (o_move rfl) ?_
      refine WPl.v rfl (o_assign rfl) ?_
      refine WPl.v rfl (o_assign rfl) ?_
      refine WPl.nil (EX.then (WP.ret (EX.ret_then ?_)))
      refine EX.imp (Imp.nam 10 11 (.slice none 0 0) (R := PN EP.int) pn_ok rfl rfl) ?_
      refine EX.imp (Imp.swF 6 10 rfl (lxr rfl)) ?_
      rw [show h.fitL m l = [] from if_neg hf]
      exact EX.fin (ren [(0, 10)]) (.inl rfl) rfl (.tmp rfl (.tmp rfl .nil)) rfl (by simp [SV.res, El.res, At.res, keys]) ⟨lxl rfl, trivial⟩ (by simp) (by simp)
    · try simp only [cnd] at hc1
      exact absurd hc1 hf
theorem w118 {n : Int} : ∀ x ∈ ([.i (n)] : List SV), x.res (keys (α := Pred) []) := by simp [SV.res, El.res, At.res, keys]
theorem r118 {n : Int} : SV.res (keys (α := Pred) []) (.b (!within n 0 20)) := by simp [SV.res, El.res, At.res, keys]
set_option maxHeartbeats 4000000 in
theorem c118 (n : Int)  : Sig Tryz.prog 118 [.i (n)] [] (.b (!within n 0 20)) [] := by
  refine Sig.intro Tryz.func118 rfl 0 [(0, .i (n))] rfl w118 rfl rfl fun I w => ?_
  refine WP.seq (WP.region ?_)
  refine WPl.v rfl (o_assign rfl) ?_
  refine WPl.nil (EX.then (WP.seq (WP.region ?_)))
  refine WPl.v rfl (o_move rfl) ?_
  refine WPl.cs 0 rfl rfl rfl rfl (o_sig 0 id (c79 n 0 20) e79 rfl rfl rfl w79 trivial r79) ?_
  refine WPl.v rfl (o_not rfl) ?_
  refine WPl.v rfl (o_assign rfl) ?_
  refine WPl.nil (EX.then (WP.ret ?_))
  exact EX.fin id (.inl rfl) rfl (.tmp rfl .nil) rfl r118 trivial (by simp) (by simp)
theorem w49 {b : Book} : ∀ x ∈ ([.e (.g [.q 0, .q 1, .q 2, ai (b.hall.change), .q 3, .q 4, .q 5, .q 6, ai (b.boys), .q 7])] : List SV), x.res (keys (α := Pred) [(0, PL ETm (b.hall.machs)), (1, PL EBd (b.hall.buns)), (2, PL EP.int (b.hall.trains)), (3, PL EP.int (b.hall.bores)), (4, PL (EP.sl EP.int) (b.hall.eds)), (5, PL EPl (b.set)), (6, PL EP.int (b.walk)), (7, PL ETa (b.tals))]) := by simp [SV.res, El.res, At.res, keys]
theorem r49 {b : Book} : SV.res (keys (α := Pred) []) (.i (errT b.chk)) := by simp [SV.res, El.res, At.res, keys]
set_option maxHeartbeats 4000000 in
theorem c49 (b : Book) (hm : b.Small) : Sig Tryz.prog 49 [.e (.g [.q 0, .q 1, .q 2, ai (b.hall.change), .q 3, .q 4, .q 5, .q 6, ai (b.boys), .q 7])] [(0, PL ETm (b.hall.machs)), (1, PL EBd (b.hall.buns)), (2, PL EP.int (b.hall.trains)), (3, PL EP.int (b.hall.bores)), (4, PL (EP.sl EP.int) (b.hall.eds)), (5, PL EPl (b.set)), (6, PL EP.int (b.walk)), (7, PL ETa (b.tals))] (.i (errT b.chk)) [] := by
  have hm1 := hm.h.m
  have hm2 := hm.h.b
  have hm3 := hm.h.t
  have hm4 := hm.h.o
  have hm5 := hm.h.e
  have hm6 := hm.s
  have hm7 := hm.w
  have hm8 := hm.t
  refine Sig.intro Tryz.func49 rfl 8 [(0, .e (.g [.q 0, .q 1, .q 2, ai (b.hall.change), .q 3, .q 4, .q 5, .q 6, ai (b.boys), .q 7]))] rfl w49 rfl rfl fun I w => ?_
  refine WP.seq (WP.region ?_)
  refine WPl.l 8 9 rfl rfl rfl (o_boxg rfl) ?_
  refine WPl.v rfl (o_assign rfl) ?_
  refine WPl.nil (EX.then (WP.seq (WP.seq (WP.region ?_))))
  refine WPl.v rfl (o_fldp F33_0 rfl) ?_
  refine WPl.v rfl (o_ldpg G29 rfl rfl rfl) ?_
  refine WPl.v rfl (o_fldp F33_1 rfl) ?_
  refine WPl.v rfl (o_ldp S30 rfl rfl rfl) ?_
  refine WPl.cs 10 rfl rfl rfl rfl (o_sig 9 (ren [(0, 0), (1, 1), (2, 2), (3, 3), (4, 4), (5, 5)]) (c27 b.hall 0 b.set hm.h (by omega)) e27 rfl rfl rfl w27 ⟨(lx rfl), (lx rfl), (lx rfl), (lx rfl), (lx rfl), (lx rfl), trivial⟩ r27) ?_
  refine WPl.v rfl (o_move rfl) ?_
  refine WPl.v rfl (o_extract rfl rfl) ?_
  refine WPl.v rfl (o_extract rfl rfl) ?_
  refine WPl.v rfl (o_assign rfl) ?_
  refine WPl.v rfl (o_assign rfl) ?_
  refine WPl.nil (EX.then (WP.seq (WP.region ?_)))
  refine WPl.v rfl (o_move rfl) ?_
  refine WPl.v rfl (o_neq rfl rfl) ?_
  refine WPl.v rfl (o_move rfl) ?_
  refine WPl.bit 10 11 (!(decide ((b.hall.fitE 0 b.set) ≠ 0))) rfl rfl ?_
  refine WPl.gv 10 rfl rfl (.plain rfl (by first | (simp; done) | simp only [Bool.not_eq_true']) rfl) (fun hb => o_fldp F33_2 rfl) ?_
  refine WPl.gv 10 rfl rfl (.plain rfl (by first | (simp; done) | simp only [Bool.not_eq_true']) rfl) (fun hb => o_ldp S24 rfl rfl rfl) ?_
  refine WPl.gv 10 rfl rfl (.plain rfl (by first | (simp; done) | simp only [Bool.not_eq_true']) rfl) (fun hb => o_lenq L24 rfl (lx rfl)) ?_
  refine WPl.gv 10 rfl rfl (.plain rfl (by first | (simp; done) | simp only [Bool.not_eq_true']) rfl) (fun hb => o_fldp F33_0 rfl) ?_
  refine WPl.gv 10 rfl rfl (.plain rfl (by first | (simp; done) | simp only [Bool.not_eq_true']) rfl) (fun hb => o_fldp F29_1 rfl) ?_
  refine WPl.gv 10 rfl rfl (.plain rfl (by first | (simp; done) | simp only [Bool.not_eq_true']) rfl) (fun hb => o_ldp S24 rfl rfl rfl) ?_
  refine WPl.gv 10 rfl rfl (.plain rfl (by first | (simp; done) | simp only [Bool.not_eq_true']) rfl) (fun hb => o_lenq L24 rfl (lx rfl)) ?_
  refine WPl.gv 10 rfl rfl (.plain rfl (by first | (simp; done) | simp only [Bool.not_eq_true']) rfl) (fun hb => o_neq rfl rfl) ?_
  refine WPl.v rfl (o_or rfl rfl rfl (by first | (simp; done) | exact fun h => by rw [h]; rfl | exact fun h => Bool.and_eq_true_iff.2 ⟨hb, by rw [h]; rfl⟩ | simp_all)) ?_
  refine WPl.v rfl (o_move rfl) ?_
  refine WPl.bit 11 12 (!((decide ((b.hall.fitE 0 b.set) ≠ 0)) || (decide ((b.walk.length : Int) ≠ (b.hall.bores.length : Int))))) rfl rfl ?_
  refine WPl.gv 11 rfl rfl (.plain rfl (by first | (simp; done) | simp only [Bool.not_eq_true']) rfl) (fun hb => o_fldp F33_3 rfl) ?_
  refine WPl.gv 11 rfl rfl (.plain rfl (by first | (simp; done) | simp only [Bool.not_eq_true']) rfl) (fun hb => o_ldp S3 rfl rfl rfl) ?_
  refine WPl.gc0 11 rfl rfl (.plain rfl (by first | (simp; done) | simp only [Bool.not_eq_true']) rfl) (fun hb => o_sig 12 id (c79 b.boys 0 4) e79 rfl rfl rfl w79 trivial r79) ?_
  refine WPl.gv 11 rfl rfl (.plain rfl (by first | (simp; done) | simp only [Bool.not_eq_true']) rfl) (fun hb => o_not rfl) ?_
  refine WPl.v rfl (o_or rfl rfl rfl (by first | (simp; done) | exact fun h => by rw [h]; rfl | exact fun h => Bool.and_eq_true_iff.2 ⟨hb, by rw [h]; rfl⟩ | simp_all)) ?_
  refine WPl.v rfl (o_move rfl) ?_
  refine WPl.bit 12 13 (!(((decide ((b.hall.fitE 0 b.set) ≠ 0)) || (decide ((b.walk.length : Int) ≠ (b.hall.bores.length : Int)))) || (!(within b.boys 0 4)))) rfl rfl ?_
  refine WPl.gv 12 rfl rfl (.plain rfl (by first | (simp; done) | simp only [Bool.not_eq_true']) rfl) (fun hb => o_fldp F33_4 rfl) ?_
  refine WPl.gv 12 rfl rfl (.plain rfl (by first | (simp; done) | simp only [Bool.not_eq_true']) rfl) (fun hb => o_ldp S31 rfl rfl rfl) ?_
  refine WPl.gv 12 rfl rfl (.plain rfl (by first | (simp; done) | simp only [Bool.not_eq_true']) rfl) (fun hb => o_lenq L31 rfl (lx rfl)) ?_
  refine WPl.gv 12 rfl rfl (.plain rfl (by first | (simp; done) | simp only [Bool.not_eq_true']) rfl) (fun hb => o_gtr rfl rfl) ?_
  refine WPl.v rfl (o_or rfl rfl rfl (by first | (simp; done) | exact fun h => by rw [h]; rfl | exact fun h => Bool.and_eq_true_iff.2 ⟨hb, by rw [h]; rfl⟩ | simp_all)) ?_
  refine WPl.nil (EX.then ?_)
  refine WP.cond rfl (fun hc1 => ?_) (fun hc1 => ?_)
  · try simp only [cnd] at hc1
    refine WP.seq (WP.region ?_)
    refine WPl.v rfl (o_assign rfl) ?_
    refine WPl.nil (EX.then (WP.ret (EX.ret_then ?_)))
    rw [show errT b.chk = 110 from by rw [show b.chk = false from by unfold Book.chk; rw [show b.head = false from head_false2 hc1]; simp]; rfl]
    exact EX.fin id (.inl rfl) rfl (.tmp rfl .nil) rfl (by simp [SV.res, El.res, At.res, keys]) trivial (by simp) (by simp)
  · try simp only [cnd] at hc1
    have hhd : b.head = true := head_true2 hc1
    have hbb := head_boys hhd
    have hbl := head_bores hhd
    refine WP.skip (EX.then (WP.seq (WP.seq (WP.region ?_))))
    refine WPl.v rfl (o_fldp F33_2 rfl) ?_
    refine WPl.v rfl (o_ldp S24 rfl rfl rfl) ?_
    refine WPl.imp (Imp.nam 13 14 (.func (.func 118) #[] #[]) (R := (HitI Dom.all (fun x0 => !within x0 0 20)).and (Pred.is (.func (.func 118) #[] #[]))) (fun I => FvP.namee (fun (o : Dom.all.T) => (c118 o.1)) e118 (fun _ => (by simp [SV.res, El.res, At.res, keys])) I) rfl rfl) ?_
    refine WPl.cs 14 rfl rfl rfl rfl (o_sigc 14 (ren [(0, 6), (1, 13)]) (c83 b.walk Dom.all (fun x0 => !within x0 0 20) (by omega) (fun _ _ => trivial)) e83 rfl rfl ⟨.inl rfl, .inr ⟨_, _, rfl, fun _ => rfl, (lxr rfl)⟩, trivial⟩ w83 ⟨(lx rfl), (lxl rfl), trivial⟩ r83) ?_
    refine WPl.nil (EX.then ?_)
    refine WP.cond rfl (fun hc2 => ?_) (fun hc2 => ?_)
    · try simp only [cnd] at hc2
      refine WP.seq (WP.region ?_)
      refine WPl.v rfl (o_assign rfl) ?_
      refine WPl.nil (EX.then (WP.ret (EX.ret_then ?_)))
      rw [show errT b.chk = 110 from by rw [show b.chk = false from by unfold Book.chk; rw [show allI b.walkOK b.walk.length = false from by rw [anyW, Bool.not_eq_true'] at hc2; exact hc2]; simp]; rfl]
      exact EX.fin id (.inl rfl) rfl (.tmp rfl .nil) rfl (by simp [SV.res, El.res, At.res, keys]) trivial (by simp) (by simp)
    · try simp only [cnd] at hc2
      have ha1 : allI b.walkOK b.walk.length = true := by rw [anyW, Bool.not_eq_false'] at hc2; exact hc2
      refine WP.skip (EX.then (WP.seq (WP.seq (WP.region ?_))))
      refine WPl.v rfl (o_fldp F33_4 rfl) ?_
      refine WPl.v rfl (o_ldp S31 rfl rfl rfl) ?_
      refine WPl.v rfl (o_lenq L31 rfl (lx rfl)) ?_
      refine WPl.v rfl (o_move rfl) ?_
      refine WPl.nil (EX.then (WP.block ?_))
      refine WP.loop (Gh := Nat) (fun i => ⟨14, [(1, .e (.a (.p 8 (0)))), (2, .i (0)), (43, .e (.a (.q 7))), (44, .i ((b.tals.length : Int))), (45, .i ((i : Int)))], [(0, PL ETm (b.hall.machs)), (1, PL EBd (b.hall.buns)), (2, PL EP.int (b.hall.trains)), (3, PL EP.int (b.hall.bores)), (4, PL (EP.sl EP.int) (b.hall.eds)), (5, PL EPl (b.set)), (6, PL EP.int (b.walk)), (7, PL ETa (b.tals))], [(8, .blk [.q 0, .q 1, .q 2, ai (b.hall.change), .q 3, .q 4, .q 5, .q 6, ai (b.boys), .q 7] 33)], [], []⟩) (fun i => i ≤ b.tals.length ∧ allI b.talOK i = true) (fun i => b.tals.length - i) (0) id ?_ (LeR.of ⟨rfl, rfl, rfl, rfl, rfl, trivial⟩ ⟨(lx rfl), (lx rfl), (lx rfl), (lx rfl), (lx rfl), (lx rfl), (lx rfl), (lx rfl), trivial⟩ ⟨rfl, trivial⟩ rfl rfl rfl rfl rfl) ?_
      · exact ⟨by omega, rfl⟩
      intro i hφ
      have hi : i ≤ b.tals.length := hφ.1
      have hall := hφ.2
      refine WP.seq (WP.region ?_)
      refine WPl.v rfl (o_lss rfl rfl) ?_
      refine WPl.nil (EX.then (WP.seq ?_))
      refine WP.cond rfl (fun hc3 => ?_) (fun hc3 => ?_)
      · try simp only [cnd] at hc3
        refine WP.skip (EX.then (WP.seq (WP.block (WP.seq (WP.region ?_)))))
        refine WPl.x 14 15 rfl rfl rfl (o_idx L31 rfl (lx rfl) rfl (by first | omega | (simp; omega)) (by first | omega | (simp; omega))) ?_
        refine WPl.v rfl (o_ldqg G58 rfl (lx rfl) (strG rfl) rfl rfl) ?_
        refine WPl.l 15 16 rfl rfl rfl (o_alloc Z58) ?_
        refine WPl.s1 (o_stag G58 rfl rfl rfl ⟨rfl, rfl, rfl, rfl, trivial⟩ rfl rfl) ?_
        refine WPl.nil (EX.then (WP.seq (WP.region ?_)))
        refine WPl.v rfl (o_fldp F58_0 rfl) ?_
        refine WPl.v rfl (o_ldp S3 rfl rfl rfl) ?_
        refine WPl.v rfl (o_fldp F33_3 rfl) ?_
        refine WPl.v rfl (o_ldp S3 rfl rfl rfl) ?_
        refine WPl.v rfl (o_sub rfl rfl (by first | omega | (simp; omega)) (by first | omega | (simp; omega))) ?_
        refine WPl.cs 16 rfl rfl rfl rfl (o_sig 16 id (c79 ((nth b.tals (i : Int)).boy) 0 (b.boys - 1)) e79 rfl rfl rfl w79 trivial r79) ?_
        refine WPl.v rfl (o_not rfl) ?_
        refine WPl.v rfl (o_move rfl) ?_
        refine WPl.bit 16 17 (!(!(within ((nth b.tals (i : Int)).boy) 0 (b.boys - 1)))) rfl rfl ?_
        refine WPl.gv 16 rfl rfl (.plain rfl (by first | (simp; done) | simp only [Bool.not_eq_true']) rfl) (fun hb => o_fldp F58_1 rfl) ?_
        refine WPl.gv 16 rfl rfl (.plain rfl (by first | (simp; done) | simp only [Bool.not_eq_true']) rfl) (fun hb => o_ldp S3 rfl rfl rfl) ?_
        refine WPl.gc0 16 rfl rfl (.plain rfl (by first | (simp; done) | simp only [Bool.not_eq_true']) rfl) (fun hb => o_sig 17 id (c103 ((nth b.tals (i : Int)).page)) e103 rfl rfl rfl w103 trivial r103) ?_
        refine WPl.gv 16 rfl rfl (.plain rfl (by first | (simp; done) | simp only [Bool.not_eq_true']) rfl) (fun hb => o_not rfl) ?_
        refine WPl.v rfl (o_or rfl rfl rfl (by first | (simp; done) | exact fun h => by rw [h]; rfl | exact fun h => Bool.and_eq_true_iff.2 ⟨hb, by rw [h]; rfl⟩ | simp_all)) ?_
        refine WPl.v rfl (o_move rfl) ?_
        refine WPl.bit 17 18 (!((!(within ((nth b.tals (i : Int)).boy) 0 (b.boys - 1))) || (!(within ((nth b.tals (i : Int)).page) 0 3)))) rfl rfl ?_
        refine WPl.gv 17 rfl rfl (.plain rfl (by first | (simp; done) | simp only [Bool.not_eq_true']) rfl) (fun hb => o_ldpa G33 rfl rfl rfl) ?_
        refine WPl.gv 17 rfl rfl (.plain rfl (by first | (simp; done) | simp only [Bool.not_eq_true']) rfl) (fun hb => o_fldp F58_2 rfl) ?_
        refine WPl.gv 17 rfl rfl (.plain rfl (by first | (simp; done) | simp only [Bool.not_eq_true']) rfl) (fun hb => o_ldp S3 rfl rfl rfl) ?_
        refine WPl.gc0 17 rfl rfl (.plain rfl (by first | (simp; done) | simp only [Bool.not_eq_true']) rfl) (fun hb => o_sig 18 (ren [(0, 0), (1, 1), (2, 2), (3, 3), (4, 4), (5, 5), (6, 6), (7, 7)]) (c78 b ((nth b.tals (i : Int)).mach) (by omega)) e78 rfl rfl rfl w78 ⟨(lx rfl), (lx rfl), (lx rfl), (lx rfl), (lx rfl), (lx rfl), (lx rfl), (lx rfl), trivial⟩ r78) ?_
        refine WPl.gv 17 rfl rfl (.plain rfl (by first | (simp; done) | simp only [Bool.not_eq_true']) rfl) (fun hb => o_not rfl) ?_
        refine WPl.v rfl (o_or rfl rfl rfl (by first | (simp; done) | exact fun h => by rw [h]; rfl | exact fun h => Bool.and_eq_true_iff.2 ⟨hb, by rw [h]; rfl⟩ | simp_all)) ?_
        refine WPl.v rfl (o_move rfl) ?_
        refine WPl.bit 18 19 (!(((!(within ((nth b.tals (i : Int)).boy) 0 (b.boys - 1))) || (!(within ((nth b.tals (i : Int)).page) 0 3))) || (!(within ((nth b.tals (i : Int)).mach) 0 ((b.hall.bores.length : Int) - 1))))) rfl rfl ?_
        refine WPl.gv 18 rfl rfl (.plain rfl (by first | (simp; done) | simp only [Bool.not_eq_true']) rfl) (fun hb => o_fldp F58_3 rfl) ?_
        refine WPl.gv 18 rfl rfl (.plain rfl (by first | (simp; done) | simp only [Bool.not_eq_true']) rfl) (fun hb => o_ldp S3 rfl rfl rfl) ?_
        refine WPl.gc0 18 rfl rfl (.plain rfl (by first | (simp; done) | simp only [Bool.not_eq_true']) rfl) (fun hb => o_sig 19 id (c80 ((nth b.tals (i : Int)).min)) e80 rfl rfl rfl w80 trivial r80) ?_
        refine WPl.gv 18 rfl rfl (.plain rfl (by first | (simp; done) | simp only [Bool.not_eq_true']) rfl) (fun hb => o_not rfl) ?_
        refine WPl.v rfl (o_or rfl rfl rfl (by first | (simp; done) | exact fun h => by rw [h]; rfl | exact fun h => Bool.and_eq_true_iff.2 ⟨hb, by rw [h]; rfl⟩ | simp_all)) ?_
        refine WPl.nil (EX.then ?_)
        refine WP.cond rfl (fun hc4 => ?_) (fun hc4 => ?_)
        · try simp only [cnd] at hc4
          refine WP.seq (WP.region ?_)
          refine WPl.v rfl (o_assign rfl) ?_
          refine WPl.nil (EX.then (WP.ret (EX.ret_blk (EX.ret_then (EX.ret_then (EX.ret_blk (EX.ret_then ?_)))))))
          rw [show errT b.chk = 110 from by rw [show b.chk = false from by unfold Book.chk; rw [show allI b.talOK b.tals.length = false from not_allI (show i < b.tals.length by omega) (by unfold Book.talOK Tal.chk; rw [hbl] at hc4; simp only [Bool.and_eq_false_iff]; exact hc4)]; simp]; rfl]
          exact EX.fin id (.inl rfl) rfl (.tmp rfl .nil) rfl (by simp [SV.res, El.res, At.res, keys]) trivial (by simp) (by simp)
        · try simp only [cnd] at hc4
          refine WP.skip (EX.blk (EX.then (WP.region ?_)))
          refine WPl.v rfl (o_add rfl rfl (by first | omega | (simp; omega)) (by first | omega | (simp; omega))) ?_
          refine WPl.v rfl (o_move rfl) ?_
          refine WPl.nil ?_
          refine EX.again (i + 1) id (by exact ⟨by omega, by simp only [allI, hall, Bool.true_and]; rw [hbl] at hc4; simpa [Book.talOK, Tal.chk, and_assoc] using hc4⟩) (by omega) (LeR.of ⟨rfl, rfl, rfl, rfl, rfl, trivial⟩ ⟨(lx rfl), (lx rfl), (lx rfl), (lx rfl), (lx rfl), (lx rfl), (lx rfl), (lx rfl), trivial⟩ ⟨rfl, trivial⟩ rfl rfl rfl rfl rfl)
      · try simp only [cnd] at hc3
        refine WP.exit (EX.exit_then (EX.exit_then (EX.exit_blk (EX.then (WP.seq (WP.region ?_))))))
        refine WPl.v rfl (o_assign rfl) ?_
        refine WPl.nil (EX.then (WP.ret ?_))
        rw [show errT b.chk = 0 from errT_eq.2 (by unfold Book.chk; rw [hhd, ha1, show allI b.talOK b.tals.length = true from by rw [show b.tals.length = i by omega]; exact hall]; rfl)]
        exact EX.fin id (.inl rfl) rfl (.tmp rfl .nil) rfl (by simp [SV.res, El.res, At.res, keys]) trivial (by simp) (by simp)
end Go.Flong
namespace Go.Flong
open Go Go.Eng Go.Proofs
theorem A178 : IsArr Tryz.prog 178 5 64 := ⟨Tryz.underlying178, Tryz.sizeOf5⟩
theorem S5 : TyS Tryz.prog 5 := ⟨Tryz.isAgg5, Tryz.sizeOf5⟩
theorem e161 : Enters' Tryz.prog 161 := Tryz.call161
theorem e153 : Enters' Tryz.prog 153 := Tryz.call153
theorem e143 : Enters' Tryz.prog 143 := Tryz.call143
theorem w161 {s : Nat} : ∀ x ∈ ([.e (.a (.v (.int .u64 (s : Int))))] : List SV), x.res (keys (α := Pred) [(0, (Pred.tab 1 tz64))]) := by simp [SV.res, El.res, At.res, keys]
theorem r161 {s : Nat} : SV.res (keys (α := Pred) []) (.i (nth (bitsL s) 0)) := by simp [SV.res, El.res, At.res, keys]
set_option maxHeartbeats 4000000 in
theorem c161 (s : Nat) (h0 : 0 < s) (h : s < 256) : Sig Tryz.prog 161 [.e (.a (.v (.int .u64 (s : Int))))] [(0, (Pred.tab 1 tz64))] (.i (nth (bitsL s) 0)) [] := by
  refine Sig.intro Tryz.func161 rfl 1 [(0, .e (.a (.v (.int .u64 (s : Int)))))] rfl w161 rfl rfl fun I w => ?_
  refine WP.seq (WP.region ?_)
  refine WPl.v rfl (o_assign rfl) ?_
  refine WPl.nil (EX.then (WP.seq (WP.seq (WP.region ?_))))
  refine WPl.v rfl (o_move rfl) ?_
  refine WPl.v rfl (o_ueq rfl rfl) ?_
  refine WPl.nil (EX.then ?_)
  refine WP.cond rfl (fun hc1 => ?_) (fun hc1 => ?_)
  · try simp only [cnd] at hc1
    omega
  · try simp only [cnd] at hc1
    refine WP.skip (EX.then (WP.seq (WP.region ?_)))
    refine WPl.v rfl (o_move rfl) ?_
    refine WPl.v rfl (o_move rfl) ?_
    refine WPl.v rfl (o_uneg rfl) ?_
    refine WPl.v rfl (o_ua rfl rfl (by simp)) ?_
    refine WPl.v rfl (o_ua rfl rfl (by simp)) ?_
    refine WPl.v rfl (o_ush rfl rfl (by first | omega | (simp; omega)) (by simp)) ?_
    refine WPl.v rfl (o_gtab A178 rfl (tz_ok h0 h).1 (tz_ok h0 h).2.1) ?_
    refine WPl.v rfl (o_ldtab (q := 0) (t := tz64) S5 rfl (lx rfl) (show (tzI s).toNat < 64 from by have := tz_ok h0 h; omega)) ?_
    refine WPl.v rfl (o_convv (r := nth (bitsL s) 0) Tryz.underlying5 Tryz.underlying3 rfl (by have := tz_ok h0 h; show IntKind.i64.wrap (tz64.getD (tzI s).toNat 0) = _; rw [this.2.2.1]; exact wrap8 this.2.2.2.1 this.2.2.2.2)) ?_
    refine WPl.v rfl (o_assign rfl) ?_
    refine WPl.nil (EX.then (WP.ret ?_))
    exact EX.fin id (.inl rfl) rfl (.tmp rfl .nil) rfl r161 trivial (by simp) (by simp)
theorem w143 {s : Nat} : ∀ x ∈ ([.e (.a (.v (.int .u64 (s : Int))))] : List SV), x.res (keys (α := Pred) [(0, (Pred.tab 1 tz64))]) := by simp [SV.res, El.res, At.res, keys]
theorem r143 {s : Nat} : SV.res (keys (α := Pred) []) (.i (nth (bitsL s) 0)) := by simp [SV.res, El.res, At.res, keys]
set_option maxHeartbeats 4000000 in
theorem c143 (s : Nat) (h0 : 0 < s) (h : s < 256) : Sig Tryz.prog 143 [.e (.a (.v (.int .u64 (s : Int))))] [(0, (Pred.tab 1 tz64))] (.i (nth (bitsL s) 0)) [] := by
  refine Sig.intro Tryz.func143 rfl 1 [(0, .e (.a (.v (.int .u64 (s : Int)))))] rfl w143 rfl rfl fun I w => ?_
  refine WP.seq (WP.region ?_)
  refine WPl.v rfl (o_assign rfl) ?_
  refine WPl.nil (EX.then (WP.seq ?_))
  refine WP.cond rfl (fun h => by cases h) (fun _ => ?_)
  refine WP.skip (EX.then (WP.seq (WP.region ?_)))
  refine WPl.v rfl (o_move rfl) ?_
  refine WPl.cs 1 rfl rfl rfl rfl (o_sig 1 (ren [(0, 0)]) (c161 s h0 h) e161 rfl rfl rfl w161 ⟨(lx rfl), trivial⟩ r161) ?_
  refine WPl.v rfl (o_assign rfl) ?_
  refine WPl.nil (EX.then (WP.ret ?_))
  exact EX.fin id (.inl rfl) rfl (.tmp rfl .nil) rfl r143 trivial (by simp) (by simp)
theorem w153 {s : Nat} : ∀ x ∈ ([.e (.a (.v (.int .u64 (s : Int))))] : List SV), x.res (keys (α := Pred) []) := by simp [SV.res, El.res, At.res, keys]
theorem r153 {s : Nat} : SV.res (keys (α := Pred) []) (.i ((popc s : Int))) := by simp [SV.res, El.res, At.res, keys]
set_option maxHeartbeats 4000000 in
theorem c153 (s : Nat) (h : s < 256) : Sig Tryz.prog 153 [.e (.a (.v (.int .u64 (s : Int))))] [] (.i ((popc s : Int))) [] := by
  refine Sig.intro Tryz.func153 rfl 0 [(0, .e (.a (.v (.int .u64 (s : Int)))))] rfl w153 rfl rfl fun I w => ?_
  refine WP.seq (WP.region ?_)
  refine WPl.v rfl (o_assign rfl) ?_
  refine WPl.nil (EX.then (WP.seq (WP.region ?_)))
  refine WPl.v rfl (o_move rfl) ?_
  refine WPl.v rfl (o_ush rfl rfl (by first | omega | (simp; omega)) (by simp)) ?_
  refine WPl.v rfl (o_ua rfl rfl (by simp)) ?_
  refine WPl.v rfl (o_move rfl) ?_
  refine WPl.v rfl (o_ua rfl rfl (by simp)) ?_
  refine WPl.v rfl (o_ua rfl rfl (by simp)) ?_
  refine WPl.v rfl (o_assign rfl) ?_
  refine WPl.nil (EX.then (WP.seq (WP.region ?_)))
  refine WPl.v rfl (o_move rfl) ?_
  refine WPl.v rfl (o_ush rfl rfl (by first | omega | (simp; omega)) (by simp)) ?_
  refine WPl.v rfl (o_ua rfl rfl (by simp)) ?_
  refine WPl.v rfl (o_move rfl) ?_
  refine WPl.v rfl (o_ua rfl rfl (by simp)) ?_
  refine WPl.v rfl (o_ua rfl rfl (by simp)) ?_
  refine WPl.v rfl (o_assign rfl) ?_
  refine WPl.nil (EX.then (WP.seq (WP.region ?_)))
  refine WPl.v rfl (o_move rfl) ?_
  refine WPl.v rfl (o_ush rfl rfl (by first | omega | (simp; omega)) (by simp)) ?_
  refine WPl.v rfl (o_move rfl) ?_
  refine WPl.v rfl (o_ua rfl rfl (by simp)) ?_
  refine WPl.v rfl (o_ua rfl rfl (by simp)) ?_
  refine WPl.v rfl (o_assign rfl) ?_
  refine WPl.nil (EX.then (WP.seq (WP.region ?_)))
  refine WPl.v rfl (o_move rfl) ?_
  refine WPl.v rfl (o_move rfl) ?_
  refine WPl.v rfl (o_ush rfl rfl (by first | omega | (simp; omega)) (by simp)) ?_
  refine WPl.v rfl (o_ua rfl rfl (by simp)) ?_
  refine WPl.v rfl (o_assign rfl) ?_
  refine WPl.nil (EX.then (WP.seq (WP.region ?_)))
  refine WPl.v rfl (o_move rfl) ?_
  refine WPl.v rfl (o_move rfl) ?_
  refine WPl.v rfl (o_ush rfl rfl (by first | omega | (simp; omega)) (by simp)) ?_
  refine WPl.v rfl (o_ua rfl rfl (by simp)) ?_
  refine WPl.v rfl (o_assign rfl) ?_
  refine WPl.nil (EX.then (WP.seq (WP.region ?_)))
  refine WPl.v rfl (o_move rfl) ?_
  refine WPl.v rfl (o_move rfl) ?_
  refine WPl.v rfl (o_ush rfl rfl (by first | omega | (simp; omega)) (by simp)) ?_
  refine WPl.v rfl (o_ua rfl rfl (by simp)) ?_
  refine WPl.v rfl (o_assign rfl) ?_
  refine WPl.nil (EX.then (WP.seq (WP.region ?_)))
  refine WPl.v rfl (o_move rfl) ?_
  refine WPl.v rfl (o_convv (r := (popc s : Int)) Tryz.underlying162 Tryz.underlying3 rfl (by show IntKind.i64.wrap (o6 (o5 (o4 (o3 (o2 (o1 (s : Int))))))) = _; rw [(oc_ok h).1]; exact (popc_and (oc_ok h).2).2)) ?_
  refine WPl.v rfl (o_iand rfl rfl (popc_and (oc_ok h).2).1) ?_
  refine WPl.v rfl (o_assign rfl) ?_
  refine WPl.nil (EX.then (WP.ret ?_))
  exact EX.fin id (.inl rfl) rfl (.tmp rfl .nil) rfl r153 trivial (by simp) (by simp)
theorem w131 {s : Nat} : ∀ x ∈ ([.e (.a (.v (.int .u64 (s : Int))))] : List SV), x.res (keys (α := Pred) []) := by simp [SV.res, El.res, At.res, keys]
theorem r131 {s : Nat} : SV.res (keys (α := Pred) []) (.i ((popc s : Int))) := by simp [SV.res, El.res, At.res, keys]
set_option maxHeartbeats 4000000 in
theorem c131 (s : Nat) (h : s < 256) : Sig Tryz.prog 131 [.e (.a (.v (.int .u64 (s : Int))))] [] (.i ((popc s : Int))) [] := by
  refine Sig.intro Tryz.func131 rfl 0 [(0, .e (.a (.v (.int .u64 (s : Int)))))] rfl w131 rfl rfl fun I w => ?_
  refine WP.seq (WP.region ?_)
  refine WPl.v rfl (o_assign rfl) ?_
  refine WPl.nil (EX.then (WP.seq ?_))
  refine WP.cond rfl (fun h => by cases h) (fun _ => ?_)
  refine WP.skip (EX.then (WP.seq (WP.region ?_)))
  refine WPl.v rfl (o_move rfl) ?_
  refine WPl.cs 0 rfl rfl rfl rfl (o_sig 0 id (c153 s h) e153 rfl rfl rfl w153 trivial r153) ?_
  refine WPl.v rfl (o_assign rfl) ?_
  refine WPl.nil (EX.then (WP.ret ?_))
  exact EX.fin id (.inl rfl) rfl (.tmp rfl .nil) rfl r131 trivial (by simp) (by simp)
theorem w85 {s : Nat} {n : Int} : ∀ x ∈ ([.e (.a (.v (.int .u64 (s : Int)))), .i (n)] : List SV), x.res (keys (α := Pred) []) := by simp [SV.res, El.res, At.res, keys]
theorem r85 {s : Nat} {n : Int} : SV.res (keys (α := Pred) []) (.b (s.testBit n.toNat)) := by simp [SV.res, El.res, At.res, keys]
set_option maxHeartbeats 4000000 in
theorem c85 (s : Nat) (n : Int) (h : s < 256) (h0 : 0 ≤ n) (h8 : n < 8) : Sig Tryz.prog 85 [.e (.a (.v (.int .u64 (s : Int)))), .i (n)] [] (.b (s.testBit n.toNat)) [] := by
  refine Sig.intro Tryz.func85 rfl 0 [(0, .e (.a (.v (.int .u64 (s : Int))))), (1, .i (n))] rfl w85 rfl rfl fun I w => ?_
  refine WP.seq (WP.region ?_)
  refine WPl.v rfl (o_assign rfl) ?_
  refine WPl.nil (EX.then (WP.seq (WP.region ?_)))
  refine WPl.v rfl (o_move rfl) ?_
  refine WPl.v rfl (o_move rfl) ?_
  refine WPl.v rfl (o_ush rfl rfl (by first | omega | (simp; omega)) (by simp)) ?_
  refine WPl.v rfl (o_ua rfl rfl (by simp)) ?_
  refine WPl.v rfl (o_ueq rfl rfl) ?_
  refine WPl.v rfl (o_assign rfl) ?_
  refine WPl.nil (EX.then (WP.ret ?_))
  rw [← has_ok h h0 h8]
  exact EX.fin id (.inl rfl) rfl (.tmp rfl .nil) rfl (by simp [SV.res, El.res, At.res, keys]) trivial (by simp) (by simp)
theorem w99 {s : Nat} : ∀ x ∈ ([.e (.a (.v (.int .u64 (s : Int))))] : List SV), x.res (keys (α := Pred) [(0, (Pred.tab 1 tz64))]) := by simp [SV.res, El.res, At.res, keys]
theorem r99 {s : Nat} : SV.res (keys (α := Pred) [(0, PL EP.int (bitsL s))]) (.e (.a (.q 0))) := by simp [SV.res, El.res, At.res, keys]
set_option maxHeartbeats 4000000 in
theorem c99 (s : Nat) (h : s < 256) : Sig Tryz.prog 99 [.e (.a (.v (.int .u64 (s : Int))))] [(0, (Pred.tab 1 tz64))] (.e (.a (.q 0))) [(0, PL EP.int (bitsL s))] := by
  refine Sig.intro Tryz.func99 rfl 1 [(0, .e (.a (.v (.int .u64 (s : Int)))))] rfl w99 rfl rfl fun I w => ?_
  refine WP.seq (WP.region ?_)
  refine WPl.v rfl (o_assign rfl) ?_
  refine WPl.nil (EX.then (WP.seq (WP.region ?_)))
  refine WPl.v rfl (o_assign rfl) ?_
  refine WPl.imp (Imp.namo EP.int 1 2 3 rfl rfl) ?_
  refine WPl.imp (Imp.swF 3 1 rfl (lx rfl)) ?_
  refine WPl.nil (EX.then (WP.seq (WP.block ?_)))
  refine WP.loop (Gh := Nat) (fun i => ⟨2, [(0, .e (.a (.v (.int .u64 (dropL s i : Int))))), (2, .e (.a (.v (.slice none 0 0)))), (3, .e (.a (.q 1)))], [(0, (Pred.tab 1 tz64))], [(1, .own 3 EP.int.size ((bitsL s).take i).length (RP EP.int ((bitsL s).take i)))], [], []⟩) (fun i => i ≤ (bitsL s).length) (fun i => (bitsL s).length - i) (0) id ?_ (LeR.of ⟨rfl, rfl, rfl, trivial⟩ ⟨(lx rfl), trivial⟩ ⟨(congrArg (fun z => some (Ent.own 3 EP.int.size (List.length z) (RP EP.int z))) (show ([]) = ((fun i => (bitsL s).take i) 0) from by simp)), trivial⟩ rfl rfl rfl rfl rfl) ?_
  · first | trivial | omega | (constructor <;> omega) | simp
  intro i hφ
  have hi : i ≤ (bitsL s).length := hφ
  have hd := drop_ok h hi
  refine WP.seq (WP.seq (WP.region ?_))
  refine WPl.v rfl (o_move rfl) ?_
  refine WPl.v rfl (o_une rfl rfl) ?_
  refine WPl.nil (EX.then ?_)
  refine WP.cond rfl (fun hc1 => ?_) (fun hc1 => ?_)
  · try simp only [cnd] at hc1
    have hd3 := hd.2.2 (by omega)
    have hlt : i < (bitsL s).length := by have := hd.2.1; omega
    refine WP.skip (EX.then (WP.seq (WP.block (WP.region ?_))))
    refine WPl.v rfl (o_move rfl) ?_
    refine WPl.v rfl (o_move rfl) ?_
    refine WPl.cs 2 rfl rfl rfl rfl (o_sig 2 (ren [(0, 0)]) (c143 (dropL s i) (by omega) hd.1) e143 rfl rfl rfl w143 ⟨(lx rfl), trivial⟩ r143) ?_
    refine WPl.l 2 3 rfl rfl rfl (o_bsl (E := EP.int) (l := [nth (bitsL (dropL s i)) 0]) R24 rfl rfl (.cons (rfl) rfl (eok_int) (.nil)) rfl rfl) ?_
    refine WPl.u1 (k := 3) (m := 4) rfl rfl rfl (o_appo R24 EP.int_one rfl rfl rfl rfl (by have := bitsL_len s; first | omega | (simp; omega)) (by have := bitsL_len s; first | omega | (simp; omega))) ?_
    refine WPl.v rfl (o_assign rfl) ?_
    refine WPl.nil (EX.blk (EX.then (WP.region ?_)))
    refine WPl.v rfl (o_move rfl) ?_
    refine WPl.v rfl (o_move rfl) ?_
    refine WPl.v rfl (o_ua rfl rfl (by simp)) ?_
    refine WPl.v rfl (o_ua rfl rfl (by simp)) ?_
    refine WPl.v rfl (o_assign rfl) ?_
    refine WPl.nil ?_
    refine EX.again (i + 1) (ren [(1, 3)]) (by first | omega | (constructor <;> omega)) (by omega) (LeR.of ⟨(congrArg (fun z => some (SV.e (El.a (At.v (Value.int .u64 z))))) (show (ui .and (dropL s i : Int) (ui .sub (dropL s i : Int) 1)) = (fun i => (dropL s i : Int)) (i + 1) from by dsimp only; exact hd3.2)), rfl, rfl, trivial⟩ ⟨(lx rfl), trivial⟩ ⟨(congrArg (fun z => some (Ent.own 3 EP.int.size (List.length z) (RP EP.int z))) (show (((bitsL s).take i) ++ [nth (bitsL (dropL s i)) 0]) = ((fun i => (bitsL s).take i) (i + 1)) from by dsimp only; rw [hd3.1]; exact take_snoc hlt)), trivial⟩ rfl rfl rfl rfl rfl)
  · try simp only [cnd] at hc1
    have hie : i = (bitsL s).length := hd.2.1.1 (by omega)
    refine WP.exit (EX.exit_then (EX.exit_then (EX.exit_blk (EX.then (WP.seq (WP.region ?_))))))
    refine WPl.v rfl (o_move rfl) ?_
    refine WPl.v rfl (o_assign rfl) ?_
    refine WPl.nil (EX.then (WP.ret ?_))
    refine EX.imp (Imp.frz (E := EP.int) (l := (bitsL s).take i) 1 rfl rfl) ?_
    rw [hie, List.take_length]
    exact EX.fin (ren [(0, 1)]) (.inl rfl) rfl (.tmp rfl .nil) rfl (by simp [SV.res, El.res, At.res, keys]) ⟨(lx rfl), trivial⟩ (by simp) (by simp)
end Go.Flong
namespace Go.Flong
open Go Go.Eng Go.Proofs
theorem Z127 : Zero Tryz.prog 127 [ai (0), ai (0)] := .mk Tryz.zeroValue127 rfl rfl
theorem F109_0 : Fld Tryz.prog 109 0 0 := .mk Tryz.underlying109 rfl rfl rfl Tryz.sizeOf33 rfl
theorem B127 : BldT Tryz.prog 127 [(0, 1), (1, 1)] [.int .i64 0, .int .i64 0] := BldT.mk (ns := [1, 1]) Tryz.underlying127 ⟨Tryz.sizeOf3, Tryz.sizeOf3, trivial⟩ rfl Tryz.zeroValue127 rfl
theorem G127 : TyG Tryz.prog 127 2 := ⟨Tryz.isAgg127, Tryz.sizeOf127⟩
theorem Q3 : FlatT Tryz.prog 3 1 1 false := .int Tryz.underlying3 S3
theorem Q127 : FlatT Tryz.prog 127 2 2 true := .struct Tryz.underlying127 Tryz.stoodInHeld127 G127 ⟨by decide, rfl, 1, false, Q3, ⟨by decide, rfl, 1, false, Q3, rfl⟩⟩
theorem e162 : Enters' Tryz.prog 162 := Tryz.call162
theorem M125 : MapT Tryz.prog 125 2 2 true := .struct Tryz.underlying125 (by simp only [Tryz.underlying127]) Q127 rfl Tryz.zeroValue3
theorem e98 : Enters' Tryz.prog 98 := Tryz.call98
theorem e145 : Enters' Tryz.prog 145 := Tryz.call145
theorem w162 {m n : Int} : ∀ x ∈ ([.i (m), .i (n)] : List SV), x.res (keys (α := Pred) []) := by simp [SV.res, El.res, At.res, keys]
theorem r162 {m n : Int} : SV.res (keys (α := Pred) []) (.i (max (m - n) (n - m))) := by simp [SV.res, El.res, At.res, keys]
set_option maxHeartbeats 4000000 in
theorem c162 (m n : Int) (hx : -1000000 ≤ m ∧ m ≤ 1000000) (hy : -1000000 ≤ n ∧ n ≤ 1000000) : Sig Tryz.prog 162 [.i (m), .i (n)] [] (.i (max (m - n) (n - m))) [] := by
  refine Sig.intro Tryz.func162 rfl 0 [(0, .i (m)), (1, .i (n))] rfl w162 rfl rfl fun I w => ?_
  refine WP.seq (WP.region ?_)
  refine WPl.v rfl (o_assign rfl) ?_
  refine WPl.nil (EX.then (WP.seq (WP.region ?_)))
  refine WPl.v rfl (o_move rfl) ?_
  refine WPl.v rfl (o_move rfl) ?_
  refine WPl.v rfl (o_sub rfl rfl (by first | omega | (simp; omega)) (by first | omega | (simp; omega))) ?_
  refine WPl.v rfl (o_move rfl) ?_
  refine WPl.v rfl (o_move rfl) ?_
  refine WPl.v rfl (o_sub rfl rfl (by first | omega | (simp; omega)) (by first | omega | (simp; omega))) ?_
  refine WPl.v rfl (o_max rfl rfl) ?_
  refine WPl.v rfl (o_assign rfl) ?_
  refine WPl.nil (EX.then (WP.ret ?_))
  exact EX.fin id (.inl rfl) rfl (.tmp rfl .nil) rfl r162 trivial (by simp) (by simp)
theorem w98 {b : Book} {t : Tal} : ∀ x ∈ ([.e (.a (.q 0)), .e (.g [ai (t.boy), ai (t.page), ai (t.mach), ai (t.min)])] : List SV), x.res (keys (α := Pred) [(0, PP EBk (b))]) := by simp [SV.res, El.res, At.res, keys]
theorem r98 {b : Book} {t : Tal} : SV.res (keys (α := Pred) []) (.e (.g [ai (t.page), ai (nth b.hall.bores t.mach)])) := by simp [SV.res, El.res, At.res, keys]
set_option maxHeartbeats 4000000 in
theorem c98 (b : Book) (t : Tal) (hm : 0 ≤ t.mach ∧ t.mach < b.hall.bores.length) : Sig Tryz.prog 98 [.e (.a (.q 0)), .e (.g [ai (t.boy), ai (t.page), ai (t.mach), ai (t.min)])] [(0, PP EBk (b))] (.e (.g [ai (t.page), ai (nth b.hall.bores t.mach)])) [] := by
  refine Sig.intro Tryz.func98 rfl 1 [(0, .e (.a (.q 0))), (1, .e (.g [ai (t.boy), ai (t.page), ai (t.mach), ai (t.min)]))] rfl w98 rfl rfl fun I w => ?_
  refine WP.seq (WP.region ?_)
  refine WPl.l 1 2 rfl rfl rfl (o_boxg rfl) ?_
  refine WPl.l 2 3 rfl rfl rfl (o_alloc Z127) ?_
  refine WPl.nil (EX.then (WP.seq ?_))
  refine WP.draw (nf := 5) [⟨[7, 8, 9, 10, 11, 12, 13, 14, 15, 16], [3, 4], [], [], []⟩, ⟨[7, 8, 9, 10, 11, 12, 13, 14, 15, 16], [3, 4], [], [], [0]⟩, ⟨[5, 6, 13, 14], [], [], [], []⟩, ⟨[5, 6, 13, 14], [], [], [], [2]⟩, ⟨[5, 6, 13, 14], [], [], [], [2, 3]⟩, ⟨[5, 6, 13, 14], [], [], [], [2, 3, 4]⟩, ⟨[5, 6, 13, 14], [], [], [], [2, 3, 4, 5]⟩, ⟨[5, 6, 13, 14], [], [3], [3], [2, 3, 4, 5, 6]⟩, ⟨[5, 6, 7, 8, 9, 10, 11, 12], [3], [], [], []⟩, ⟨[5, 6, 7, 8, 9, 10, 11, 12], [3], [], [], [8]⟩, ⟨[5, 6], [], [4], [4], [2, 3, 4, 5, 6, 7, 8, 9]⟩, ⟨[5, 6], [], [], [], [2, 3, 4, 5, 6, 7, 8, 9, 10]⟩, ⟨[], [], [], [], [0, 1, 2, 3, 4, 5, 6, 7, 8, 9, 10, 11]⟩, ⟨[], [], [], [2], [0, 1, 2, 3, 4, 5, 6, 7, 8, 9, 10, 11, 12]⟩] (by kernel_rfl) (by kernel_rfl) ?_
  refine DRQ.v rfl rfl rfl (o_fldp F58_1 rfl) ?_
  refine DRQ.v rfl rfl rfl (o_ldp S3 rfl rfl rfl) ?_
  refine DRQ.v rfl rfl rfl (o_move rfl) ?_
  refine DRQ.v rfl rfl rfl (o_nilq rfl (lx rfl)) ?_
  refine DRQ.v rfl rfl rfl (o_fldq F109_0 rfl (lx rfl)) ?_
  refine DRQ.v rfl rfl rfl (o_flde F33_0 rfl (lx rfl)) ?_
  refine DRQ.v rfl rfl rfl (o_flde F29_1 rfl (lx rfl)) ?_
  refine DRQ.x 3 rfl rfl rfl rfl (o_ldex S24 rfl (lx rfl) (strS rfl)) ?_
  refine DRQ.v rfl rfl rfl (o_fldp F58_2 rfl) ?_
  refine DRQ.v rfl rfl rfl (o_ldp S3 rfl rfl rfl) ?_
  refine DRQ.x 4 rfl rfl rfl rfl (o_idx L24 rfl (lx rfl) rfl (by first | omega | (simp; omega)) (by first | omega | (simp; omega))) ?_
  refine DRQ.v rfl rfl rfl (o_ldq S3 rfl (lx rfl) intc) ?_
  refine DRQ.v rfl rfl rfl (o_build B127 rfl ⟨rfl, rfl, trivial⟩ rfl rfl) ?_
  refine DRQ.s 2 rfl rfl rfl (o_stag G127 rfl rfl rfl ⟨rfl, rfl, trivial⟩ rfl rfl) ?_
  refine DRQ.nil' ?_
  refine EX.then (WP.ret ?_)
  exact EX.fin id (.inl rfl) rfl (.cellg G127 rfl rfl rfl (.nil)) rfl r98 trivial (by simp) (by simp)
theorem w145 {b : Book} {pg br : Int} : ∀ x ∈ ([.e (.a (.q 0)), .e (.g [ai (pg), ai (br)])] : List SV), x.res (keys (α := Pred) [(0, PP EBk (b))]) := by simp [SV.res, El.res, At.res, keys]
theorem r145 {b : Book} {pg br : Int} : SV.res (keys (α := Pred) []) (.i (poured b.set pg br)) := by simp [SV.res, El.res, At.res, keys]
set_option maxHeartbeats 4000000 in
theorem c145 (b : Book) (pg br : Int) (hl : b.set.length ≤ 1000) : Sig Tryz.prog 145 [.e (.a (.q 0)), .e (.g [ai (pg), ai (br)])] [(0, PP EBk (b))] (.i (poured b.set pg br)) [] := by
  refine Sig.intro Tryz.func145 rfl 1 [(0, .e (.a (.q 0))), (1, .e (.g [ai (pg), ai (br)]))] rfl w145 rfl rfl fun I w => ?_
  refine WP.seq (WP.region ?_)
  refine WPl.l 1 2 rfl rfl rfl (o_boxg rfl) ?_
  refine WPl.v rfl (o_assign rfl) ?_
  refine WPl.nil (EX.then (WP.seq (WP.seq (WP.region ?_))))
  refine WPl.v rfl (o_move rfl) ?_
  refine WPl.v rfl (o_nilq rfl (lx rfl)) ?_
  refine WPl.v rfl (o_fldq F109_0 rfl (lx rfl)) ?_
  refine WPl.v rfl (o_flde F33_1 rfl (lx rfl)) ?_
  refine WPl.x 2 3 rfl rfl rfl (o_ldex S30 rfl (lx rfl) (strS rfl)) ?_
  refine WPl.v rfl (o_lenq L30 rfl (lx rfl)) ?_
  refine WPl.v rfl (o_move rfl) ?_
  refine WPl.nil (EX.then (WP.block ?_))
  refine WP.loop (Gh := Nat) (fun i => ⟨3, [(3, .e (.a (.p 1 (0)))), (4, .i (0)), (11, .e (.a (.q 2))), (12, .i ((b.set.length : Int))), (13, .i ((i : Int)))], [(2, PL EPl (b.set))], [(1, .blk [ai (pg), ai (br)] 127)], [], []⟩) (fun i => i ≤ b.set.length ∧ allI (notAt b.set pg br) i = true) (fun i => b.set.length - i) (0) id ?_ (LeR.of ⟨rfl, rfl, rfl, rfl, rfl, trivial⟩ ⟨(lx rfl), trivial⟩ ⟨rfl, trivial⟩ rfl rfl rfl rfl rfl) ?_
  · exact ⟨by omega, rfl⟩
  intro i hφ
  have hi : i ≤ b.set.length := hφ.1
  have hall := hφ.2
  refine WP.seq (WP.region ?_)
  refine WPl.v rfl (o_lss rfl rfl) ?_
  refine WPl.nil (EX.then (WP.seq ?_))
  refine WP.cond rfl (fun hc1 => ?_) (fun hc1 => ?_)
  · try simp only [cnd] at hc1
    refine WP.skip (EX.then (WP.seq (WP.block (WP.seq (WP.region ?_)))))
    refine WPl.x 3 4 rfl rfl rfl (o_idx L30 rfl (lx rfl) rfl (by first | omega | (simp; omega)) (by first | omega | (simp; omega))) ?_
    refine WPl.v rfl (o_ldqg G77 rfl (lx rfl) (strG rfl) rfl rfl) ?_
    refine WPl.l 4 5 rfl rfl rfl (o_alloc Z77) ?_
    refine WPl.s1 (o_stag G77 rfl rfl rfl ⟨rfl, rfl, rfl, trivial⟩ rfl rfl) ?_
    refine WPl.nil (EX.then (WP.seq (WP.region ?_)))
    refine WPl.v rfl (o_ldpa G127 rfl rfl rfl) ?_
    refine WPl.v rfl (o_fldp F77_0 rfl) ?_
    refine WPl.v rfl (o_ldp S3 rfl rfl rfl) ?_
    refine WPl.v rfl (o_fldp F77_1 rfl) ?_
    refine WPl.v rfl (o_ldp S3 rfl rfl rfl) ?_
    refine WPl.v rfl (o_build B127 rfl ⟨rfl, rfl, trivial⟩ rfl rfl) ?_
    refine WPl.v rfl (o_eqs (a := [pg, br]) (b := [(nth b.set (i : Int)).page, (nth b.set (i : Int)).bore]) Q127 rfl Tryz.eqGuardType127 rfl rfl rfl rfl) ?_
    refine WPl.nil (EX.then ?_)
    refine WP.cond rfl (fun hc2 => ?_) (fun hc2 => ?_)
    · try simp only [cnd] at hc2
      refine WP.seq (WP.region ?_)
      refine WPl.v rfl (o_fldp F77_2 rfl) ?_
      refine WPl.v rfl (o_ldp S3 rfl rfl rfl) ?_
      refine WPl.v rfl (o_assign rfl) ?_
      refine WPl.nil (EX.then (WP.ret (EX.ret_blk (EX.ret_then (EX.ret_then (EX.ret_blk (EX.ret_then ?_)))))))
      rw [show poured b.set pg br = (nth b.set (i : Int)).many from poured_at (by omega) hall hc2]
      exact EX.fin id (.inl rfl) rfl (.tmp rfl .nil) rfl (by simp [SV.res, El.res, At.res, keys]) trivial (by simp) (by simp)
    · try simp only [cnd] at hc2
      refine WP.skip (EX.blk (EX.then (WP.region ?_)))
      refine WPl.v rfl (o_add rfl rfl (by first | omega | (simp; omega)) (by first | omega | (simp; omega))) ?_
      refine WPl.v rfl (o_move rfl) ?_
      refine WPl.nil ?_
      refine EX.again (i + 1) id (by exact ⟨by omega, by simp only [allI, hall, Bool.true_and, notAt, Bool.not_eq_true', decide_eq_false_iff_not]; exact hc2⟩) (by omega) (LeR.of ⟨rfl, rfl, rfl, rfl, rfl, trivial⟩ ⟨(lx rfl), trivial⟩ ⟨rfl, trivial⟩ rfl rfl rfl rfl rfl)
  · try simp only [cnd] at hc1
    refine WP.exit (EX.exit_then (EX.exit_then (EX.exit_blk (EX.then (WP.seq (WP.region ?_))))))
    refine WPl.v rfl (o_assign rfl) ?_
    refine WPl.nil (EX.then (WP.ret ?_))
    have he : i = b.set.length := by omega
    subst he
    rw [show poured b.set pg br = 0 from poured_none hall]
    exact EX.fin id (.inl rfl) rfl (.tmp rfl .nil) rfl (by simp [SV.res, El.res, At.res, keys]) trivial (by simp) (by simp)
theorem w144 {b : Book} {t u : Tal} : ∀ x ∈ ([.e (.a (.q 0)), .e (.g [ai (t.boy), ai (t.page), ai (t.mach), ai (t.min)]), .e (.g [ai (u.boy), ai (u.page), ai (u.mach), ai (u.min)])] : List SV), x.res (keys (α := Pred) [(0, PP EBk (b))]) := by simp [SV.res, El.res, At.res, keys]
theorem r144 {b : Book} {t u : Tal} : SV.res (keys (α := Pred) []) (.b (hurries b t u)) := by simp [SV.res, El.res, At.res, keys]
set_option maxHeartbeats 4000000 in
theorem c144 (b : Book) (t u : Tal) (hB : BookB b) (hm : 0 ≤ t.mach ∧ t.mach < b.walk.length) (hn : 0 ≤ u.mach ∧ u.mach < b.walk.length) (h1 : 0 ≤ t.min ∧ t.min ≤ 99) (h2 : 0 ≤ u.min ∧ u.min ≤ 99) : Sig Tryz.prog 144 [.e (.a (.q 0)), .e (.g [ai (t.boy), ai (t.page), ai (t.mach), ai (t.min)]), .e (.g [ai (u.boy), ai (u.page), ai (u.mach), ai (u.min)])] [(0, PP EBk (b))] (.b (hurries b t u)) [] := by
  have hv1 := hB.v t.mach.toNat (by omega)
  have hv2 := hB.v u.mach.toNat (by omega)
  rw [show ((t.mach.toNat : Nat) : Int) = t.mach by omega] at hv1
  rw [show ((u.mach.toNat : Nat) : Int) = u.mach by omega] at hv2
  refine Sig.intro Tryz.func144 rfl 1 [(0, .e (.a (.q 0))), (1, .e (.g [ai (t.boy), ai (t.page), ai (t.mach), ai (t.min)])), (2, .e (.g [ai (u.boy), ai (u.page), ai (u.mach), ai (u.min)]))] rfl w144 rfl rfl fun I w => ?_
  refine WP.seq (WP.region ?_)
  refine WPl.l 1 2 rfl rfl rfl (o_boxg rfl) ?_
  refine WPl.l 2 3 rfl rfl rfl (o_boxg rfl) ?_
  refine WPl.v rfl (o_assign rfl) ?_
  refine WPl.nil (EX.then (WP.seq ?_))
  refine WP.imp (Imp.bit 3 4 (decide (t.boy = u.boy)) rfl rfl) ?_
  refine WP.draw (nf := 8) [⟨[9, 10], [], [], [], []⟩, ⟨[9, 10], [], [], [], [0]⟩, ⟨[7, 8], [], [], [], []⟩, ⟨[7, 8], [], [], [], [2]⟩, ⟨[], [], [], [], [0, 1, 2, 3]⟩, ⟨[], [], [], [], [0, 1, 2, 3, 4]⟩, ⟨[15, 16, 18, 19, 20, 21, 22, 23, 24, 25, 26, 27, 28, 29, 30, 31, 32, 33, 34, 35, 36], [4, 5, 6, 7], [], [], [0, 1, 2, 3, 4, 5]⟩, ⟨[15, 16, 18, 19, 20, 21, 22, 23, 24, 25, 26, 27, 28, 29, 30, 31, 32, 33, 34, 35, 36], [4, 5, 6, 7], [], [], [0, 1, 2, 3, 4, 5, 6]⟩, ⟨[13, 14, 18, 19, 20, 21, 22, 23, 24, 25, 26, 27, 28, 29, 30, 31, 32, 33, 34, 35, 36], [4, 5, 6, 7], [], [], [0, 1, 2, 3, 4, 5]⟩, ⟨[13, 14, 18, 19, 20, 21, 22, 23, 24, 25, 26, 27, 28, 29, 30, 31, 32, 33, 34, 35, 36], [4, 5, 6, 7], [], [], [0, 1, 2, 3, 4, 5, 8]⟩, ⟨[18, 19, 20, 21, 22, 23, 24, 25, 26, 27, 28, 29, 30, 31, 32, 33, 34, 35, 36], [4, 5, 6, 7], [], [], [0, 1, 2, 3, 4, 5, 6, 7, 8, 9]⟩, ⟨[13, 14, 15, 16, 17, 23, 24, 27, 28, 29, 30, 31, 32, 33, 34, 35], [6, 7], [], [], [0, 1, 2, 3, 4, 5]⟩, ⟨[13, 14, 15, 16, 17, 23, 24, 27, 28, 29, 30, 31, 32, 33, 34, 35], [6, 7], [], [], [0, 1, 2, 3, 4, 5, 11]⟩, ⟨[13, 14, 15, 16, 17, 23, 24, 27, 28, 29, 30, 31, 32, 33, 34, 35], [6, 7], [], [], [0, 1, 2, 3, 4, 5, 11, 12]⟩, ⟨[13, 14, 15, 16, 17, 23, 24, 27, 28, 29, 30, 31, 32, 33, 34, 35], [6, 7], [], [], [0, 1, 2, 3, 4, 5, 11, 12, 13]⟩, ⟨[13, 14, 15, 16, 17, 23, 24, 27, 28, 29, 30, 31, 32, 33, 34, 35], [6, 7], [4], [4], [0, 1, 2, 3, 4, 5, 11, 12, 13, 14]⟩, ⟨[13, 14, 15, 16, 17, 18, 19, 20, 21, 22, 27, 28, 29, 30, 31, 32, 33, 34, 35], [4, 6, 7], [], [], [0, 1, 2, 3, 4, 5]⟩, ⟨[13, 14, 15, 16, 17, 18, 19, 20, 21, 22, 27, 28, 29, 30, 31, 32, 33, 34, 35], [4, 6, 7], [], [], [0, 1, 2, 3, 4, 5, 16]⟩, ⟨[13, 14, 15, 16, 17, 27, 28, 29, 30, 31, 32, 33, 34, 35], [6, 7], [5], [5], [0, 1, 2, 3, 4, 5, 11, 12, 13, 14, 15, 16, 17]⟩, ⟨[13, 14, 15, 16, 17, 27, 28, 29, 30, 31, 32, 33, 34, 35], [6, 7], [], [], [0, 1, 2, 3, 4, 5, 11, 12, 13, 14, 15, 16, 17, 18]⟩, ⟨[13, 14, 15, 16, 17, 18, 19, 20, 21, 22, 23, 24, 25, 26, 32, 33], [4, 5], [], [], [0, 1, 2, 3, 4, 5]⟩, ⟨[13, 14, 15, 16, 17, 18, 19, 20, 21, 22, 23, 24, 25, 26, 32, 33], [4, 5], [], [], [0, 1, 2, 3, 4, 5, 20]⟩, ⟨[13, 14, 15, 16, 17, 18, 19, 20, 21, 22, 23, 24, 25, 26, 32, 33], [4, 5], [], [], [0, 1, 2, 3, 4, 5, 20, 21]⟩, ⟨[13, 14, 15, 16, 17, 18, 19, 20, 21, 22, 23, 24, 25, 26, 32, 33], [4, 5], [], [], [0, 1, 2, 3, 4, 5, 20, 21, 22]⟩, ⟨[13, 14, 15, 16, 17, 18, 19, 20, 21, 22, 23, 24, 25, 26, 32, 33], [4, 5], [6], [6], [0, 1, 2, 3, 4, 5, 20, 21, 22, 23]⟩, ⟨[13, 14, 15, 16, 17, 18, 19, 20, 21, 22, 23, 24, 25, 26, 27, 28, 29, 30, 31], [4, 5, 6], [], [], [0, 1, 2, 3, 4, 5]⟩, ⟨[13, 14, 15, 16, 17, 18, 19, 20, 21, 22, 23, 24, 25, 26, 27, 28, 29, 30, 31], [4, 5, 6], [], [], [0, 1, 2, 3, 4, 5, 25]⟩, ⟨[13, 14, 15, 16, 17, 18, 19, 20, 21, 22, 23, 24, 25, 26], [4, 5], [7], [7], [0, 1, 2, 3, 4, 5, 20, 21, 22, 23, 24, 25, 26]⟩, ⟨[13, 14, 15, 16, 17, 18, 19, 20, 21, 22, 23, 24, 25, 26], [4, 5], [], [], [0, 1, 2, 3, 4, 5, 20, 21, 22, 23, 24, 25, 26, 27]⟩, ⟨[13, 14, 15, 16, 17], [], [], [], [0, 1, 2, 3, 4, 5, 11, 12, 13, 14, 15, 16, 17, 18, 19, 20, 21, 22, 23, 24, 25, 26, 27, 28]⟩, ⟨[], [], [], [], [0, 1, 2, 3, 4, 5, 6, 7, 8, 9, 10, 11, 12, 13, 14, 15, 16, 17, 18, 19, 20, 21, 22, 23, 24, 25, 26, 27, 28, 29]⟩, ⟨[], [], [], [], [0, 1, 2, 3, 4, 5, 6, 7, 8, 9, 10, 11, 12, 13, 14, 15, 16, 17, 18, 19, 20, 21, 22, 23, 24, 25, 26, 27, 28, 29, 30]⟩, ⟨[], [], [], [], [0, 1, 2, 3, 4, 5, 6, 7, 8, 9, 10, 11, 12, 13, 14, 15, 16, 17, 18, 19, 20, 21, 22, 23, 24, 25, 26, 27, 28, 29, 30, 31]⟩] (by kernel_rfl) (by kernel_rfl) ?_
  refine DRQ.v rfl rfl rfl (o_fldp F58_0 rfl) ?_
  refine DRQ.v rfl rfl rfl (o_ldp S3 rfl rfl rfl) ?_
  refine DRQ.v rfl rfl rfl (o_fldp F58_0 rfl) ?_
  refine DRQ.v rfl rfl rfl (o_ldp S3 rfl rfl rfl) ?_
  refine DRQ.v rfl rfl rfl (o_eql rfl rfl) ?_
  refine DRQ.v rfl rfl rfl (o_move rfl) ?_
  refine DRQ.gv 3 rfl rfl (.plain rfl Iff.rfl rfl) rfl (fun hb => o_fldp F58_3 rfl) ?_
  refine DRQ.gv 3 rfl rfl (.plain rfl Iff.rfl rfl) rfl (fun hb => o_ldp S3 rfl rfl rfl) ?_
  refine DRQ.gv 3 rfl rfl (.plain rfl Iff.rfl rfl) rfl (fun hb => o_fldp F58_3 rfl) ?_
  refine DRQ.gv 3 rfl rfl (.plain rfl Iff.rfl rfl) rfl (fun hb => o_ldp S3 rfl rfl rfl) ?_
  refine DRQ.gv 3 rfl rfl (.plain rfl Iff.rfl rfl) rfl (fun hb => o_sig 4 id (c162 t.min u.min (by omega) (by omega)) e162 rfl rfl rfl w162 trivial r162) ?_
  refine DRQ.gv 3 rfl rfl (.plain rfl Iff.rfl rfl) rfl (fun hb => o_move rfl) ?_
  refine DRQ.gv 3 rfl rfl (.plain rfl Iff.rfl rfl) rfl (fun hb => o_nilq rfl (lx rfl)) ?_
  refine DRQ.gv 3 rfl rfl (.plain rfl Iff.rfl rfl) rfl (fun hb => o_fldq F109_0 rfl (lx rfl)) ?_
  refine DRQ.gv 3 rfl rfl (.plain rfl Iff.rfl rfl) rfl (fun hb => o_flde F33_2 rfl (lx rfl)) ?_
  refine DRQ.gx 3 4 rfl rfl (.plain rfl Iff.rfl rfl) rfl rfl (fun hb => o_ldex S24 rfl (lx rfl) (strS rfl)) ?_
  refine DRQ.gv 3 rfl rfl (.plain rfl Iff.rfl rfl) rfl (fun hb => o_fldp F58_2 rfl) ?_
  refine DRQ.gv 3 rfl rfl (.plain rfl Iff.rfl rfl) rfl (fun hb => o_ldp S3 rfl rfl rfl) ?_
  refine DRQ.gx 3 5 rfl rfl (.plain rfl Iff.rfl rfl) rfl rfl (fun hb => o_idx L24 rfl (lxi hb rfl) rfl (by first | omega | (simp; omega)) (by first | omega | (simp; omega))) ?_
  refine DRQ.gv 3 rfl rfl (.plain rfl Iff.rfl rfl) rfl (fun hb => o_ldq S3 rfl (lxi hb rfl) intc) ?_
  refine DRQ.gv 3 rfl rfl (.plain rfl Iff.rfl rfl) rfl (fun hb => o_move rfl) ?_
  refine DRQ.gv 3 rfl rfl (.plain rfl Iff.rfl rfl) rfl (fun hb => o_nilq rfl (lx rfl)) ?_
  refine DRQ.gv 3 rfl rfl (.plain rfl Iff.rfl rfl) rfl (fun hb => o_fldq F109_0 rfl (lx rfl)) ?_
  refine DRQ.gv 3 rfl rfl (.plain rfl Iff.rfl rfl) rfl (fun hb => o_flde F33_2 rfl (lx rfl)) ?_
  refine DRQ.gx 3 6 rfl rfl (.plain rfl Iff.rfl rfl) rfl rfl (fun hb => o_ldex S24 rfl (lx rfl) (strS rfl)) ?_
  refine DRQ.gv 3 rfl rfl (.plain rfl Iff.rfl rfl) rfl (fun hb => o_fldp F58_2 rfl) ?_
  refine DRQ.gv 3 rfl rfl (.plain rfl Iff.rfl rfl) rfl (fun hb => o_ldp S3 rfl rfl rfl) ?_
  refine DRQ.gx 3 7 rfl rfl (.plain rfl Iff.rfl rfl) rfl rfl (fun hb => o_idx L24 rfl (lxi hb rfl) rfl (by first | omega | (simp; omega)) (by first | omega | (simp; omega))) ?_
  refine DRQ.gv 3 rfl rfl (.plain rfl Iff.rfl rfl) rfl (fun hb => o_ldq S3 rfl (lxi hb rfl) intc) ?_
  refine DRQ.gv 3 rfl rfl (.plain rfl Iff.rfl rfl) rfl (fun hb => o_add rfl rfl (by first | omega | (simp; omega)) (by first | omega | (simp; omega))) ?_
  refine DRQ.gv 3 rfl rfl (.plain rfl Iff.rfl rfl) rfl (fun hb => o_lss rfl rfl) ?_
  refine DRQ.v rfl rfl rfl (o_and rfl rfl rfl id) ?_
  refine DRQ.v rfl rfl rfl (o_assign rfl) ?_
  refine DRQ.nil' ?_
  refine EX.then (WP.ret ?_)
  exact EX.fin id (.inl rfl) rfl (.tmp rfl .nil) rfl r144 trivial (by simp) (by simp)
theorem w114 {b : Book} {l : List Int} : ∀ x ∈ ([.e (.a (.q 0)), .e (.a (.q 1))] : List SV), x.res (keys (α := Pred) [(0, PP EBk (b)), (1, PL EP.int (l))]) := by simp [SV.res, El.res, At.res, keys]
theorem r114 {b : Book} {l : List Int} : SV.res (keys (α := Pred) []) (.b (enough b l)) := by simp [SV.res, El.res, At.res, keys]
set_option maxHeartbeats 4000000 in
theorem c114 (b : Book) (l : List Int) (hB : BookB b) (hs : b.set.length ≤ 1000) (hl : l.length ≤ 1000) (hin : inBook b l) : Sig Tryz.prog 114 [.e (.a (.q 0)), .e (.a (.q 1))] [(0, PP EBk (b)), (1, PL EP.int (l))] (.b (enough b l)) [] := by
  refine Sig.intro Tryz.func114 rfl 2 [(0, .e (.a (.q 0))), (1, .e (.a (.q 1)))] rfl w114 rfl rfl fun I w => ?_
  refine WP.seq (WP.region ?_)
  refine WPl.v rfl (o_assign rfl) ?_
  refine WPl.nil (EX.then (WP.seq (WP.region ?_)))
  refine WPl.mkmapS true 2 2 3 rfl rfl rfl fun b9 => ?_
  refine WPl.v rfl (o_assign rfl) ?_
  refine WPl.nil (EX.then (WP.seq (WP.seq (WP.region ?_))))
  refine WPl.v rfl (o_move rfl) ?_
  refine WPl.v rfl (o_lenq L24 rfl (lx rfl)) ?_
  refine WPl.v rfl (o_move rfl) ?_
  refine WPl.nil (EX.then (WP.block ?_))
  refine WP.loop (Gh := Nat) (fun i => ⟨3, [(0, .e (.a (.q 0))), (4, .b (false)), (5, .e (.a (.v (.map (some b9))))), (10, .e (.a (.q 1))), (11, .i ((l.length : Int))), (12, .i ((i : Int)))], [(0, PP EBk (b)), (1, PL EP.int (l))], [(2, .ext (mapSP true 2 b9 (usedTo b l i)))], [], []⟩) (fun i => i ≤ l.length ∧ allI (enAt b l) i = true) (fun i => l.length - i) (0) id ?_ (LeR.of ⟨rfl, rfl, rfl, rfl, rfl, rfl, trivial⟩ ⟨(lx rfl), (lx rfl), trivial⟩ ⟨(congrArg (fun z => some (Ent.ext (mapSP true 2 b9 z))) (show ([]) = ((fun i => usedTo b l i) 0) from rfl)), trivial⟩ rfl rfl rfl rfl rfl) ?_
  · exact ⟨by omega, rfl⟩
  intro i hφ
  have hi : i ≤ l.length := hφ.1
  have hall := hφ.2
  refine WP.seq (WP.region ?_)
  refine WPl.v rfl (o_lss rfl rfl) ?_
  refine WPl.nil (EX.then (WP.seq ?_))
  refine WP.cond rfl (fun hc1 => ?_) (fun hc1 => ?_)
  · try simp only [cnd] at hc1
    have hni := hin i (by omega)
    have ha := hB.a _ hni.1 hni.2
    refine WP.skip (EX.then (WP.seq (WP.block (WP.seq (WP.region ?_)))))
    refine WPl.x 3 4 rfl rfl rfl (o_idx L24 rfl (lx rfl) rfl (by first | omega | (simp; omega)) (by first | omega | (simp; omega))) ?_
    refine WPl.v rfl (o_ldq S3 rfl (lx rfl) intc) ?_
    refine WPl.v rfl (o_assign rfl) ?_
    refine WPl.nil (EX.then (WP.seq (WP.region ?_)))
    refine WPl.v rfl (o_move rfl) ?_
    refine WPl.v rfl (o_move rfl) ?_
    refine WPl.v rfl (o_nilq rfl (lx rfl)) ?_
    refine WPl.v rfl (o_fldq F109_0 rfl (lx rfl)) ?_
    refine WPl.v rfl (o_flde F33_4 rfl (lx rfl)) ?_
    refine WPl.x 4 5 rfl rfl rfl (o_ldex S31 rfl (lx rfl) (strS rfl)) ?_
    refine WPl.v rfl (o_move rfl) ?_
    refine WPl.x 5 6 rfl rfl rfl (o_idx L31 rfl (lx rfl) rfl (by first | omega | (simp; omega)) (by first | omega | (simp; omega))) ?_
    refine WPl.v rfl (o_ldqg G58 rfl (lx rfl) (strG rfl) rfl rfl) ?_
    refine WPl.cs 6 rfl rfl rfl rfl (o_sig 6 (ren [(0, 0)]) (c98 b (nth b.tals (nth l (i : Int))) (by omega)) e98 rfl rfl rfl w98 ⟨(lx rfl), trivial⟩ r98) ?_
    refine WPl.l 6 7 rfl rfl rfl (o_alloc Z127) ?_
    refine WPl.s1 (o_stag G127 rfl rfl rfl ⟨rfl, rfl, trivial⟩ rfl rfl) ?_
    refine WPl.nil (EX.then (WP.seq ?_))
    refine WP.tree (S' := ⟨7, [(0, .e (.a (.q 0))), (4, .b (false)), (5, .e (.a (.v (.map (some b9))))), (10, .e (.a (.q 1))), (11, .i ((l.length : Int))), (12, .i ((i : Int))), (13, .b (decide ((i : Int) < (l.length : Int)))), (14, .e (.a (.q 3))), (15, .i (nth l (i : Int))), (7, .i (nth l (i : Int))), (16, .e (.a (.q 0))), (17, .e (.a (.q 0))), (18, .e (.a (.q 0))), (19, .e (.a (.e 0 (0)))), (20, .e (.a (.e 0 (9)))), (21, .e (.a (.q 4))), (22, .i (nth l (i : Int))), (23, .e (.a (.q 5))), (24, .e (.g [ai ((nth b.tals (nth l (i : Int))).boy), ai ((nth b.tals (nth l (i : Int))).page), ai ((nth b.tals (nth l (i : Int))).mach), ai ((nth b.tals (nth l (i : Int))).min)])), (25, .e (.g [ai ((nth b.tals (nth l (i : Int))).page), ai (nth b.hall.bores (nth b.tals (nth l (i : Int))).mach)])), (8, .e (.a (.p 6 (0)))), (26, .e (.a (.v (.map (some b9))))), (27, .e (.g [ai ((nth b.tals (nth l (i : Int))).page), ai (nth b.hall.bores (nth b.tals (nth l (i : Int))).mach)])), (28, .i ((mget (usedTo b l i) [(nth b.tals (nth l (i : Int))).page, nth b.hall.bores (nth b.tals (nth l (i : Int))).mach]).getD 0)), (29, .i (((mget (usedTo b l i) [(nth b.tals (nth l (i : Int))).page, nth b.hall.bores (nth b.tals (nth l (i : Int))).mach]).getD 0) + 1)), (30, .t [.a (ai ((mget (usedTo b l i) [(nth b.tals (nth l (i : Int))).page, nth b.hall.bores (nth b.tals (nth l (i : Int))).mach]).getD 0)), .a (ai ((midx (usedTo b l i) [(nth b.tals (nth l (i : Int))).page, nth b.hall.bores (nth b.tals (nth l (i : Int))).mach] : Int)))]), (31, .i ((midx (usedTo b l i) [(nth b.tals (nth l (i : Int))).page, nth b.hall.bores (nth b.tals (nth l (i : Int))).mach] : Int)))], [(0, PP EBk (b)), (1, PL EP.int (l)), (3, PP EP.int (nth l (i : Int))), (4, PL ETa (b.tals)), (5, PP ETa (nth b.tals (nth l (i : Int))))], [(2, .ext (mapSP true 2 b9 (mset (usedTo b l i) [(nth b.tals (nth l (i : Int))).page, nth b.hall.bores (nth b.tals (nth l (i : Int))).mach] (((mget (usedTo b l i) [(nth b.tals (nth l (i : Int))).page, nth b.hall.bores (nth b.tals (nth l (i : Int))).mach]).getD 0) + 1)))), (6, .blk [ai ((nth b.tals (nth l (i : Int))).page), ai (nth b.hall.bores (nth b.tals (nth l (i : Int))).mach)] 127)], [], []⟩) (by kernel_rfl) (fun Q hQ => ?_) ?_
    · skip
      refine AnyS.cut 5 #[true, true, false, false, false, false, false] ⟨7, [(0, .e (.a (.q 0))), (4, .b (false)), (5, .e (.a (.v (.map (some b9))))), (10, .e (.a (.q 1))), (11, .i ((l.length : Int))), (12, .i ((i : Int))), (13, .b (decide ((i : Int) < (l.length : Int)))), (14, .e (.a (.q 3))), (15, .i (nth l (i : Int))), (7, .i (nth l (i : Int))), (16, .e (.a (.q 0))), (17, .e (.a (.q 0))), (18, .e (.a (.q 0))), (19, .e (.a (.e 0 (0)))), (20, .e (.a (.e 0 (9)))), (21, .e (.a (.q 4))), (22, .i (nth l (i : Int))), (23, .e (.a (.q 5))), (24, .e (.g [ai ((nth b.tals (nth l (i : Int))).boy), ai ((nth b.tals (nth l (i : Int))).page), ai ((nth b.tals (nth l (i : Int))).mach), ai ((nth b.tals (nth l (i : Int))).min)])), (25, .e (.g [ai ((nth b.tals (nth l (i : Int))).page), ai (nth b.hall.bores (nth b.tals (nth l (i : Int))).mach)])), (8, .e (.a (.p 6 (0)))), (26, .e (.a (.v (.map (some b9))))), (27, .e (.g [ai ((nth b.tals (nth l (i : Int))).page), ai (nth b.hall.bores (nth b.tals (nth l (i : Int))).mach)]))], [(0, PP EBk (b)), (1, PL EP.int (l)), (3, PP EP.int (nth l (i : Int))), (4, PL ETa (b.tals)), (5, PP ETa (nth b.tals (nth l (i : Int))))], [(2, .ext (mapSP true 2 b9 (usedTo b l i))), (6, .blk [ai ((nth b.tals (nth l (i : Int))).page), ai (nth b.hall.bores (nth b.tals (nth l (i : Int))).mach)] 127)], [], []⟩ ?_ fun hcut2 => ?_
      · skip
        refine AnyS.step 2 [4] (by kernel_rfl) ⟨?_, ?_, trivial⟩
        · refine StepS.v rfl rfl (o_lookSv (v := (mget (usedTo b l i) [(nth b.tals (nth l (i : Int))).page, nth b.hall.bores (nth b.tals (nth l (i : Int))).mach]).getD 0) (km := 2) (a := [(nth b.tals (nth l (i : Int))).page, nth b.hall.bores (nth b.tals (nth l (i : Int))).mach]) M125 rfl rfl isKey.g rfl rfl rfl) ?_
          refine AnyS.step 3 [4] (by kernel_rfl) ⟨?_, ?_, trivial⟩
          · refine StepS.v rfl rfl (o_add rfl rfl (by have := used_le b l i [(nth b.tals (nth l (i : Int))).page, nth b.hall.bores (nth b.tals (nth l (i : Int))).mach]; omega) (by have := used_le b l i [(nth b.tals (nth l (i : Int))).page, nth b.hall.bores (nth b.tals (nth l (i : Int))).mach]; omega)) ?_
            refine AnyS.step 4 [] (by kernel_rfl) ⟨?_, trivial⟩
            refine StepS.vl rfl rfl (o_entry (km := 2) (a := [(nth b.tals (nth l (i : Int))).page, nth b.hall.bores (nth b.tals (nth l (i : Int))).mach]) M125 rfl rfl isKey.g rfl rfl) ?_
            refine AnyS.step 5 [] (by kernel_rfl) ⟨?_, trivial⟩
            refine StepS.v rfl rfl (o_extract rfl rfl) ?_
            refine AnyS.step 6 [] (by kernel_rfl) ⟨?_, trivial⟩
            refine StepS.s rfl (o_estore (km := 2) (a := [(nth b.tals (nth l (i : Int))).page, nth b.hall.bores (nth b.tals (nth l (i : Int))).mach]) (u := (mget (usedTo b l i) [(nth b.tals (nth l (i : Int))).page, nth b.hall.bores (nth b.tals (nth l (i : Int))).mach]).getD 0) rfl rfl rfl rfl) ?_
            exact AnyS.done (by kernel_rfl) (EX.sub hQ (AllLk.c rfl (AllLk.c rfl (AllLk.c rfl (AllLk.c rfl (AllLk.c rfl (AllLk.c rfl (AllLk.c rfl (AllLk.c rfl (AllLk.c rfl (AllLk.c rfl (AllLk.c rfl (AllLk.c rfl (AllLk.c rfl (AllLk.c rfl (AllLk.c rfl (AllLk.c rfl (AllLk.c rfl (AllLk.c rfl (AllLk.c rfl (AllLk.c rfl (AllLk.c rfl (AllLk.c rfl (AllLk.c rfl (AllLk.c rfl (AllLk.c rfl (AllLk.c rfl (AllLk.c rfl AllLk.n))))))))))))))))))))))))))) (AllLk.c rfl (AllLk.c rfl (AllLk.c rfl (AllLk.c rfl (AllLk.c rfl AllLk.n))))) (AllLk.c rfl (AllLk.c rfl AllLk.n)) rfl rfl AllLk.n)
          · refine StepS.vl rfl rfl (o_entry (km := 2) (a := [(nth b.tals (nth l (i : Int))).page, nth b.hall.bores (nth b.tals (nth l (i : Int))).mach]) M125 rfl rfl isKey.g rfl rfl) ?_
            refine AnyS.step 3 [5] (by kernel_rfl) ⟨?_, ?_, trivial⟩
            · refine StepS.v rfl rfl (o_add rfl rfl (by have := used_le b l i [(nth b.tals (nth l (i : Int))).page, nth b.hall.bores (nth b.tals (nth l (i : Int))).mach]; omega) (by have := used_le b l i [(nth b.tals (nth l (i : Int))).page, nth b.hall.bores (nth b.tals (nth l (i : Int))).mach]; omega)) ?_
              refine AnyS.step 5 [] (by kernel_rfl) ⟨?_, trivial⟩
              refine StepS.v rfl rfl (o_extract rfl rfl) ?_
              refine AnyS.step 6 [] (by kernel_rfl) ⟨?_, trivial⟩
              refine StepS.s rfl (o_estore (km := 2) (a := [(nth b.tals (nth l (i : Int))).page, nth b.hall.bores (nth b.tals (nth l (i : Int))).mach]) (u := (mget (usedTo b l i) [(nth b.tals (nth l (i : Int))).page, nth b.hall.bores (nth b.tals (nth l (i : Int))).mach]).getD 0) rfl rfl rfl rfl) ?_
              exact AnyS.done (by kernel_rfl) (EX.sub hQ (AllLk.c rfl (AllLk.c rfl (AllLk.c rfl (AllLk.c rfl (AllLk.c rfl (AllLk.c rfl (AllLk.c rfl (AllLk.c rfl (AllLk.c rfl (AllLk.c rfl (AllLk.c rfl (AllLk.c rfl (AllLk.c rfl (AllLk.c rfl (AllLk.c rfl (AllLk.c rfl (AllLk.c rfl (AllLk.c rfl (AllLk.c rfl (AllLk.c rfl (AllLk.c rfl (AllLk.c rfl (AllLk.c rfl (AllLk.c rfl (AllLk.c rfl (AllLk.c rfl (AllLk.c rfl AllLk.n))))))))))))))))))))))))))) (AllLk.c rfl (AllLk.c rfl (AllLk.c rfl (AllLk.c rfl (AllLk.c rfl AllLk.n))))) (AllLk.c rfl (AllLk.c rfl AllLk.n)) rfl rfl AllLk.n)
            · refine StepS.v rfl rfl (o_extract rfl rfl) ?_
              refine AnyS.step 3 [] (by kernel_rfl) ⟨?_, trivial⟩
              refine StepS.v rfl rfl (o_add rfl rfl (by have := used_le b l i [(nth b.tals (nth l (i : Int))).page, nth b.hall.bores (nth b.tals (nth l (i : Int))).mach]; omega) (by have := used_le b l i [(nth b.tals (nth l (i : Int))).page, nth b.hall.bores (nth b.tals (nth l (i : Int))).mach]; omega)) ?_
              refine AnyS.step 6 [] (by kernel_rfl) ⟨?_, trivial⟩
              refine StepS.s rfl (o_estore (km := 2) (a := [(nth b.tals (nth l (i : Int))).page, nth b.hall.bores (nth b.tals (nth l (i : Int))).mach]) (u := (mget (usedTo b l i) [(nth b.tals (nth l (i : Int))).page, nth b.hall.bores (nth b.tals (nth l (i : Int))).mach]).getD 0) rfl rfl rfl rfl) ?_
              exact AnyS.done (by kernel_rfl) (EX.sub hQ (AllLk.c rfl (AllLk.c rfl (AllLk.c rfl (AllLk.c rfl (AllLk.c rfl (AllLk.c rfl (AllLk.c rfl (AllLk.c rfl (AllLk.c rfl (AllLk.c rfl (AllLk.c rfl (AllLk.c rfl (AllLk.c rfl (AllLk.c rfl (AllLk.c rfl (AllLk.c rfl (AllLk.c rfl (AllLk.c rfl (AllLk.c rfl (AllLk.c rfl (AllLk.c rfl (AllLk.c rfl (AllLk.c rfl (AllLk.c rfl (AllLk.c rfl (AllLk.c rfl (AllLk.c rfl AllLk.n))))))))))))))))))))))))))) (AllLk.c rfl (AllLk.c rfl (AllLk.c rfl (AllLk.c rfl (AllLk.c rfl AllLk.n))))) (AllLk.c rfl (AllLk.c rfl AllLk.n)) rfl rfl AllLk.n)
        · refine StepS.vl rfl rfl (o_entry (km := 2) (a := [(nth b.tals (nth l (i : Int))).page, nth b.hall.bores (nth b.tals (nth l (i : Int))).mach]) M125 rfl rfl isKey.g rfl rfl) ?_
          refine AnyS.step 2 [5] (by kernel_rfl) ⟨?_, ?_, trivial⟩
          · refine StepS.v rfl rfl (o_lookSv (v := (mget (usedTo b l i) [(nth b.tals (nth l (i : Int))).page, nth b.hall.bores (nth b.tals (nth l (i : Int))).mach]).getD 0) (km := 2) (a := [(nth b.tals (nth l (i : Int))).page, nth b.hall.bores (nth b.tals (nth l (i : Int))).mach]) M125 rfl rfl isKey.g rfl rfl (mget_self _ _ _)) ?_
            refine AnyS.step 3 [5] (by kernel_rfl) ⟨?_, ?_, trivial⟩
            · refine StepS.v rfl rfl (o_add rfl rfl (by have := used_le b l i [(nth b.tals (nth l (i : Int))).page, nth b.hall.bores (nth b.tals (nth l (i : Int))).mach]; omega) (by have := used_le b l i [(nth b.tals (nth l (i : Int))).page, nth b.hall.bores (nth b.tals (nth l (i : Int))).mach]; omega)) ?_
              refine AnyS.step 5 [] (by kernel_rfl) ⟨?_, trivial⟩
              refine StepS.v rfl rfl (o_extract rfl rfl) ?_
              refine AnyS.step 6 [] (by kernel_rfl) ⟨?_, trivial⟩
              refine StepS.s rfl (o_estore (km := 2) (a := [(nth b.tals (nth l (i : Int))).page, nth b.hall.bores (nth b.tals (nth l (i : Int))).mach]) (u := (mget (usedTo b l i) [(nth b.tals (nth l (i : Int))).page, nth b.hall.bores (nth b.tals (nth l (i : Int))).mach]).getD 0) rfl rfl rfl rfl) ?_
              exact AnyS.done (by kernel_rfl) (EX.sub hQ (AllLk.c rfl (AllLk.c rfl (AllLk.c rfl (AllLk.c rfl (AllLk.c rfl (AllLk.c rfl (AllLk.c rfl (AllLk.c rfl (AllLk.c rfl (AllLk.c rfl (AllLk.c rfl (AllLk.c rfl (AllLk.c rfl (AllLk.c rfl (AllLk.c rfl (AllLk.c rfl (AllLk.c rfl (AllLk.c rfl (AllLk.c rfl (AllLk.c rfl (AllLk.c rfl (AllLk.c rfl (AllLk.c rfl (AllLk.c rfl (AllLk.c rfl (AllLk.c rfl (AllLk.c rfl AllLk.n))))))))))))))))))))))))))) (AllLk.c rfl (AllLk.c rfl (AllLk.c rfl (AllLk.c rfl (AllLk.c rfl AllLk.n))))) (AllLk.c rfl (AllLk.c rfl AllLk.n)) rfl rfl AllLk.n)
            · refine StepS.v rfl rfl (o_extract rfl rfl) ?_
              refine AnyS.step 3 [] (by kernel_rfl) ⟨?_, trivial⟩
              refine StepS.v rfl rfl (o_add rfl rfl (by have := used_le b l i [(nth b.tals (nth l (i : Int))).page, nth b.hall.bores (nth b.tals (nth l (i : Int))).mach]; omega) (by have := used_le b l i [(nth b.tals (nth l (i : Int))).page, nth b.hall.bores (nth b.tals (nth l (i : Int))).mach]; omega)) ?_
              refine AnyS.step 6 [] (by kernel_rfl) ⟨?_, trivial⟩
              refine StepS.s rfl (o_estore (km := 2) (a := [(nth b.tals (nth l (i : Int))).page, nth b.hall.bores (nth b.tals (nth l (i : Int))).mach]) (u := (mget (usedTo b l i) [(nth b.tals (nth l (i : Int))).page, nth b.hall.bores (nth b.tals (nth l (i : Int))).mach]).getD 0) rfl rfl rfl rfl) ?_
              exact AnyS.done (by kernel_rfl) (EX.sub hQ (AllLk.c rfl (AllLk.c rfl (AllLk.c rfl (AllLk.c rfl (AllLk.c rfl (AllLk.c rfl (AllLk.c rfl (AllLk.c rfl (AllLk.c rfl (AllLk.c rfl (AllLk.c rfl (AllLk.c rfl (AllLk.c rfl (AllLk.c rfl (AllLk.c rfl (AllLk.c rfl (AllLk.c rfl (AllLk.c rfl (AllLk.c rfl (AllLk.c rfl (AllLk.c rfl (AllLk.c rfl (AllLk.c rfl (AllLk.c rfl (AllLk.c rfl (AllLk.c rfl (AllLk.c rfl AllLk.n))))))))))))))))))))))))))) (AllLk.c rfl (AllLk.c rfl (AllLk.c rfl (AllLk.c rfl (AllLk.c rfl AllLk.n))))) (AllLk.c rfl (AllLk.c rfl AllLk.n)) rfl rfl AllLk.n)
          · refine StepS.v rfl rfl (o_extract rfl rfl) ?_
            refine AnyS.step 2 [] (by kernel_rfl) ⟨?_, trivial⟩
            refine StepS.v rfl rfl (o_lookSv (v := (mget (usedTo b l i) [(nth b.tals (nth l (i : Int))).page, nth b.hall.bores (nth b.tals (nth l (i : Int))).mach]).getD 0) (km := 2) (a := [(nth b.tals (nth l (i : Int))).page, nth b.hall.bores (nth b.tals (nth l (i : Int))).mach]) M125 rfl rfl isKey.g rfl rfl (mget_self _ _ _)) ?_
            refine AnyS.step 3 [] (by kernel_rfl) ⟨?_, trivial⟩
            refine StepS.v rfl rfl (o_add rfl rfl (by have := used_le b l i [(nth b.tals (nth l (i : Int))).page, nth b.hall.bores (nth b.tals (nth l (i : Int))).mach]; omega) (by have := used_le b l i [(nth b.tals (nth l (i : Int))).page, nth b.hall.bores (nth b.tals (nth l (i : Int))).mach]; omega)) ?_
            refine AnyS.step 6 [] (by kernel_rfl) ⟨?_, trivial⟩
            refine StepS.s rfl (o_estore (km := 2) (a := [(nth b.tals (nth l (i : Int))).page, nth b.hall.bores (nth b.tals (nth l (i : Int))).mach]) (u := (mget (usedTo b l i) [(nth b.tals (nth l (i : Int))).page, nth b.hall.bores (nth b.tals (nth l (i : Int))).mach]).getD 0) rfl rfl rfl rfl) ?_
            exact AnyS.done (by kernel_rfl) (EX.sub hQ (AllLk.c rfl (AllLk.c rfl (AllLk.c rfl (AllLk.c rfl (AllLk.c rfl (AllLk.c rfl (AllLk.c rfl (AllLk.c rfl (AllLk.c rfl (AllLk.c rfl (AllLk.c rfl (AllLk.c rfl (AllLk.c rfl (AllLk.c rfl (AllLk.c rfl (AllLk.c rfl (AllLk.c rfl (AllLk.c rfl (AllLk.c rfl (AllLk.c rfl (AllLk.c rfl (AllLk.c rfl (AllLk.c rfl (AllLk.c rfl (AllLk.c rfl (AllLk.c rfl (AllLk.c rfl AllLk.n))))))))))))))))))))))))))) (AllLk.c rfl (AllLk.c rfl (AllLk.c rfl (AllLk.c rfl (AllLk.c rfl AllLk.n))))) (AllLk.c rfl (AllLk.c rfl AllLk.n)) rfl rfl AllLk.n)
      · skip
        refine AnyS.step 0 [1] (by kernel_rfl) ⟨?_, ?_, trivial⟩
        · refine StepS.v rfl rfl (o_move rfl) ?_
          refine AnyS.step 1 [] (by kernel_rfl) ⟨?_, trivial⟩
          refine StepS.v rfl rfl (o_ldpa G127 rfl rfl rfl) ?_
          exact AnyS.sub hcut2 rfl (by kernel_rfl) (AllLk.c rfl (AllLk.c rfl (AllLk.c rfl (AllLk.c rfl (AllLk.c rfl (AllLk.c rfl (AllLk.c rfl (AllLk.c rfl (AllLk.c rfl (AllLk.c rfl (AllLk.c rfl (AllLk.c rfl (AllLk.c rfl (AllLk.c rfl (AllLk.c rfl (AllLk.c rfl (AllLk.c rfl (AllLk.c rfl (AllLk.c rfl (AllLk.c rfl (AllLk.c rfl (AllLk.c rfl (AllLk.c rfl AllLk.n))))))))))))))))))))))) (AllLk.c rfl (AllLk.c rfl (AllLk.c rfl (AllLk.c rfl (AllLk.c rfl AllLk.n))))) (AllLk.c rfl (AllLk.c rfl AllLk.n)) rfl rfl AllLk.n
        · refine StepS.v rfl rfl (o_ldpa G127 rfl rfl rfl) ?_
          refine AnyS.step 0 [] (by kernel_rfl) ⟨?_, trivial⟩
          refine StepS.v rfl rfl (o_move rfl) ?_
          exact AnyS.sub hcut2 rfl (by kernel_rfl) (AllLk.c rfl (AllLk.c rfl (AllLk.c rfl (AllLk.c rfl (AllLk.c rfl (AllLk.c rfl (AllLk.c rfl (AllLk.c rfl (AllLk.c rfl (AllLk.c rfl (AllLk.c rfl (AllLk.c rfl (AllLk.c rfl (AllLk.c rfl (AllLk.c rfl (AllLk.c rfl (AllLk.c rfl (AllLk.c rfl (AllLk.c rfl (AllLk.c rfl (AllLk.c rfl (AllLk.c rfl (AllLk.c rfl AllLk.n))))))))))))))))))))))) (AllLk.c rfl (AllLk.c rfl (AllLk.c rfl (AllLk.c rfl (AllLk.c rfl AllLk.n))))) (AllLk.c rfl (AllLk.c rfl AllLk.n)) rfl rfl AllLk.n
    refine EX.then (WP.seq ?_)
    refine WP.draw (nf := 7) [⟨[33, 35, 36, 37], [], [], [], []⟩, ⟨[32, 35, 36, 37], [], [], [], []⟩, ⟨[35, 36, 37], [], [], [], [0, 1]⟩, ⟨[32, 33, 34, 36], [], [], [], []⟩, ⟨[32, 33, 34, 35], [], [], [], []⟩, ⟨[32, 33, 34], [], [], [], [3, 4]⟩, ⟨[], [], [], [], [0, 1, 2, 3, 4, 5]⟩] (by kernel_rfl) (by kernel_rfl) ?_
    refine DRQ.v rfl rfl rfl (o_move rfl) ?_
    refine DRQ.v rfl rfl rfl (o_ldpa G127 rfl rfl rfl) ?_
    refine DRQ.v rfl rfl rfl (o_lookS (km := 2) (a := [(nth b.tals (nth l (i : Int))).page, nth b.hall.bores (nth b.tals (nth l (i : Int))).mach]) M125 rfl rfl isKey.g rfl rfl) ?_
    refine DRQ.v rfl rfl rfl (o_move rfl) ?_
    refine DRQ.v rfl rfl rfl (o_ldpa G127 rfl rfl rfl) ?_
    refine DRQ.cs rfl rfl rfl rfl (o_sig 7 (ren [(0, 0)]) (c145 b ((nth b.tals (nth l (i : Int))).page) (nth b.hall.bores (nth b.tals (nth l (i : Int))).mach) (by omega)) e145 rfl rfl rfl w145 ⟨(lx rfl), trivial⟩ r145) ?_
    refine DRQ.v rfl rfl rfl (o_gtr rfl rfl) ?_
    refine DRQ.nil' ?_
    refine EX.then ?_
    refine WP.cond rfl (fun hc2 => ?_) (fun hc2 => ?_)
    · try simp only [cnd] at hc2
      refine WP.seq (WP.region ?_)
      refine WPl.v rfl (o_assign rfl) ?_
      refine WPl.nil (EX.then (WP.ret (EX.ret_blk (EX.ret_then (EX.ret_then (EX.ret_blk (EX.ret_then ?_)))))))
      rw [show enough b l = false from not_allI (show i < l.length by omega) (by unfold enAt; exact decide_eq_false (Int.not_le.2 hc2))]
      exact EX.fin id (.inl rfl) rfl (.tmp rfl .nil) rfl (by simp [SV.res, El.res, At.res, keys]) trivial (by simp) (by simp)
    · try simp only [cnd] at hc2
      refine WP.skip (EX.blk (EX.then (WP.region ?_)))
      refine WPl.v rfl (o_add rfl rfl (by first | omega | (simp; omega)) (by first | omega | (simp; omega))) ?_
      refine WPl.v rfl (o_move rfl) ?_
      refine WPl.nil ?_
      refine EX.again (i + 1) id (by exact ⟨by omega, by simp only [allI, hall, Bool.true_and]; unfold enAt; simp only [decide_eq_true_eq]; exact Int.not_lt.1 hc2⟩) (by omega) (LeR.of ⟨rfl, rfl, rfl, rfl, rfl, rfl, trivial⟩ ⟨(lx rfl), (lx rfl), trivial⟩ ⟨(congrArg (fun z => some (Ent.ext (mapSP true 2 b9 z))) (show (mset (usedTo b l i) [(nth b.tals (nth l (i : Int))).page, nth b.hall.bores (nth b.tals (nth l (i : Int))).mach] (((mget (usedTo b l i) [(nth b.tals (nth l (i : Int))).page, nth b.hall.bores (nth b.tals (nth l (i : Int))).mach]).getD 0) + 1)) = ((fun i => usedTo b l i) (i + 1)) from rfl)), trivial⟩ rfl rfl rfl rfl rfl)
  · try simp only [cnd] at hc1
    refine WP.exit (EX.exit_then (EX.exit_then (EX.exit_blk (EX.then (WP.seq (WP.region ?_))))))
    refine WPl.v rfl (o_assign rfl) ?_
    refine WPl.nil (EX.then (WP.ret ?_))
    have he : i = l.length := by omega
    subst he
    rw [show enough b l = true from hall]
    exact EX.fin id (.inl rfl) rfl (.tmp rfl .nil) rfl (by simp [SV.res, El.res, At.res, keys]) trivial (by simp) (by simp)
end Go.Flong
namespace Go.Flong
open Go Go.Eng Go.Proofs
theorem e144 : Enters' Tryz.prog 144 := Tryz.call144
theorem e114 : Enters' Tryz.prog 114 := Tryz.call114
theorem e113 : Enters' Tryz.prog 113 := Tryz.call113
theorem F109_1 : Fld Tryz.prog 109 1 10 := .mk Tryz.underlying109 rfl rfl rfl Tryz.sizeOf107 rfl
theorem S107 : TyS Tryz.prog 107 := ⟨Tryz.isAgg107, Tryz.sizeOf107⟩
theorem L107 : IsSl Tryz.prog 107 105 1 := ⟨Tryz.underlying107, Tryz.sizeOf105⟩
theorem S105 : TyS Tryz.prog 105 := ⟨Tryz.isAgg105, Tryz.sizeOf105⟩
abbrev HitS (m : Nat) (h : Nat → Bool) : Pred := Pred.fall fun (o : (StyB m)) => FvP Tryz.prog [.e (.a (.v (.int .u64 (o.1 : Int))))] [] (.b (h o.1)) []
theorem e121 : Enters' Tryz.prog 121 := Tryz.call121
theorem w113 {b : Book} {m n : Int} : ∀ x ∈ ([.e (.a (.q 0)), .i (m), .i (n)] : List SV), x.res (keys (α := Pred) [(0, PP EBk (b))]) := by simp [SV.res, El.res, At.res, keys]
theorem r113 {b : Book} {m n : Int} : SV.res (keys (α := Pred) []) (.i (clash b m n)) := by simp [SV.res, El.res, At.res, keys]
set_option maxHeartbeats 4000000 in
theorem c113 (b : Book) (m n : Int) (hB : BookB b) (hs : b.set.length ≤ 1000) (hm : 0 ≤ m ∧ m < b.tals.length) (hn : 0 ≤ n ∧ n < b.tals.length) : Sig Tryz.prog 113 [.e (.a (.q 0)), .i (m), .i (n)] [(0, PP EBk (b))] (.i (clash b m n)) [] := by
  have ht8 := hB.t
  have hw := hB.w
  have ha1 := hB.a m hm.1 hm.2
  have ha2 := hB.a n hn.1 hn.2
  refine Sig.intro Tryz.func113 rfl 1 [(0, .e (.a (.q 0))), (1, .i (m)), (2, .i (n))] rfl w113 rfl rfl fun I w => ?_
  refine WP.seq (WP.region ?_)
  refine WPl.v rfl (o_assign rfl) ?_
  refine WPl.nil (EX.then (WP.seq ?_))
  refine WP.draw (nf := 7) [⟨[14, 17, 18, 19, 20, 21, 22, 23, 24, 7, 8], [3, 4, 5, 6], [], [], []⟩, ⟨[14, 17, 18, 19, 20, 21, 22, 23, 24, 7, 8], [3, 4, 5, 6], [], [], [0]⟩, ⟨[14, 17, 18, 19, 20, 21, 22, 23, 24, 7, 8], [3, 4, 5, 6], [], [], [0, 1]⟩, ⟨[14, 17, 18, 19, 20, 21, 22, 23, 24, 7, 8], [3, 4, 5, 6], [], [], [0, 1, 2]⟩, ⟨[14, 17, 18, 19, 20, 21, 22, 23, 24, 7, 8], [3, 4, 5, 6], [1], [1], [0, 1, 2, 3]⟩, ⟨[9, 10, 11, 12, 13, 17, 18, 19, 20, 21, 22, 23, 24, 7, 8], [1, 3, 4, 5, 6], [], [], []⟩, ⟨[17, 18, 19, 20, 21, 22, 23, 24, 7, 8], [3, 4, 5, 6], [2], [2], [0, 1, 2, 3, 4, 5]⟩, ⟨[17, 18, 19, 20, 21, 22, 23, 24, 7, 8], [3, 4, 5, 6], [], [], [0, 1, 2, 3, 4, 5, 6]⟩, ⟨[9, 10, 11, 12, 13, 14, 15, 16, 22, 7, 8], [1, 2, 5, 6], [], [], []⟩, ⟨[9, 10, 11, 12, 13, 14, 15, 16, 22, 7, 8], [1, 2, 5, 6], [], [], [8]⟩, ⟨[9, 10, 11, 12, 13, 14, 15, 16, 22, 7, 8], [1, 2, 5, 6], [], [], [8, 9]⟩, ⟨[9, 10, 11, 12, 13, 14, 15, 16, 22, 7, 8], [1, 2, 5, 6], [], [], [8, 9, 10]⟩, ⟨[9, 10, 11, 12, 13, 14, 15, 16, 22, 7, 8], [1, 2, 5, 6], [3], [3], [8, 9, 10, 11]⟩, ⟨[9, 10, 11, 12, 13, 14, 15, 16, 17, 18, 19, 20, 21, 7, 8], [1, 2, 3, 5, 6], [], [], []⟩, ⟨[9, 10, 11, 12, 13, 14, 15, 16, 7, 8], [1, 2, 5, 6], [4], [4], [8, 9, 10, 11, 12, 13]⟩, ⟨[9, 10, 11, 12, 13, 14, 15, 16, 7, 8], [1, 2, 5, 6], [], [], [8, 9, 10, 11, 12, 13, 14]⟩, ⟨[9, 10, 11, 12, 13, 14, 15, 16, 17, 18, 19, 20, 21, 22, 23, 24, 8], [1, 2, 3, 4, 6], [5], [5], []⟩, ⟨[9, 10, 11, 12, 13, 14, 15, 16, 17, 18, 19, 20, 21, 22, 23, 24, 7], [1, 2, 3, 4, 5], [6], [6], []⟩, ⟨[17, 18, 19, 20, 21, 22, 23, 24], [3, 4], [], [5], [0, 1, 2, 3, 4, 5, 6, 7, 16, 17]⟩, ⟨[], [], [], [6], [0, 1, 2, 3, 4, 5, 6, 7, 8, 9, 10, 11, 12, 13, 14, 15, 16, 17, 18]⟩] (by kernel_rfl) (by kernel_rfl) ?_
  refine DRQ.v rfl rfl rfl (o_move rfl) ?_
  refine DRQ.v rfl rfl rfl (o_nilq rfl (lx rfl)) ?_
  refine DRQ.v rfl rfl rfl (o_fldq F109_0 rfl (lx rfl)) ?_
  refine DRQ.v rfl rfl rfl (o_flde F33_4 rfl (lx rfl)) ?_
  refine DRQ.x 1 rfl rfl rfl rfl (o_ldex S31 rfl (lx rfl) (strS rfl)) ?_
  refine DRQ.v rfl rfl rfl (o_move rfl) ?_
  refine DRQ.x 2 rfl rfl rfl rfl (o_idx L31 rfl (lx rfl) rfl (by first | omega | (simp; omega)) (by first | omega | (simp; omega))) ?_
  refine DRQ.v rfl rfl rfl (o_ldqg G58 rfl (lx rfl) (strG rfl) rfl rfl) ?_
  refine DRQ.v rfl rfl rfl (o_move rfl) ?_
  refine DRQ.v rfl rfl rfl (o_nilq rfl (lx rfl)) ?_
  refine DRQ.v rfl rfl rfl (o_fldq F109_0 rfl (lx rfl)) ?_
  refine DRQ.v rfl rfl rfl (o_flde F33_4 rfl (lx rfl)) ?_
  refine DRQ.x 3 rfl rfl rfl rfl (o_ldex S31 rfl (lx rfl) (strS rfl)) ?_
  refine DRQ.v rfl rfl rfl (o_move rfl) ?_
  refine DRQ.x 4 rfl rfl rfl rfl (o_idx L31 rfl (lx rfl) rfl (by first | omega | (simp; omega)) (by first | omega | (simp; omega))) ?_
  refine DRQ.v rfl rfl rfl (o_ldqg G58 rfl (lx rfl) (strG rfl) rfl rfl) ?_
  refine DRQ.l 5 rfl rfl rfl rfl (o_alloc Z58) ?_
  refine DRQ.l 6 rfl rfl rfl rfl (o_alloc Z58) ?_
  refine DRQ.s 5 rfl rfl rfl (o_stag G58 rfl rfl rfl ⟨rfl, rfl, rfl, rfl, trivial⟩ rfl rfl) ?_
  refine DRQ.s 6 rfl rfl rfl (o_stag G58 rfl rfl rfl ⟨rfl, rfl, rfl, rfl, trivial⟩ rfl rfl) ?_
  refine DRQ.nil' ?_
  refine EX.then (WP.seq (WP.block (WP.seq (WP.region ?_))))
  refine WPl.v rfl (o_move rfl) ?_
  refine WPl.v rfl (o_ldpa G58 rfl rfl rfl) ?_
  refine WPl.v rfl (o_ldpa G58 rfl rfl rfl) ?_
  refine WPl.cs 7 rfl rfl rfl rfl (o_sig 7 (ren [(0, 0)]) (c144 b (nth b.tals m) (nth b.tals n) hB (by omega) (by omega) (by omega) (by omega)) e144 rfl rfl rfl w144 ⟨(lx rfl), trivial⟩ r144) ?_
  refine WPl.v rfl (o_assign rfl) ?_
  refine WPl.nil (EX.then ?_)
  refine WP.cond rfl (fun hc1 => ?_) (fun hc1 => ?_)
  · try simp only [cnd] at hc1
    refine WP.seq (WP.region ?_)
    refine WPl.v rfl (o_assign rfl) ?_
    refine WPl.nil (EX.then (WP.ret (EX.ret_blk (EX.ret_then ?_))))
    rw [show clash b m n = 1 from clash1 hc1]
    exact EX.fin id (.inl rfl) rfl (.tmp rfl .nil) rfl (by simp [SV.res, El.res, At.res, keys]) trivial (by simp) (by simp)
  · try simp only [cnd] at hc1
    refine WP.seq (WP.region ?_)
    refine WPl.v rfl (o_fldp F58_1 rfl) ?_
    refine WPl.v rfl (o_ldp S3 rfl rfl rfl) ?_
    refine WPl.v rfl (o_fldp F58_1 rfl) ?_
    refine WPl.v rfl (o_ldp S3 rfl rfl rfl) ?_
    refine WPl.v rfl (o_eql rfl rfl) ?_
    refine WPl.v rfl (o_move rfl) ?_
    refine WPl.bit 7 8 (decide (((nth b.tals m).page) = ((nth b.tals n).page))) rfl rfl ?_
    refine WPl.gv 7 rfl rfl (.plain rfl Iff.rfl rfl) (fun hb => o_fldp F58_2 rfl) ?_
    refine WPl.gv 7 rfl rfl (.plain rfl Iff.rfl rfl) (fun hb => o_ldp S3 rfl rfl rfl) ?_
    refine WPl.gv 7 rfl rfl (.plain rfl Iff.rfl rfl) (fun hb => o_fldp F58_2 rfl) ?_
    refine WPl.gv 7 rfl rfl (.plain rfl Iff.rfl rfl) (fun hb => o_ldp S3 rfl rfl rfl) ?_
    refine WPl.gv 7 rfl rfl (.plain rfl Iff.rfl rfl) (fun hb => o_eql rfl rfl) ?_
    refine WPl.v rfl (o_and rfl rfl rfl id) ?_
    refine WPl.v rfl (o_assign rfl) ?_
    refine WPl.nil (EX.then ?_)
    refine WP.cond rfl (fun hc2 => ?_) (fun hc2 => ?_)
    · try simp only [cnd] at hc2
      refine WP.seq (WP.region ?_)
      refine WPl.v rfl (o_assign rfl) ?_
      refine WPl.nil (EX.then (WP.ret (EX.ret_blk (EX.ret_then ?_))))
      rw [show clash b m n = 2 from clash2 (by simpa using hc1) hc2]
      exact EX.fin id (.inl rfl) rfl (.tmp rfl .nil) rfl (by simp [SV.res, El.res, At.res, keys]) trivial (by simp) (by simp)
    · try simp only [cnd] at hc2
      refine WP.seq (WP.region ?_)
      refine WPl.v rfl (o_move rfl) ?_
      refine WPl.v rfl (o_move rfl) ?_
      refine WPl.v rfl (o_move rfl) ?_
      refine WPl.x 8 9 rfl rfl rfl (OpG.settle0 (o_bsl (E := EP.int) (l := [m, n]) R24 rfl rfl (.cons (rfl) rfl (eok_int) (.cons (rfl) rfl (eok_int) (.nil))) rfl rfl)) ?_
      refine WPl.cs 9 rfl rfl rfl rfl (o_sig 9 (ren [(0, 0), (1, 8)]) (c114 b [m, n] hB hs (by simp) (inBook2 hm hn)) e114 rfl rfl rfl w114 ⟨(lx rfl), (lx rfl), trivial⟩ r114) ?_
      refine WPl.v rfl (o_not rfl) ?_
      refine WPl.v rfl (o_assign rfl) ?_
      refine WPl.nil (EX.then ?_)
      refine WP.cond rfl (fun hc3 => ?_) (fun hc3 => ?_)
      · try simp only [cnd] at hc3
        refine WP.seq (WP.region ?_)
        refine WPl.v rfl (o_assign rfl) ?_
        refine WPl.nil (EX.then (WP.ret (EX.ret_blk (EX.ret_then ?_))))
        rw [show clash b m n = 3 from clash3 (by simpa using hc1) (by first | exact hc2 | exact nor hc2) (by simpa using hc3)]
        exact EX.fin id (.inl rfl) rfl (.tmp rfl .nil) rfl (by simp [SV.res, El.res, At.res, keys]) trivial (by simp) (by simp)
      · try simp only [cnd] at hc3
        refine WP.skip (EX.blk (EX.then (WP.seq (WP.region ?_))))
        refine WPl.v rfl (o_assign rfl) ?_
        refine WPl.nil (EX.then (WP.ret ?_))
        rw [show clash b m n = 0 from clash0 (by simpa using hc1) (by first | exact hc2 | exact nor hc2) (by simpa using hc3)]
        exact EX.fin id (.inl rfl) rfl (.tmp rfl .nil) rfl (by simp [SV.res, El.res, At.res, keys]) trivial (by simp) (by simp)
theorem w112 {b : Book} {l : List Int} : ∀ x ∈ ([.e (.a (.q 0)), .e (.a (.q 1))] : List SV), x.res (keys (α := Pred) [(0, PP EBk (b)), (1, PL EP.int (l))]) := by simp [SV.res, El.res, At.res, keys]
theorem r112 {b : Book} {l : List Int} : SV.res (keys (α := Pred) []) (.b (good b l)) := by simp [SV.res, El.res, At.res, keys]
set_option maxHeartbeats 4000000 in
theorem c112 (b : Book) (l : List Int) (hB : BookB b) (hs : b.set.length ≤ 1000) (hl : l.length ≤ 1000) (hin : inBook b l) : Sig Tryz.prog 112 [.e (.a (.q 0)), .e (.a (.q 1))] [(0, PP EBk (b)), (1, PL EP.int (l))] (.b (good b l)) [] := by
  refine Sig.intro Tryz.func112 rfl 2 [(0, .e (.a (.q 0))), (1, .e (.a (.q 1)))] rfl w112 rfl rfl fun I w => ?_
  refine WP.seq (WP.region ?_)
  refine WPl.v rfl (o_assign rfl) ?_
  refine WPl.nil (EX.then (WP.seq (WP.seq (WP.region ?_))))
  refine WPl.v rfl (o_move rfl) ?_
  refine WPl.v rfl (o_lenq L24 rfl (lx rfl)) ?_
  refine WPl.v rfl (o_move rfl) ?_
  refine WPl.nil (EX.then (WP.block ?_))
  refine WP.loop (Gh := Nat) (fun i => ⟨2, [(0, .e (.a (.q 0))), (1, .e (.a (.q 1))), (4, .b (false)), (10, .e (.a (.q 1))), (11, .i ((l.length : Int))), (12, .i ((i : Int)))], [(0, PP EBk (b)), (1, PL EP.int (l))], [], [], []⟩) (fun i => i ≤ l.length ∧ allI (apart b l) i = true) (fun i => l.length - i) (0) id ?_ (LeR.of ⟨rfl, rfl, rfl, rfl, rfl, rfl, trivial⟩ ⟨(lx rfl), (lx rfl), trivial⟩ trivial rfl rfl rfl rfl rfl) ?_
  · exact ⟨by omega, rfl⟩
  intro i hφ
  have hi : i ≤ l.length := hφ.1
  have hall := hφ.2
  refine WP.seq (WP.region ?_)
  refine WPl.v rfl (o_lss rfl rfl) ?_
  refine WPl.nil (EX.then (WP.seq ?_))
  refine WP.cond rfl (fun hc1 => ?_) (fun hc1 => ?_)
  · try simp only [cnd] at hc1
    refine WP.skip (EX.then (WP.seq (WP.block (WP.seq (WP.region ?_)))))
    refine WPl.v rfl (o_move rfl) ?_
    refine WPl.x 2 3 rfl rfl rfl (o_idx L24 rfl (lx rfl) rfl (by first | omega | (simp; omega)) (by first | omega | (simp; omega))) ?_
    refine WPl.v rfl (o_ldq S3 rfl (lx rfl) intc) ?_
    refine WPl.v rfl (o_assign rfl) ?_
    refine WPl.v rfl (o_assign rfl) ?_
    refine WPl.nil (EX.then (WP.seq (WP.region ?_)))
    refine WPl.v rfl (o_move rfl) ?_
    refine WPl.v rfl (o_move rfl) ?_
    refine WPl.x 3 4 rfl rfl rfl (o_slice (a := 0) (b := (i : Int)) L24 rfl (lx rfl) rfl rfl (by first | omega | (simp; omega)) (by first | omega | (simp; omega)) (by first | omega | (simp; omega))) ?_
    rw [show (l.take (i : Int).toNat).drop (0 : Int).toNat = l.take i from by simp]
    refine WPl.v rfl (o_lenq L24 rfl (lx rfl)) ?_
    refine WPl.v rfl (o_move rfl) ?_
    refine WPl.nil (EX.then (WP.block ?_))
    refine WP.loop (Gh := Nat) (fun j => ⟨4, [(0, .e (.a (.q 0))), (1, .e (.a (.q 1))), (4, .b (false)), (10, .e (.a (.q 1))), (11, .i ((l.length : Int))), (12, .i ((i : Int))), (13, .b (decide ((i : Int) < (l.length : Int)))), (14, .i ((i : Int))), (15, .e (.a (.q 2))), (16, .i (nth l (i : Int))), (5, .i ((i : Int))), (6, .i (nth l (i : Int))), (17, .e (.a (.q 1))), (18, .i ((i : Int))), (19, .e (.a (.q 3))), (20, .i (((l.take i).length : Int))), (21, .i ((j : Int)))], [(0, PP EBk (b)), (1, PL EP.int (l)), (2, PP EP.int (nth l (i : Int))), (3, PL EP.int (l.take i))], [], [], []⟩) (fun j => j ≤ (l.take i).length ∧ allI (apartAt b l i) j = true) (fun j => (l.take i).length - j) (0) id ?_ (LeR.of ⟨rfl, rfl, rfl, rfl, rfl, rfl, rfl, rfl, rfl, rfl, rfl, rfl, rfl, rfl, rfl, rfl, rfl, trivial⟩ ⟨(lx rfl), (lx rfl), (lx rfl), (lx rfl), trivial⟩ trivial rfl rfl rfl rfl rfl) ?_
    · exact ⟨by omega, rfl⟩
    intro j hφ
    have hj : j ≤ (l.take i).length := hφ.1
    have hin2 := hφ.2
    refine WP.seq (WP.region ?_)
    refine WPl.v rfl (o_lss rfl rfl) ?_
    refine WPl.nil (EX.then (WP.seq ?_))
    refine WP.cond rfl (fun hc2 => ?_) (fun hc2 => ?_)
    · try simp only [cnd] at hc2
      have hli : (l.take i).length = i := by rw [List.length_take]; omega
      have hni := hin i (by omega)
      have hnj : 0 ≤ nth (l.take i) (j : Int) ∧ nth (l.take i) (j : Int) < b.tals.length := by rw [nth_take (by omega)]; exact hin j (by omega)
      refine WP.skip (EX.then (WP.seq (WP.block (WP.seq (WP.region ?_)))))
      refine WPl.x 4 5 rfl rfl rfl (o_idx L24 rfl (lx rfl) rfl (by first | omega | (simp; omega)) (by first | omega | (simp; omega))) ?_
      refine WPl.v rfl (o_ldq S3 rfl (lx rfl) intc) ?_
      refine WPl.v rfl (o_assign rfl) ?_
      refine WPl.nil (EX.then (WP.seq (WP.region ?_)))
      refine WPl.v rfl (o_move rfl) ?_
      refine WPl.v rfl (o_move rfl) ?_
      refine WPl.v rfl (o_move rfl) ?_
      refine WPl.cs 5 rfl rfl rfl rfl (o_sig 5 (ren [(0, 0)]) (c113 b (nth (l.take i) (j : Int)) (nth l (i : Int)) hB hs hnj hni) e113 rfl rfl rfl w113 ⟨(lx rfl), trivial⟩ r113) ?_
      refine WPl.v rfl (o_assign rfl) ?_
      refine WPl.nil (EX.then (WP.seq (WP.region ?_)))
      refine WPl.v rfl (o_move rfl) ?_
      refine WPl.v rfl (o_eql rfl rfl) ?_
      refine WPl.v rfl (o_move rfl) ?_
      refine WPl.bit 5 6 (!(decide ((clash b (nth (l.take i) (j : Int)) (nth l (i : Int))) = 1))) rfl rfl ?_
      refine WPl.gv 5 rfl rfl (.plain rfl (by first | (simp; done) | simp only [Bool.not_eq_true']) rfl) (fun hb => o_move rfl) ?_
      refine WPl.gv 5 rfl rfl (.plain rfl (by first | (simp; done) | simp only [Bool.not_eq_true']) rfl) (fun hb => o_eql rfl rfl) ?_
      refine WPl.v rfl (o_or rfl rfl rfl (by first | (simp; done) | exact fun h => by rw [h]; rfl | exact fun h => Bool.and_eq_true_iff.2 ⟨hb, by rw [h]; rfl⟩ | simp_all)) ?_
      refine WPl.nil (EX.then ?_)
      refine WP.cond rfl (fun hc3 => ?_) (fun hc3 => ?_)
      · try simp only [cnd] at hc3
        refine WP.seq (WP.region ?_)
        refine WPl.v rfl (o_assign rfl) ?_
        refine WPl.nil (EX.then (WP.ret (EX.ret_blk (EX.ret_then (EX.ret_then (EX.ret_blk (EX.ret_blk (EX.ret_then (EX.ret_then (EX.ret_blk (EX.ret_then ?_)))))))))))
        rw [show good b l = false from by unfold good; rw [not_allI (show i < l.length by omega) (by unfold apart; exact not_allI (show j < (l.take i).length by omega) (by simp only [apartAt, Bool.not_eq_false', Bool.or_eq_true, decide_eq_true_eq]; exact hc3))]; rfl]
        exact EX.fin id (.inl rfl) rfl (.tmp rfl .nil) rfl (by simp [SV.res, El.res, At.res, keys]) trivial (by simp) (by simp)
      · try simp only [cnd] at hc3
        refine WP.skip (EX.blk (EX.then (WP.region ?_)))
        refine WPl.v rfl (o_add rfl rfl (by first | omega | (simp; omega)) (by first | omega | (simp; omega))) ?_
        refine WPl.v rfl (o_move rfl) ?_
        refine WPl.nil ?_
        refine EX.again (j + 1) id (by exact ⟨by omega, by simp only [allI, hin2, Bool.true_and, apartAt, Bool.not_eq_true', Bool.or_eq_false_iff, decide_eq_false_iff_not]; exact hc3⟩) (by omega) (LeR.of ⟨rfl, rfl, rfl, rfl, rfl, rfl, rfl, rfl, rfl, rfl, rfl, rfl, rfl, rfl, rfl, rfl, rfl, trivial⟩ ⟨(lx rfl), (lx rfl), (lx rfl), (lx rfl), trivial⟩ trivial rfl rfl rfl rfl rfl)
    · try simp only [cnd] at hc2
      refine WP.exit (EX.exit_then (EX.exit_then (EX.exit_blk (EX.blk (EX.then (WP.region ?_))))))
      refine WPl.v rfl (o_add rfl rfl (by first | omega | (simp; omega)) (by first | omega | (simp; omega))) ?_
      refine WPl.v rfl (o_move rfl) ?_
      refine WPl.nil ?_
      refine EX.again (i + 1) id (by exact ⟨by omega, by simp only [allI, hall, Bool.true_and]; unfold apart; rw [show (l.take i).length = j by omega]; exact hin2⟩) (by omega) (LeR.of ⟨rfl, rfl, rfl, rfl, rfl, rfl, trivial⟩ ⟨(lx rfl), (lx rfl), trivial⟩ trivial rfl rfl rfl rfl rfl)
  · try simp only [cnd] at hc1
    refine WP.exit (EX.exit_then (EX.exit_then (EX.exit_blk (EX.then (WP.seq (WP.region ?_))))))
    refine WPl.v rfl (o_move rfl) ?_
    refine WPl.v rfl (o_move rfl) ?_
    refine WPl.cs 2 rfl rfl rfl rfl (o_sig 2 (ren [(0, 0), (1, 1)]) (c114 b l (by omega) (by omega) (by omega) (by omega)) e114 rfl rfl rfl w114 ⟨(lx rfl), (lx rfl), trivial⟩ r114) ?_
    refine WPl.v rfl (o_assign rfl) ?_
    refine WPl.nil (EX.then (WP.ret ?_))
    have hie : i = l.length := by omega
    subst hie
    rw [show good b l = enough b l from by unfold good; rw [hall]; simp]
    exact EX.fin id (.inl rfl) rfl (.tmp rfl .nil) rfl (by simp [SV.res, El.res, At.res, keys]) trivial (by simp) (by simp)
theorem w121 {b : BookS} {m : Nat} {h : Nat → Bool} : ∀ x ∈ ([.e (.a (.q 0)), .e (.a (.q 1))] : List SV), x.res (keys (α := Pred) [(0, PP EBs (b)), (1, HitS m h)]) := by simp [SV.res, El.res, At.res, keys]
theorem r121 {b : BookS} {h : Nat → Bool} : SV.res (keys (α := Pred) []) (.i (cntB h b.sts b.sts.length)) := by simp [SV.res, El.res, At.res, keys]
set_option maxHeartbeats 4000000 in
theorem c121 (b : BookS) (m : Nat) (h : Nat → Bool) (hl : b.sts.length ≤ 256) (h2 : ∀ i : Nat, i < b.sts.length → nth b.sts (i : Int) < m) : Sig Tryz.prog 121 [.e (.a (.q 0)), .e (.a (.q 1))] [(0, PP EBs (b)), (1, HitS m h)] (.i (cntB h b.sts b.sts.length)) [] := by
  refine Sig.intro Tryz.func121 rfl 2 [(0, .e (.a (.q 0))), (1, .e (.a (.q 1)))] rfl w121 rfl rfl fun I w => ?_
  refine WP.seq (WP.region ?_)
  refine WPl.v rfl (o_assign rfl) ?_
  refine WPl.nil (EX.then (WP.seq (WP.region ?_)))
  refine WPl.v rfl (o_assign rfl) ?_
  refine WPl.nil (EX.then (WP.seq (WP.seq (WP.region ?_))))
  refine WPl.v rfl (o_move rfl) ?_
  refine WPl.v rfl (o_nilq rfl (lx rfl)) ?_
  refine WPl.v rfl (o_fldq F109_1 rfl (lx rfl)) ?_
  refine WPl.x 2 3 rfl rfl rfl (o_ldex S107 rfl (lx rfl) (strS rfl)) ?_
  refine WPl.v rfl (o_lenq L107 rfl (lx rfl)) ?_
  refine WPl.v rfl (o_move rfl) ?_
  refine WPl.nil (EX.then (WP.block ?_))
  refine WP.loop (Gh := Nat) (fun i => ⟨3, [(1, .e (.a (.q 1))), (4, .i (0)), (5, .i (cntB h b.sts i)), (11, .e (.a (.q 2))), (12, .i ((b.sts.length : Int))), (13, .i (i))], [(1, HitS m h), (2, PL EP.u64 (b.sts))], [], [], []⟩) (fun i => i ≤ b.sts.length) (fun i => b.sts.length - i) (0) id ?_ (LeR.of ⟨rfl, rfl, rfl, rfl, rfl, rfl, trivial⟩ ⟨(lx rfl), (lx rfl), trivial⟩ trivial rfl rfl rfl rfl rfl) ?_
  · first | trivial | omega | (constructor <;> omega) | simp
  intro i hφ
  have hi : i ≤ b.sts.length := hφ
  have hcl := cntB_le h b.sts i
  refine WP.seq (WP.region ?_)
  refine WPl.v rfl (o_lss rfl rfl) ?_
  refine WPl.nil (EX.then (WP.seq ?_))
  refine WP.cond rfl (fun hc1 => ?_) (fun hc1 => ?_)
  · try simp only [cnd] at hc1
    refine WP.skip (EX.then (WP.seq (WP.block (WP.seq (WP.region ?_)))))
    refine WPl.x 3 4 rfl rfl rfl (o_idx L107 rfl (lx rfl) rfl (by first | omega | (simp; omega)) (by first | omega | (simp; omega))) ?_
    refine WPl.v rfl (o_ldq S105 rfl (lx rfl) u64c) ?_
    refine WPl.v rfl (o_assign rfl) ?_
    refine WPl.nil (EX.then (WP.seq (WP.region ?_)))
    refine WPl.v rfl (o_move rfl) ?_
    refine WPl.v rfl (o_move rfl) ?_
    refine WPl.cs 4 rfl rfl rfl rfl (o_callfv (svs := [.e (.a (.v (.int .u64 ((⟨nth b.sts (i : Int), h2 i (by omega)⟩ : StyB m).1 : Int))))]) 4 id rfl (show Has _ 1 (FvP Tryz.prog [.e (.a (.v (.int .u64 ((⟨nth b.sts (i : Int), h2 i (by omega)⟩ : StyB m).1 : Int))))] [] (.b (h (⟨nth b.sts (i : Int), h2 i (by omega)⟩ : StyB m).1)) []) from (Has.of (lx rfl) fun _ _ h => Pred.fall_at h ((⟨nth b.sts (i : Int), h2 i (by omega)⟩ : StyB m)))) rfl rfl SvsOK.rf (by simp [SV.res, El.res, At.res, keys]) trivial (by simp [SV.res, El.res, At.res, keys])) ?_
    refine WPl.nil (EX.then ?_)
    refine WP.cond rfl (fun hc2 => ?_) (fun hc2 => ?_)
    · try simp only [cnd] at hc2
      refine WP.region ?_
      refine WPl.v rfl (o_move rfl) ?_
      refine WPl.v rfl (o_add rfl rfl (by first | omega | (simp; omega)) (by first | omega | (simp; omega))) ?_
      refine WPl.v rfl (o_assign rfl) ?_
      refine WPl.nil (EX.blk (EX.then (WP.region ?_)))
      refine WPl.v rfl (o_add rfl rfl (by first | omega | (simp; omega)) (by first | omega | (simp; omega))) ?_
      refine WPl.v rfl (o_move rfl) ?_
      refine WPl.nil ?_
      refine EX.again (i + 1) id (by first | omega | (constructor <;> omega)) (by omega) (LeR.of ⟨rfl, rfl, (congrArg (fun z => some (SV.i z)) (show ((cntB h b.sts i) + 1) = ((fun i => cntB h b.sts i) (i + 1)) from by simp only [cntB]; rw [if_pos hc2])), rfl, rfl, rfl, trivial⟩ ⟨(lx rfl), (lx rfl), trivial⟩ trivial rfl rfl rfl rfl rfl)
    · try simp only [cnd] at hc2
      refine WP.skip (EX.blk (EX.then (WP.region ?_)))
      refine WPl.v rfl (o_add rfl rfl (by first | omega | (simp; omega)) (by first | omega | (simp; omega))) ?_
      refine WPl.v rfl (o_move rfl) ?_
      refine WPl.nil ?_
      refine EX.again (i + 1) id (by first | omega | (constructor <;> omega)) (by omega) (LeR.of ⟨rfl, rfl, (congrArg (fun z => some (SV.i z)) (show (cntB h b.sts i) = ((fun i => cntB h b.sts i) (i + 1)) from by simp only [cntB]; rw [if_neg (by rw [hc2]; simp)])), rfl, rfl, rfl, trivial⟩ ⟨(lx rfl), (lx rfl), trivial⟩ trivial rfl rfl rfl rfl rfl)
  · try simp only [cnd] at hc1
    refine WP.exit (EX.exit_then (EX.exit_then (EX.exit_blk (EX.then (WP.seq (WP.region ?_))))))
    refine WPl.v rfl (o_move rfl) ?_
    refine WPl.v rfl (o_assign rfl) ?_
    refine WPl.nil (EX.then (WP.ret ?_))
    have hie : i = b.sts.length := by omega
    subst hie
    exact EX.fin id (.inl rfl) rfl (.tmp rfl .nil) rfl (by simp [SV.res, El.res, At.res, keys]) trivial (by simp) (by simp)
theorem w81 {b : BookS} {m : Nat} {h : Nat → Bool} : ∀ x ∈ ([.e (.a (.q 0)), .e (.a (.q 1))] : List SV), x.res (keys (α := Pred) [(0, PP EBs (b)), (1, HitS m h)]) := by simp [SV.res, El.res, At.res, keys]
theorem r81 {b : BookS} {h : Nat → Bool} : SV.res (keys (α := Pred) []) (.i (knownS b h)) := by simp [SV.res, El.res, At.res, keys]
set_option maxHeartbeats 4000000 in
theorem c81 (b : BookS) (m : Nat) (h : Nat → Bool) (hl : b.sts.length ≤ 256) (h2 : ∀ i : Nat, i < b.sts.length → nth b.sts (i : Int) < m) : Sig Tryz.prog 81 [.e (.a (.q 0)), .e (.a (.q 1))] [(0, PP EBs (b)), (1, HitS m h)] (.i (knownS b h)) [] := by
  refine Sig.intro Tryz.func81 rfl 2 [(0, .e (.a (.q 0))), (1, .e (.a (.q 1)))] rfl w81 rfl rfl fun I w => ?_
  refine WP.seq (WP.region ?_)
  refine WPl.v rfl (o_assign rfl) ?_
  refine WPl.nil (EX.then (WP.seq (WP.seq (WP.region ?_))))
  refine WPl.v rfl (o_move rfl) ?_
  refine WPl.v rfl (o_move rfl) ?_
  refine WPl.cs 2 rfl rfl rfl rfl (o_sig 2 (ren [(0, 0), (1, 1)]) (c121 b m h hl h2) e121 rfl rfl rfl w121 ⟨(lx rfl), (lx rfl), trivial⟩ r121) ?_
  refine WPl.nil (EX.then (WP.block (WP.seq (WP.region ?_))))
  refine WPl.v rfl (o_move rfl) ?_
  refine WPl.v rfl (o_nilq rfl (lx rfl)) ?_
  refine WPl.v rfl (o_fldq F109_1 rfl (lx rfl)) ?_
  refine WPl.x 2 3 rfl rfl rfl (o_ldex S107 rfl (lx rfl) (strS rfl)) ?_
  refine WPl.v rfl (o_lenq L107 rfl (lx rfl)) ?_
  refine WPl.v rfl (o_eql rfl rfl) ?_
  refine WPl.v rfl (o_assign rfl) ?_
  refine WPl.nil (EX.then ?_)
  refine WP.cond rfl (fun hc1 => ?_) (fun hc1 => ?_)
  · try simp only [cnd] at hc1
    refine WP.seq (WP.region ?_)
    refine WPl.v rfl (o_assign rfl) ?_
    refine WPl.nil (EX.then (WP.ret (EX.ret_blk (EX.ret_then ?_))))
    rw [show knownS b h = 1 from if_pos hc1]
    exact EX.fin id (.inl rfl) rfl (.tmp rfl .nil) rfl (by simp [SV.res, El.res, At.res, keys]) trivial (by simp) (by simp)
  · try simp only [cnd] at hc1
    refine WP.seq (WP.region ?_)
    refine WPl.v rfl (o_eql rfl rfl) ?_
    refine WPl.v rfl (o_assign rfl) ?_
    refine WPl.nil (EX.then ?_)
    refine WP.cond rfl (fun hc2 => ?_) (fun hc2 => ?_)
    · try simp only [cnd] at hc2
      refine WP.seq (WP.region ?_)
      refine WPl.v rfl (o_assign rfl) ?_
      refine WPl.nil (EX.then (WP.ret (EX.ret_blk (EX.ret_then ?_))))
      rw [show knownS b h = 2 from by unfold knownS; rw [if_neg hc1, if_pos hc2]]
      exact EX.fin id (.inl rfl) rfl (.tmp rfl .nil) rfl (by simp [SV.res, El.res, At.res, keys]) trivial (by simp) (by simp)
    · try simp only [cnd] at hc2
      refine WP.skip (EX.blk (EX.then (WP.seq (WP.region ?_))))
      refine WPl.v rfl (o_assign rfl) ?_
      refine WPl.nil (EX.then (WP.ret ?_))
      rw [show knownS b h = 3 from by unfold knownS; rw [if_neg hc1, if_neg hc2]]
      exact EX.fin id (.inl rfl) rfl (.tmp rfl .nil) rfl (by simp [SV.res, El.res, At.res, keys]) trivial (by simp) (by simp)
end Go.Flong
namespace Go.Flong
open Go Go.Eng Go.Proofs
theorem e49 : Enters' Tryz.prog 49 := Tryz.call49
theorem B109 : BldT Tryz.prog 109 [(0, 10), (10, 1)] [.slice none 0 0, .slice none 0 0, .slice none 0 0, .int .i64 0, .slice none 0 0, .slice none 0 0, .slice none 0 0, .slice none 0 0, .int .i64 0, .slice none 0 0, .slice none 0 0] := BldT.mk (ns := [10, 1]) Tryz.underlying109 ⟨Tryz.sizeOf33, Tryz.sizeOf107, trivial⟩ rfl Tryz.zeroValue109 rfl
theorem w111 {b : Book} {v : Bool} : ∀ x ∈ ([.e (.g [.q 0, .q 1, .q 2, ai (b.hall.change), .q 3, .q 4, .q 5, .q 6, ai (b.boys), .q 7]), .b (v)] : List SV), x.res (keys (α := Pred) [(0, PL ETm (b.hall.machs)), (1, PL EBd (b.hall.buns)), (2, PL EP.int (b.hall.trains)), (3, PL EP.int (b.hall.bores)), (4, PL (EP.sl EP.int) (b.hall.eds)), (5, PL EPl (b.set)), (6, PL EP.int (b.walk)), (7, PL ETa (b.tals))]) := by simp [SV.res, El.res, At.res, keys]
theorem b111 {b : Book} : ∀ c ∈ ([.q 0, .q 1, .q 2, ai (b.hall.change), .q 3, .q 4, .q 5, .q 6, ai (b.boys), .q 7, .v (.slice none 0 0)] : List At), c.res (keys (α := Pred) [(0, PL ETm (b.hall.machs)), (1, PL EBd (b.hall.buns)), (2, PL EP.int (b.hall.trains)), (3, PL EP.int (b.hall.bores)), (4, PL (EP.sl EP.int) (b.hall.eds)), (5, PL EPl (b.set)), (6, PL EP.int (b.walk)), (7, PL ETa (b.tals)), (8, Pred.top)]) := by simp [At.res, keys]
set_option maxHeartbeats 4000000 in
theorem c111 (b : Book) (v : Bool) (hm : b.Small) (hc : b.chk = true) (hv : v = true) : SigB Tryz.prog 111 [.e (.g [.q 0, .q 1, .q 2, ai (b.hall.change), .q 3, .q 4, .q 5, .q 6, ai (b.boys), .q 7]), .b (v)] [(0, PL ETm (b.hall.machs)), (1, PL EBd (b.hall.buns)), (2, PL EP.int (b.hall.trains)), (3, PL EP.int (b.hall.bores)), (4, PL (EP.sl EP.int) (b.hall.eds)), (5, PL EPl (b.set)), (6, PL EP.int (b.walk)), (7, PL ETa (b.tals))] 8 [.q 0, .q 1, .q 2, ai (b.hall.change), .q 3, .q 4, .q 5, .q 6, ai (b.boys), .q 7, .v (.slice none 0 0)] 109 (.int .i64 0) [(0, PL ETm (b.hall.machs)), (1, PL EBd (b.hall.buns)), (2, PL EP.int (b.hall.trains)), (3, PL EP.int (b.hall.bores)), (4, PL (EP.sl EP.int) (b.hall.eds)), (5, PL EPl (b.set)), (6, PL EP.int (b.walk)), (7, PL ETa (b.tals)), (8, Pred.top)] := by
  refine SigB.intro Tryz.func111 rfl 8 [(0, .e (.g [.q 0, .q 1, .q 2, ai (b.hall.change), .q 3, .q 4, .q 5, .q 6, ai (b.boys), .q 7])), (1, .b (v))] rfl w111 rfl rfl fun I w => ?_
  refine WP.seq (WP.region ?_)
  refine WPl.l 8 9 rfl rfl rfl (o_boxg rfl) ?_
  refine WPl.v rfl (o_assign rfl) ?_
  refine WPl.v rfl (o_assign rfl) ?_
  refine WPl.nil (EX.then (WP.seq (WP.seq (WP.region ?_))))
  refine WPl.v rfl (o_ldpa G33 rfl rfl rfl) ?_
  refine WPl.cs 9 rfl rfl rfl rfl (o_sig 9 (ren [(0, 0), (1, 1), (2, 2), (3, 3), (4, 4), (5, 5), (6, 6), (7, 7)]) (c49 b hm) e49 rfl rfl rfl w49 ⟨(lx rfl), (lx rfl), (lx rfl), (lx rfl), (lx rfl), (lx rfl), (lx rfl), (lx rfl), trivial⟩ r49) ?_
  refine WPl.v rfl (o_assign rfl) ?_
  refine WPl.nil (EX.then (WP.seq (WP.region ?_)))
  refine WPl.v rfl (o_move rfl) ?_
  refine WPl.v rfl (o_neq rfl rfl) ?_
  refine WPl.nil (EX.then ?_)
  refine WP.cond rfl (fun hc1 => ?_) (fun hc1 => ?_)
  · try simp only [cnd] at hc1
    simp [errT, hc] at hc1
  · try simp only [cnd] at hc1
    refine WP.skip (EX.then (WP.seq (WP.seq (WP.region ?_))))
    refine WPl.v rfl (o_move rfl) ?_
    refine WPl.v rfl (o_not rfl) ?_
    refine WPl.nil (EX.then ?_)
    refine WP.cond rfl (fun hc2 => ?_) (fun hc2 => ?_)
    · try simp only [cnd] at hc2
      simp [hv] at hc2
    · try simp only [cnd] at hc2
      refine WP.skip (EX.then (WP.seq (WP.region ?_)))
      refine WPl.v rfl (o_ldpa G33 rfl rfl rfl) ?_
      refine WPl.v rfl (o_build B109 rfl trivial rfl rfl) ?_
      refine WPl.l 9 10 rfl rfl rfl (o_boxg rfl) ?_
      refine WPl.v rfl (o_assign rfl) ?_
      refine WPl.v rfl (o_assign rfl) ?_
      refine WPl.nil (EX.then (WP.ret ?_))
      refine EX.imp (Imp.topB 9 rfl) ?_
      exact EX.finB (ren [(8, 9), (0, 0), (1, 1), (2, 2), (3, 3), (4, 4), (5, 5), (6, 6), (7, 7)]) rfl (.inl rfl) rfl (.tmp rfl (.tmp rfl .nil)) rfl b111 ⟨(lx rfl), (lx rfl), (lx rfl), (lx rfl), (lx rfl), (lx rfl), (lx rfl), (lx rfl), lx rfl, trivial⟩ rfl (by simp) (by simp)
theorem w111E {b : Book} {v : Bool} : ∀ x ∈ ([.e (.g [.q 0, .q 1, .q 2, ai (b.hall.change), .q 3, .q 4, .q 5, .q 6, ai (b.boys), .q 7]), .b (v)] : List SV), x.res (keys (α := Pred) [(0, PL ETm (b.hall.machs)), (1, PL EBd (b.hall.buns)), (2, PL EP.int (b.hall.trains)), (3, PL EP.int (b.hall.bores)), (4, PL (EP.sl EP.int) (b.hall.eds)), (5, PL EPl (b.set)), (6, PL EP.int (b.walk)), (7, PL ETa (b.tals))]) := by simp [SV.res, El.res, At.res, keys]
theorem r111E {b : Book} {v : Bool} : SV.res (keys (α := Pred) []) (.t [.a (.v (.pointer none)), .a (ai (askE b v))]) := by simp [SV.res, El.res, At.res, keys]
set_option maxHeartbeats 4000000 in
theorem c111E (b : Book) (v : Bool) (hm : b.Small) (hv : askE b v ≠ 0) : Sig Tryz.prog 111 [.e (.g [.q 0, .q 1, .q 2, ai (b.hall.change), .q 3, .q 4, .q 5, .q 6, ai (b.boys), .q 7]), .b (v)] [(0, PL ETm (b.hall.machs)), (1, PL EBd (b.hall.buns)), (2, PL EP.int (b.hall.trains)), (3, PL EP.int (b.hall.bores)), (4, PL (EP.sl EP.int) (b.hall.eds)), (5, PL EPl (b.set)), (6, PL EP.int (b.walk)), (7, PL ETa (b.tals))] (.t [.a (.v (.pointer none)), .a (ai (askE b v))]) [] := by
  refine Sig.intro Tryz.func111 rfl 8 [(0, .e (.g [.q 0, .q 1, .q 2, ai (b.hall.change), .q 3, .q 4, .q 5, .q 6, ai (b.boys), .q 7])), (1, .b (v))] rfl w111E rfl rfl fun I w => ?_
  refine WP.seq (WP.region ?_)
  refine WPl.l 8 9 rfl rfl rfl (o_boxg rfl) ?_
  refine WPl.v rfl (o_assign rfl) ?_
  refine WPl.v rfl (o_assign rfl) ?_
  refine WPl.nil (EX.then (WP.seq (WP.seq (WP.region ?_))))
  refine WPl.v rfl (o_ldpa G33 rfl rfl rfl) ?_
  refine WPl.cs 9 rfl rfl rfl rfl (o_sig 9 (ren [(0, 0), (1, 1), (2, 2), (3, 3), (4, 4), (5, 5), (6, 6), (7, 7)]) (c49 b hm) e49 rfl rfl rfl w49 ⟨(lx rfl), (lx rfl), (lx rfl), (lx rfl), (lx rfl), (lx rfl), (lx rfl), (lx rfl), trivial⟩ r49) ?_
  refine WPl.v rfl (o_assign rfl) ?_
  refine WPl.nil (EX.then (WP.seq (WP.region ?_)))
  refine WPl.v rfl (o_move rfl) ?_
  refine WPl.v rfl (o_neq rfl rfl) ?_
  refine WPl.nil (EX.then ?_)
  refine WP.cond rfl (fun hc1 => ?_) (fun hc1 => ?_)
  · try simp only [cnd] at hc1
    refine WP.seq (WP.region ?_)
    refine WPl.v rfl (o_move rfl) ?_
    refine WPl.v rfl (o_assign rfl) ?_
    refine WPl.v rfl (o_assign rfl) ?_
    refine WPl.nil (EX.then (WP.ret (EX.ret_then ?_)))
    rw [show askE b v = errT b.chk from ask0 (by simpa using hc1)]
    exact EX.fin id (.inl rfl) rfl (.tmp rfl (.tmp rfl .nil)) rfl (by simp [SV.res, El.res, At.res, keys]) trivial (by simp) (by simp)
  · try simp only [cnd] at hc1
    refine WP.skip (EX.then (WP.seq (WP.seq (WP.region ?_))))
    refine WPl.v rfl (o_move rfl) ?_
    refine WPl.v rfl (o_not rfl) ?_
    refine WPl.nil (EX.then ?_)
    refine WP.cond rfl (fun hc2 => ?_) (fun hc2 => ?_)
    · try simp only [cnd] at hc2
      refine WP.seq (WP.region ?_)
      refine WPl.v rfl (o_assign rfl) ?_
      refine WPl.v rfl (o_assign rfl) ?_
      refine WPl.nil (EX.then (WP.ret (EX.ret_then ?_)))
      rw [show askE b v = 1 from ask1 (by simpa using hc1) (by simpa using hc2)]
      exact EX.fin id (.inl rfl) rfl (.tmp rfl (.tmp rfl .nil)) rfl (by simp [SV.res, El.res, At.res, keys]) trivial (by simp) (by simp)
    · try simp only [cnd] at hc2
      exact absurd (askE_eq.2 ⟨errT_eq.1 (by simpa using hc1), by simpa using hc2⟩) hv
end Go.Flong
namespace Go.Flong
open Go Go.Eng Go.Proofs
theorem e99 : Enters' Tryz.prog 99 := Tryz.call99
theorem e134 : Enters' Tryz.prog 134 := Tryz.call134
theorem w133 {s t : Nat} : ∀ x ∈ ([.e (.a (.v (.int .u64 (s : Int)))), .e (.a (.v (.int .u64 (t : Int))))] : List SV), x.res (keys (α := Pred) [(0, (Pred.tab 1 tz64))]) := by simp [SV.res, El.res, At.res, keys]
theorem r133 {s t : Nat} : SV.res (keys (α := Pred) []) (.i (cmpL (bitsL s) (bitsL t))) := by simp [SV.res, El.res, At.res, keys]
set_option maxHeartbeats 4000000 in
theorem c133 (s t : Nat) (hs : s < 256) (ht : t < 256) : Sig Tryz.prog 133 [.e (.a (.v (.int .u64 (s : Int)))), .e (.a (.v (.int .u64 (t : Int))))] [(0, (Pred.tab 1 tz64))] (.i (cmpL (bitsL s) (bitsL t))) [] := by
  refine Sig.intro Tryz.func133 rfl 1 [(0, .e (.a (.v (.int .u64 (s : Int))))), (1, .e (.a (.v (.int .u64 (t : Int)))))] rfl w133 rfl rfl fun I w => ?_
  refine WP.seq (WP.region ?_)
  refine WPl.v rfl (o_assign rfl) ?_
  refine WPl.nil (EX.then (WP.seq (WP.region ?_)))
  refine WPl.v rfl (o_move rfl) ?_
  refine WPl.cs 2 rfl rfl rfl rfl (o_sig 1 (ren [(0, 0)]) (c99 s hs) e99 rfl rfl rfl w99 ⟨(lx rfl), trivial⟩ r99) ?_
  refine WPl.v rfl (o_move rfl) ?_
  refine WPl.cs 3 rfl rfl rfl rfl (o_sig 2 (ren [(0, 0)]) (c99 t ht) e99 rfl rfl rfl w99 ⟨(lx rfl), trivial⟩ r99) ?_
  refine WPl.cs 3 rfl rfl rfl rfl (o_sig 3 (ren [(0, 1), (1, 2)]) (c134 (bitsL s) (bitsL t) (by have := bitsL_len s; omega) (by have := bitsL_len t; omega)) e134 rfl rfl rfl w134 ⟨(lx rfl), (lx rfl), trivial⟩ r134) ?_
  refine WPl.v rfl (o_assign rfl) ?_
  refine WPl.nil (EX.then (WP.ret ?_))
  exact EX.fin id (.inl rfl) rfl (.tmp rfl .nil) rfl r133 trivial (by simp) (by simp)
end Go.Flong
namespace Go.Proofs
open Go.Shelf Go.RowKit Go.Lib Go.Sort Go.Flong
def Tryz.sortOf_ren : Go.Shelf.Ren := ⟨fun | 6 => 132 | 15 => 155 | 14 => 154 | 28 => 178 | 29 => 179 | 20 => 170 | 21 => 171 | 22 => 172 | 23 => 173 | 24 => 174 | 25 => 175 | 26 => 176 | 27 => 177 | 46 => 182 | 47 => 183 | 48 => 184 | 49 => 185 | 50 => 186 | 57 => 187 | n => n, fun | 22 => 107 | 24 => 105 | 25 => 147 | 3 => 3 | 39 => 104 | 0 => 0 | 53 => 160 | 55 => 162 | 4 => 4 | 46 => 170 | 45 => 169 | 50 => 174 | 5 => 5 | 9 => 9 | 66 => 180 | 70 => 184 | 76 => 186 | 77 => 187 | n => n, fun | n => n⟩
theorem Tryz.sortOf : Go.Proofs.SlLaysF.n6 Tryz.prog Tryz.sortOf_ren := {
  mixed := by kernel_rfl,
  f6 := ⟨Tryz.f132.name, by decide, Tryz.func132.trans (congrArg some (by kernel_rfl))⟩,
  f14 := ⟨Tryz.f154.name, by decide, Tryz.func154.trans (congrArg some (by kernel_rfl))⟩,
  f15 := Tryz.func155.trans (congrArg some (by kernel_rfl)),
  f20 := ⟨Tryz.f170.name, by decide, Tryz.func170.trans (congrArg some (by kernel_rfl))⟩,
  f21 := ⟨Tryz.f171.name, by decide, Tryz.func171.trans (congrArg some (by kernel_rfl))⟩,
  f22 := ⟨Tryz.f172.name, by decide, Tryz.func172.trans (congrArg some (by kernel_rfl))⟩,
  f23 := ⟨Tryz.f173.name, by decide, Tryz.func173.trans (congrArg some (by kernel_rfl))⟩,
  f24 := ⟨Tryz.f174.name, by decide, Tryz.func174.trans (congrArg some (by kernel_rfl))⟩,
  f25 := ⟨Tryz.f175.name, by decide, Tryz.func175.trans (congrArg some (by kernel_rfl))⟩,
  f26 := ⟨Tryz.f176.name, by decide, Tryz.func176.trans (congrArg some (by kernel_rfl))⟩,
  f27 := ⟨Tryz.f177.name, by decide, Tryz.func177.trans (congrArg some (by kernel_rfl))⟩,
  f28 := Tryz.func178.trans (congrArg some (by kernel_rfl)),
  f29 := Tryz.func179.trans (congrArg some (by kernel_rfl)),
  f46 := ⟨Tryz.f182.name, by decide, Tryz.func182.trans (congrArg some (by kernel_rfl))⟩,
  f47 := Tryz.func183.trans (congrArg some (by kernel_rfl)),
  f48 := Tryz.func184.trans (congrArg some (by kernel_rfl)),
  f49 := ⟨Tryz.f185.name, by decide, Tryz.func185.trans (congrArg some (by kernel_rfl))⟩,
  f50 := ⟨Tryz.f186.name, by decide, Tryz.func186.trans (congrArg some (by kernel_rfl))⟩,
  f57 := ⟨Tryz.f187.name, by decide, Tryz.func187.trans (congrArg some (by kernel_rfl))⟩,
  t0 := Tryz.underlying0,
  a0 := Tryz.isAgg0,
  z0 := Tryz.sizeOf0,
  v0 := Tryz.zeroValue0,
  t3 := Tryz.underlying3,
  a3 := Tryz.isAgg3,
  z3 := Tryz.sizeOf3,
  v3 := Tryz.zeroValue3,
  t4 := Tryz.underlying4,
  a4 := Tryz.isAgg4,
  z4 := Tryz.sizeOf4,
  v4 := Tryz.zeroValue4,
  t5 := Tryz.underlying5,
  a5 := Tryz.isAgg5,
  z5 := Tryz.sizeOf5,
  v5 := Tryz.zeroValue5,
  t9 := Tryz.underlying9,
  a9 := Tryz.isAgg9,
  z9 := Tryz.sizeOf9,
  v9 := Tryz.zeroValue9,
  t22 := Tryz.underlying107,
  a22 := Tryz.isAgg107,
  z22 := Tryz.sizeOf107,
  v22 := Tryz.zeroValue107,
  a24 := Tryz.isAgg105,
  z24 := Tryz.sizeOf105,
  t25 := Tryz.underlying147,
  a25 := Tryz.isAgg147,
  z25 := Tryz.sizeOf147,
  v25 := Tryz.zeroValue147,
  t39 := Tryz.underlying104,
  a39 := Tryz.isAgg104,
  z39 := Tryz.sizeOf104,
  v39 := Tryz.zeroValue104,
  t45 := Tryz.underlying169,
  a45 := Tryz.isAgg169,
  z45 := Tryz.sizeOf169,
  v45 := Tryz.zeroValue169,
  t46 := Tryz.underlying170,
  a46 := Tryz.isAgg170,
  z46 := Tryz.sizeOf170,
  v46 := Tryz.zeroValue170,
  t50 := Tryz.underlying174,
  a50 := Tryz.isAgg174,
  z50 := Tryz.sizeOf174,
  v50 := Tryz.zeroValue174,
  t53 := Tryz.underlying160,
  a53 := Tryz.isAgg160,
  z53 := Tryz.sizeOf160,
  v53 := Tryz.zeroValue160,
  t55 := Tryz.underlying162,
  a55 := Tryz.isAgg162,
  z55 := Tryz.sizeOf162,
  v55 := Tryz.zeroValue162,
  t66 := Tryz.underlying180,
  a66 := Tryz.isAgg180,
  z66 := Tryz.sizeOf180,
  v66 := Tryz.zeroValue180,
  t70 := Tryz.underlying184,
  a70 := Tryz.isAgg184,
  z70 := Tryz.sizeOf184,
  v70 := Tryz.zeroValue184,
  t76 := Tryz.underlying186,
  a76 := Tryz.isAgg186,
  z76 := Tryz.sizeOf186,
  v76 := Tryz.zeroValue186,
  t77 := Tryz.underlying187,
  a77 := Tryz.isAgg187,
  z77 := Tryz.sizeOf187,
  v77 := Tryz.zeroValue187 }
end Go.Proofs
namespace Go.Flong
open Go Go.Eng Go.Proofs
theorem c132 {l : List Nat} (h : ∀ x ∈ l, x < 256) (hl : l.length < 4611686018427387904) : SigRT Tryz.prog 132 (.func (.func 133) #[] #[]) EP.u64 105 l (sortN l) (Pred.tab 1 tz64) := by
  have h0 := sortSigU Tryz.sortOf (fun s : Sty => s.1) stySwo (g := 133) Tryz.call133 (R := Pred.tab 1 tz64) (fun I u W x y hu hW => c133 x.1 y.1 x.2 y.2 I W (fun _ => u) hW ⟨hu, trivial⟩) (T := 105) (l := l.map toS) (by rw [List.length_map]; exact hl)
  rw [toS_map h] at h0
  exact h0
end Go.Flong
namespace Go.Flong
open Go Go.Eng Go.Proofs
theorem e111 : Enters' Tryz.prog 111 := Tryz.call111
theorem e131 : Enters' Tryz.prog 131 := Tryz.call131
theorem e112 : Enters' Tryz.prog 112 := Tryz.call112
theorem R107 : RowT Tryz.prog 107 105 1 8 [.int .u64 0] := ⟨Tryz.underlying107, ⟨Tryz.t105, _, by kernel_rfl, rfl, rfl, rfl, rfl⟩, rfl, by decide⟩
theorem e132 : Enters' Tryz.prog 132 := Tryz.call132
theorem w77 {b : Book} {v : Bool} : ∀ x ∈ ([.e (.g [.q 0, .q 1, .q 2, ai (b.hall.change), .q 3, .q 4, .q 5, .q 6, ai (b.boys), .q 7]), .b (v)] : List SV), x.res (keys (α := Pred) [(0, PL ETm (b.hall.machs)), (1, PL EBd (b.hall.buns)), (2, PL EP.int (b.hall.trains)), (3, PL EP.int (b.hall.bores)), (4, PL (EP.sl EP.int) (b.hall.eds)), (5, PL EPl (b.set)), (6, PL EP.int (b.walk)), (7, PL ETa (b.tals)), (8, (Pred.tab 1 tz64))]) := by simp [SV.res, El.res, At.res, keys]
theorem r77 {b : Book} : SV.res (keys (α := Pred) [(0, PP EBs ((⟨b, stS b⟩ : BookS)))]) (.t [.a (.q 0), .a (ai (0))]) := by simp [SV.res, El.res, At.res, keys]
set_option maxHeartbeats 4000000 in
theorem c77 (b : Book) (v : Bool) (hm : b.Small) (hc : b.chk = true) (hv : v = true) : Sig Tryz.prog 77 [.e (.g [.q 0, .q 1, .q 2, ai (b.hall.change), .q 3, .q 4, .q 5, .q 6, ai (b.boys), .q 7]), .b (v)] [(0, PL ETm (b.hall.machs)), (1, PL EBd (b.hall.buns)), (2, PL EP.int (b.hall.trains)), (3, PL EP.int (b.hall.bores)), (4, PL (EP.sl EP.int) (b.hall.eds)), (5, PL EPl (b.set)), (6, PL EP.int (b.walk)), (7, PL ETa (b.tals)), (8, (Pred.tab 1 tz64))] (.t [.a (.q 0), .a (ai (0))]) [(0, PP EBs ((⟨b, stS b⟩ : BookS)))] := by
  have hB := bookB hc
  have ht8 := hB.t
  have hpo := pow_ok ht8
  have hsm := hm.s
  refine Sig.intro Tryz.func77 rfl 9 [(0, .e (.g [.q 0, .q 1, .q 2, ai (b.hall.change), .q 3, .q 4, .q 5, .q 6, ai (b.boys), .q 7])), (1, .b (v))] rfl w77 rfl rfl fun I w => ?_
  refine WP.seq (WP.region ?_)
  refine WPl.l 9 10 rfl rfl rfl (o_boxg rfl) ?_
  refine WPl.v rfl (o_assign rfl) ?_
  refine WPl.v rfl (o_assign rfl) ?_
  refine WPl.nil (EX.then (WP.seq (WP.region ?_)))
  refine WPl.v rfl (o_ldpa G33 rfl rfl rfl) ?_
  refine WPl.v rfl (o_move rfl) ?_
  refine WPl.cL 19 rfl rfl rfl rfl rfl (o_sigbk 10 (ren [(0, 0), (1, 1), (2, 2), (3, 3), (4, 4), (5, 5), (6, 6), (7, 7)]) (c111 b v hm hc hv) e111 rfl rfl SvsOK.rf w111 ⟨(lx rfl), (lx rfl), (lx rfl), (lx rfl), (lx rfl), (lx rfl), (lx rfl), (lx rfl), trivial⟩ b111 rfl) ?_
  refine WPl.v rfl (o_move rfl) ?_
  refine WPl.v rfl (o_extract rfl rfl) ?_
  refine WPl.v rfl (o_extract rfl rfl) ?_
  refine WPl.v rfl (o_assign rfl) ?_
  refine WPl.v rfl (o_assign rfl) ?_
  refine WPl.nil (EX.then (WP.seq (WP.seq (WP.region ?_))))
  refine WPl.v rfl (o_move rfl) ?_
  refine WPl.v rfl (o_neq rfl rfl) ?_
  refine WPl.nil (EX.then ?_)
  refine WP.cond rfl (fun hc1 => ?_) (fun hc1 => ?_)
  · try simp only [cnd] at hc1
    simp at hc1
  · try simp only [cnd] at hc1
    refine WP.skip (EX.then (WP.seq (WP.region ?_)))
    refine WPl.v rfl (o_fldp F33_4 rfl) ?_
    refine WPl.v rfl (o_ldp S31 rfl rfl rfl) ?_
    refine WPl.v rfl (o_lenq L31 rfl (lx rfl)) ?_
    refine WPl.v rfl (o_ushE (r := ((2 ^ b.tals.length : Nat) : Int)) hpo.1 rfl rfl (by omega) (.inl rfl)) ?_
    refine WPl.v rfl (o_uaE (r := ((2 ^ b.tals.length - 1 : Nat) : Int)) hpo.2.1 rfl rfl (.inr (.inl rfl))) ?_
    refine WPl.v rfl (o_assign rfl) ?_
    refine WPl.nil (EX.then (WP.seq (WP.region ?_)))
    refine WPl.v rfl (o_fldp F33_4 rfl) ?_
    refine WPl.v rfl (o_ldp S31 rfl rfl rfl) ?_
    refine WPl.v rfl (o_lenq L31 rfl (lx rfl)) ?_
    refine WPl.v rfl (o_assign rfl) ?_
    refine WPl.nil (EX.then (WP.seq (WP.seq (WP.region ?_))))
    refine WPl.v rfl (o_move rfl) ?_
    refine WPl.v rfl (o_uaE (r := ((2 ^ b.tals.length : Nat) : Int)) hpo.2.2.1 rfl rfl (.inl rfl)) ?_
    refine WPl.v rfl (o_move rfl) ?_
    refine WPl.nil (EX.then (WP.block ?_))
    refine WP.imp (Imp.namo EP.u64 19 20 105 rfl rfl) ?_
    refine WP.imp (Imp.swL 18 10 19 rfl rfl (lx rfl)) ?_
    refine WP.loop (Gh := Nat) (fun i => ⟨20, [(4, .e (.a (.v (.pointer none)))), (5, .i (0)), (6, .e (.a (.p 18 (0)))), (8, .e (.a (.v (.int .u64 (((2 ^ b.tals.length - 1 : Nat) : Int)))))), (9, .i ((stTo b i).1)), (30, .e (.a (.v (.int .u64 (((2 ^ b.tals.length : Nat) : Int)))))), (31, .e (.a (.v (.int .u64 (((i : Nat) : Int))))))], [(8, (Pred.tab 1 tz64)), (10, PL ETm (b.hall.machs)), (11, PL EBd (b.hall.buns)), (12, PL EP.int (b.hall.trains)), (13, PL EP.int (b.hall.bores)), (14, PL (EP.sl EP.int) (b.hall.eds)), (15, PL EPl (b.set)), (16, PL EP.int (b.walk)), (17, PL ETa (b.tals)), (18, Pred.top)], [(18, .blk [.q 10, .q 11, .q 12, ai (b.hall.change), .q 13, .q 14, .q 15, .q 16, ai (b.boys), .q 17, .q 19] 109), (19, .own 105 EP.u64.size ((stTo b i).2).length (RP EP.u64 ((stTo b i).2)))], [], []⟩) (fun i => i ≤ 2 ^ b.tals.length) (fun i => 2 ^ b.tals.length - i) (0) id ?_ (LeR.of ⟨rfl, rfl, rfl, rfl, (congrArg (fun z => some (SV.i z)) (show ((b.tals.length : Int)) = ((fun i => (stTo b i).1) 0) from rfl)), rfl, rfl, trivial⟩ ⟨(lx rfl), (lx rfl), (lx rfl), (lx rfl), (lx rfl), (lx rfl), (lx rfl), (lx rfl), (lx rfl), (lx rfl), trivial⟩ ⟨rfl, (congrArg (fun z => some (Ent.own 105 EP.u64.size (List.length z) (RP EP.u64 z))) (show ([]) = ((fun i => (stTo b i).2) 0) from rfl)), trivial⟩ rfl rfl rfl rfl rfl) ?_
    · first | trivial | omega | (constructor <;> omega) | simp
    intro i hφ
    have hi : i ≤ 2 ^ b.tals.length := hφ
    have hsl := (stTo_lt b i).2
    refine WP.seq (WP.region ?_)
    refine WPl.v rfl (o_ult rfl rfl) ?_
    refine WPl.nil (EX.then (WP.seq ?_))
    refine WP.cond rfl (fun hc2 => ?_) (fun hc2 => ?_)
    · try simp only [cnd] at hc2
      refine WP.skip (EX.then (WP.seq (WP.block (WP.seq (WP.region ?_)))))
      refine WPl.v rfl (o_move rfl) ?_
      refine WPl.v rfl (o_assign rfl) ?_
      refine WPl.nil (EX.then (WP.seq (WP.region ?_)))
      refine WPl.v rfl (o_move rfl) ?_
      refine WPl.cs 20 rfl rfl rfl rfl (o_sig 20 id (c131 i (by omega)) e131 rfl rfl rfl w131 trivial r131) ?_
      refine WPl.v rfl (o_assign rfl) ?_
      refine WPl.nil (EX.then (WP.seq (WP.region ?_)))
      refine WPl.v rfl (o_move rfl) ?_
      refine WPl.v rfl (o_move rfl) ?_
      refine WPl.v rfl (o_leq rfl rfl) ?_
      refine WPl.v rfl (o_move rfl) ?_
      rcases Bool.eq_false_or_eq_true (decide ((popc i : Int) ≤ ((stTo b i).1))) with hs39 | hs39
      · refine WPl.imp (Imp.bitF 39 (b' := true) rfl hs39) ?_
        refine WPl.on rfl ⟨_, _, rfl, rfl, rfl⟩ (o_move rfl) ?_
        refine WPl.on rfl ⟨_, _, rfl, rfl, rfl⟩ (o_move rfl) ?_
        refine WPl.on rfl ⟨_, _, rfl, rfl, rfl⟩ (o_move rfl) ?_
        refine WPl.on rfl ⟨_, _, rfl, rfl, rfl⟩ (o_uaE (r := ((coS b i : Nat) : Int)) (co_ok ht8 (by omega)).1 rfl rfl (.inr (.inr (.inr (.inr (.inr (.inr rfl))))))) ?_
        refine WPl.ung ⟨_, _, rfl, rfl, rfl⟩ ?_
        refine WPl.cs 21 rfl rfl rfl rfl (o_sig 20 (ren [(0, 8)]) (c99 (coS b i) (by unfold coS; omega)) e99 rfl rfl rfl w99 ⟨(lx rfl), trivial⟩ r99) ?_
        refine WPl.ung ⟨_, _, rfl, rfl, rfl⟩ ?_
        refine WPl.v rfl (o_lend 18 0 10 (ren [(1, 20)]) (c112 b (bitsL (coS b i)) hB (by omega) (by have := bitsL_len (coS b i); omega) (inBook_co ht8 (by omega))) e112 rfl rfl rfl ⟨⟨_, rfl, (lx rfl)⟩, ⟨_, rfl, (lx rfl)⟩, ⟨_, rfl, (lx rfl)⟩, rfl, ⟨_, rfl, (lx rfl)⟩, ⟨_, rfl, (lx rfl)⟩, ⟨_, rfl, (lx rfl)⟩, ⟨_, rfl, (lx rfl)⟩, rfl, ⟨_, rfl, (lx rfl)⟩, trivial⟩ rfl (w112 (b := b)) ⟨(lx rfl), trivial⟩ rfl r112) ?_
        refine WPl.v rfl (o_pickT rfl rfl) ?_
        refine WPl.nil (EX.then ?_)
        refine WP.cond rfl (fun hc3 => ?_) (fun hc3 => ?_)
        · try simp only [cnd] at hc3
          refine WP.seq (WP.seq (WP.region ?_))
          refine WPl.v rfl (o_move rfl) ?_
          refine WPl.v rfl (o_move rfl) ?_
          refine WPl.v rfl (o_lss rfl rfl) ?_
          refine WPl.nil (EX.then ?_)
          refine WP.cond rfl (fun hc4 => ?_) (fun hc4 => ?_)
          · try simp only [cnd] at hc4
            refine WP.region ?_
            refine WPl.v rfl (o_move rfl) ?_
            refine WPl.v rfl (o_move rfl) ?_
            refine WPl.v rfl (o_nilp rfl) ?_
            refine WPl.v rfl (o_fldp F109_1 rfl) ?_
            refine WPl.s1 (o_sta S107 rfl rfl rfl rfl rfl) ?_
            refine WPl.v rfl (o_assign rfl) ?_
            refine WPl.nil (EX.then (WP.region ?_))
            refine WPl.v rfl (o_move rfl) ?_
            refine WPl.v rfl (o_move rfl) ?_
            refine WPl.v rfl (o_nilp rfl) ?_
            refine WPl.v rfl (o_fldp F109_1 rfl) ?_
            refine WPl.v rfl (o_ldp S107 rfl rfl rfl) ?_
            refine WPl.imp (Imp.namo EP.u64 21 22 105 rfl rfl) ?_
            refine WPl.imp (Imp.swF 58 21 rfl (lx rfl)) ?_
            refine WPl.v rfl (o_move rfl) ?_
            refine WPl.l 22 23 rfl rfl rfl (o_bsl (E := EP.u64) (l := [i]) R107 rfl rfl (.cons (rfl) rfl (eok_u64 rfl) (.nil)) rfl rfl) ?_
            refine WPl.u1 (k := 23) (m := 24) rfl rfl rfl (o_appo R107 EP.u64_one rfl rfl rfl rfl (by first | omega | (simp; done) | (simp; omega)) (by first | omega | (simp; done) | (simp; omega))) ?_
            refine WPl.v rfl (o_nilp rfl) ?_
            refine WPl.v rfl (o_fldp F109_1 rfl) ?_
            refine WPl.s1 (o_sta S107 rfl rfl rfl (.inr ⟨_, _, _, _, rfl⟩) rfl) ?_
            refine WPl.nil (EX.blk (EX.then (WP.region ?_)))
            refine WPl.v rfl (o_uaE (r := ((i + 1 : Nat) : Int)) (uadd1 (by omega)) rfl rfl (.inl rfl)) ?_
            refine WPl.v rfl (o_move rfl) ?_
            refine WPl.nil ?_
            refine EX.again (i + 1) (ren [(19, 23)]) (by first | omega | (constructor <;> omega)) (by omega) (LeR.of ⟨rfl, rfl, rfl, rfl, (congrArg (fun z => some (SV.i z)) (show ((popc i : Int)) = ((fun i => (stTo b i).1) (i + 1)) from by dsimp only; first | (rw [stTo_a hs39 hc3 hc4]; done) | (rw [stTo_a hs39 hc3 hc4]; rfl) | (rw [stTo_b hs39 hc3 hc4]; done) | (rw [stTo_b hs39 hc3 hc4]; rfl) | (rw [stTo_c hc3]) | (rw [stTo_d hs39]))), rfl, rfl, trivial⟩ ⟨(lx rfl), (lx rfl), (lx rfl), (lx rfl), (lx rfl), (lx rfl), (lx rfl), (lx rfl), (lx rfl), (lx rfl), trivial⟩ ⟨rfl, (congrArg (fun z => some (Ent.own 105 EP.u64.size (List.length z) (RP EP.u64 z))) (show ([] ++ [i]) = ((fun i => (stTo b i).2) (i + 1)) from by dsimp only; first | (rw [stTo_a hs39 hc3 hc4]; done) | (rw [stTo_a hs39 hc3 hc4]; rfl) | (rw [stTo_b hs39 hc3 hc4]; done) | (rw [stTo_b hs39 hc3 hc4]; rfl) | (rw [stTo_c hc3]) | (rw [stTo_d hs39]))), trivial⟩ rfl rfl rfl rfl rfl)
          · try simp only [cnd] at hc4
            refine WP.skip (EX.then (WP.region ?_))
            refine WPl.v rfl (o_move rfl) ?_
            refine WPl.v rfl (o_move rfl) ?_
            refine WPl.v rfl (o_nilp rfl) ?_
            refine WPl.v rfl (o_fldp F109_1 rfl) ?_
            refine WPl.v rfl (o_ldp S107 rfl rfl rfl) ?_
            refine WPl.v rfl (o_move rfl) ?_
            refine WPl.l 21 22 rfl rfl rfl (o_bsl (E := EP.u64) (l := [i]) R107 rfl rfl (.cons (rfl) rfl (eok_u64 rfl) (.nil)) rfl rfl) ?_
            refine WPl.u1 (k := 22) (m := 23) rfl rfl rfl (o_appo R107 EP.u64_one rfl rfl rfl rfl (by first | omega | (simp; done) | (simp; omega)) (by first | omega | (simp; done) | (simp; omega))) ?_
            refine WPl.v rfl (o_nilp rfl) ?_
            refine WPl.v rfl (o_fldp F109_1 rfl) ?_
            refine WPl.s1 (o_sta S107 rfl rfl rfl (.inr ⟨_, _, _, _, rfl⟩) rfl) ?_
            refine WPl.nil (EX.blk (EX.then (WP.region ?_)))
            refine WPl.v rfl (o_uaE (r := ((i + 1 : Nat) : Int)) (uadd1 (by omega)) rfl rfl (.inl rfl)) ?_
            refine WPl.v rfl (o_move rfl) ?_
            refine WPl.nil ?_
            refine EX.again (i + 1) (ren [(19, 22)]) (by first | omega | (constructor <;> omega)) (by omega) (LeR.of ⟨rfl, rfl, rfl, rfl, (congrArg (fun z => some (SV.i z)) (show ((stTo b i).1) = ((fun i => (stTo b i).1) (i + 1)) from by dsimp only; first | (rw [stTo_a hs39 hc3 hc4]; done) | (rw [stTo_a hs39 hc3 hc4]; rfl) | (rw [stTo_b hs39 hc3 hc4]; done) | (rw [stTo_b hs39 hc3 hc4]; rfl) | (rw [stTo_c hc3]) | (rw [stTo_d hs39]))), rfl, rfl, trivial⟩ ⟨(lx rfl), (lx rfl), (lx rfl), (lx rfl), (lx rfl), (lx rfl), (lx rfl), (lx rfl), (lx rfl), (lx rfl), trivial⟩ ⟨rfl, (congrArg (fun z => some (Ent.own 105 EP.u64.size (List.length z) (RP EP.u64 z))) (show (((stTo b i).2) ++ [i]) = ((fun i => (stTo b i).2) (i + 1)) from by dsimp only; first | (rw [stTo_a hs39 hc3 hc4]; done) | (rw [stTo_a hs39 hc3 hc4]; rfl) | (rw [stTo_b hs39 hc3 hc4]; done) | (rw [stTo_b hs39 hc3 hc4]; rfl) | (rw [stTo_c hc3]) | (rw [stTo_d hs39]))), trivial⟩ rfl rfl rfl rfl rfl)
        · try simp only [cnd] at hc3
          refine WP.skip (EX.blk (EX.then (WP.region ?_)))
          refine WPl.v rfl (o_uaE (r := ((i + 1 : Nat) : Int)) (uadd1 (by omega)) rfl rfl (.inl rfl)) ?_
          refine WPl.v rfl (o_move rfl) ?_
          refine WPl.nil ?_
          refine EX.again (i + 1) id (by first | omega | (constructor <;> omega)) (by omega) (LeR.of ⟨rfl, rfl, rfl, rfl, (congrArg (fun z => some (SV.i z)) (show ((stTo b i).1) = ((fun i => (stTo b i).1) (i + 1)) from by dsimp only; first | (rw [stTo_a hs39 hc3 hc4]; done) | (rw [stTo_a hs39 hc3 hc4]; rfl) | (rw [stTo_b hs39 hc3 hc4]; done) | (rw [stTo_b hs39 hc3 hc4]; rfl) | (rw [stTo_c hc3]) | (rw [stTo_d hs39]))), rfl, rfl, trivial⟩ ⟨(lx rfl), (lx rfl), (lx rfl), (lx rfl), (lx rfl), (lx rfl), (lx rfl), (lx rfl), (lx rfl), (lx rfl), trivial⟩ ⟨rfl, (congrArg (fun z => some (Ent.own 105 EP.u64.size (List.length z) (RP EP.u64 z))) (show ((stTo b i).2) = ((fun i => (stTo b i).2) (i + 1)) from by dsimp only; first | (rw [stTo_a hs39 hc3 hc4]; done) | (rw [stTo_a hs39 hc3 hc4]; rfl) | (rw [stTo_b hs39 hc3 hc4]; done) | (rw [stTo_b hs39 hc3 hc4]; rfl) | (rw [stTo_c hc3]) | (rw [stTo_d hs39]))), trivial⟩ rfl rfl rfl rfl rfl)
      · refine WPl.imp (Imp.bitF 39 (b' := false) rfl hs39) ?_
        refine WPl.off rfl ⟨_, _, rfl, rfl, rfl⟩ ?_
        refine WPl.off rfl ⟨_, _, rfl, rfl, rfl⟩ ?_
        refine WPl.off rfl ⟨_, _, rfl, rfl, rfl⟩ ?_
        refine WPl.off rfl ⟨_, _, rfl, rfl, rfl⟩ ?_
        refine WPl.off rfl ⟨_, _, rfl, rfl, rfl⟩ ?_
        refine WPl.off rfl ⟨_, _, rfl, rfl, rfl⟩ ?_
        refine WPl.v rfl (o_pickF rfl rfl) ?_
        refine WPl.nil (EX.then ?_)
        refine WP.cond rfl (fun h => by cases h) (fun _ => ?_)
        refine WP.skip (EX.blk (EX.then (WP.region ?_)))
        refine WPl.v rfl (o_uaE (r := ((i + 1 : Nat) : Int)) (uadd1 (by omega)) rfl rfl (.inl rfl)) ?_
        refine WPl.v rfl (o_move rfl) ?_
        refine WPl.nil ?_
        refine EX.again (i + 1) id (by first | omega | (constructor <;> omega)) (by omega) (LeR.of ⟨rfl, rfl, rfl, rfl, (congrArg (fun z => some (SV.i z)) (show ((stTo b i).1) = ((fun i => (stTo b i).1) (i + 1)) from by dsimp only; first | (rw [stTo_a hs39 hc3 hc4]; done) | (rw [stTo_a hs39 hc3 hc4]; rfl) | (rw [stTo_b hs39 hc3 hc4]; done) | (rw [stTo_b hs39 hc3 hc4]; rfl) | (rw [stTo_c hc3]) | (rw [stTo_d hs39]))), rfl, rfl, trivial⟩ ⟨(lx rfl), (lx rfl), (lx rfl), (lx rfl), (lx rfl), (lx rfl), (lx rfl), (lx rfl), (lx rfl), (lx rfl), trivial⟩ ⟨rfl, (congrArg (fun z => some (Ent.own 105 EP.u64.size (List.length z) (RP EP.u64 z))) (show ((stTo b i).2) = ((fun i => (stTo b i).2) (i + 1)) from by dsimp only; first | (rw [stTo_a hs39 hc3 hc4]; done) | (rw [stTo_a hs39 hc3 hc4]; rfl) | (rw [stTo_b hs39 hc3 hc4]; done) | (rw [stTo_b hs39 hc3 hc4]; rfl) | (rw [stTo_c hc3]) | (rw [stTo_d hs39]))), trivial⟩ rfl rfl rfl rfl rfl)
    · try simp only [cnd] at hc2
      refine WP.exit (EX.exit_then (EX.exit_then (EX.exit_blk (EX.then (WP.seq (WP.region ?_))))))
      refine WPl.v rfl (o_move rfl) ?_
      refine WPl.v rfl (o_nilp rfl) ?_
      refine WPl.v rfl (o_fldp F109_1 rfl) ?_
      refine WPl.v rfl (o_ldp S107 rfl rfl rfl) ?_
      refine WPl.cL (X' := []) 20 rfl rfl rfl rfl rfl (o_sigrt (E := EP.u64) (j := 8) (c132 (l := (stTo b i).2) (fun x hx => by have := (stTo_lt b i).1 x hx; omega) (by have := (stTo_lt b i).2; omega)) e132 rfl (lx rfl) rfl rfl) ?_
      refine WPl.nil (EX.then (WP.seq (WP.region ?_)))
      refine WPl.imp (Imp.frz (E := EP.u64) (l := sortN ((stTo b i).2)) 19 rfl rfl) ?_
      refine WPl.imp (Imp.frzb (E := EBs) (y := (⟨b, sortN (stTo b i).2⟩ : BookS)) 18 20 21 rfl rfl (bok_str ⟨⟨_, rfl, (lx rfl)⟩, ⟨_, rfl, (lx rfl)⟩, ⟨_, rfl, (lx rfl)⟩, rfl, ⟨_, rfl, (lx rfl)⟩, ⟨_, rfl, (lx rfl)⟩, ⟨_, rfl, (lx rfl)⟩, ⟨_, rfl, (lx rfl)⟩, rfl, ⟨_, rfl, (lx rfl)⟩, ⟨_, rfl, (lx rfl)⟩, trivial⟩) rfl rfl rfl) ?_
      refine WPl.v rfl (o_move rfl) ?_
      refine WPl.v rfl (o_assign rfl) ?_
      refine WPl.v rfl (o_assign rfl) ?_
      refine WPl.nil (EX.then (WP.ret ?_))
      have hie : i = 2 ^ b.tals.length := by omega
      subst hie
      exact EX.fin (ren [(0, 20)]) (.inl rfl) rfl (.tmp rfl (.tmp rfl .nil)) rfl (by simp [SV.res, El.res, At.res, keys]) ⟨(lx rfl), trivial⟩ (by simp) (by simp)
theorem w77E {b : Book} {v : Bool} : ∀ x ∈ ([.e (.g [.q 0, .q 1, .q 2, ai (b.hall.change), .q 3, .q 4, .q 5, .q 6, ai (b.boys), .q 7]), .b (v)] : List SV), x.res (keys (α := Pred) [(0, PL ETm (b.hall.machs)), (1, PL EBd (b.hall.buns)), (2, PL EP.int (b.hall.trains)), (3, PL EP.int (b.hall.bores)), (4, PL (EP.sl EP.int) (b.hall.eds)), (5, PL EPl (b.set)), (6, PL EP.int (b.walk)), (7, PL ETa (b.tals))]) := by simp [SV.res, El.res, At.res, keys]
theorem r77E {b : Book} {v : Bool} : SV.res (keys (α := Pred) []) (.t [.a (.v (.pointer none)), .a (ai (askE b v))]) := by simp [SV.res, El.res, At.res, keys]
set_option maxHeartbeats 4000000 in
theorem c77E (b : Book) (v : Bool) (hm : b.Small) (hv : askE b v ≠ 0) : Sig Tryz.prog 77 [.e (.g [.q 0, .q 1, .q 2, ai (b.hall.change), .q 3, .q 4, .q 5, .q 6, ai (b.boys), .q 7]), .b (v)] [(0, PL ETm (b.hall.machs)), (1, PL EBd (b.hall.buns)), (2, PL EP.int (b.hall.trains)), (3, PL EP.int (b.hall.bores)), (4, PL (EP.sl EP.int) (b.hall.eds)), (5, PL EPl (b.set)), (6, PL EP.int (b.walk)), (7, PL ETa (b.tals))] (.t [.a (.v (.pointer none)), .a (ai (askE b v))]) [] := by
  refine Sig.intro Tryz.func77 rfl 8 [(0, .e (.g [.q 0, .q 1, .q 2, ai (b.hall.change), .q 3, .q 4, .q 5, .q 6, ai (b.boys), .q 7])), (1, .b (v))] rfl w77E rfl rfl fun I w => ?_
  refine WP.seq (WP.region ?_)
  refine WPl.l 8 9 rfl rfl rfl (o_boxg rfl) ?_
  refine WPl.v rfl (o_assign rfl) ?_
  refine WPl.v rfl (o_assign rfl) ?_
  refine WPl.nil (EX.then (WP.seq (WP.region ?_)))
  refine WPl.v rfl (o_ldpa G33 rfl rfl rfl) ?_
  refine WPl.v rfl (o_move rfl) ?_
  refine WPl.cs 9 rfl rfl rfl rfl (o_sig 9 (ren [(0, 0), (1, 1), (2, 2), (3, 3), (4, 4), (5, 5), (6, 6), (7, 7)]) (c111E b v hm hv) e111 rfl rfl rfl w111E ⟨(lx rfl), (lx rfl), (lx rfl), (lx rfl), (lx rfl), (lx rfl), (lx rfl), (lx rfl), trivial⟩ r111E) ?_
  refine WPl.v rfl (o_move rfl) ?_
  refine WPl.v rfl (o_extract rfl rfl) ?_
  refine WPl.v rfl (o_extract rfl rfl) ?_
  refine WPl.v rfl (o_assign rfl) ?_
  refine WPl.v rfl (o_assign rfl) ?_
  refine WPl.nil (EX.then (WP.seq (WP.seq (WP.region ?_))))
  refine WPl.v rfl (o_move rfl) ?_
  refine WPl.v rfl (o_neq rfl rfl) ?_
  refine WPl.nil (EX.then ?_)
  refine WP.cond rfl (fun hc1 => ?_) (fun hc1 => ?_)
  · try simp only [cnd] at hc1
    refine WP.seq (WP.region ?_)
    refine WPl.v rfl (o_move rfl) ?_
    refine WPl.v rfl (o_assign rfl) ?_
    refine WPl.v rfl (o_assign rfl) ?_
    refine WPl.nil (EX.then (WP.ret (EX.ret_then ?_)))
    exact EX.fin id (.inl rfl) rfl (.tmp rfl (.tmp rfl .nil)) rfl r77E trivial (by simp) (by simp)
  · try simp only [cnd] at hc1
    exact absurd hc1 hv
end Go.Flong
namespace Go.Flong
open Go Go.Eng Go.Proofs
theorem e77 : Enters' Tryz.prog 77 := Tryz.call77
theorem w60 {b : Book} : ∀ x ∈ ([.e (.g [.q 0, .q 1, .q 2, ai (b.hall.change), .q 3, .q 4, .q 5, .q 6, ai (b.boys), .q 7])] : List SV), x.res (keys (α := Pred) [(0, PL ETm (b.hall.machs)), (1, PL EBd (b.hall.buns)), (2, PL EP.int (b.hall.trains)), (3, PL EP.int (b.hall.bores)), (4, PL (EP.sl EP.int) (b.hall.eds)), (5, PL EPl (b.set)), (6, PL EP.int (b.walk)), (7, PL ETa (b.tals)), (8, (Pred.tab 1 tz64))]) := by simp [SV.res, El.res, At.res, keys]
theorem r60 {b : Book} : SV.res (keys (α := Pred) []) (.t [.a (ai (nSt b)), .a (ai (askE b true))]) := by simp [SV.res, El.res, At.res, keys]
set_option maxHeartbeats 4000000 in
theorem c60 (b : Book) (hm : b.Small) : Sig Tryz.prog 60 [.e (.g [.q 0, .q 1, .q 2, ai (b.hall.change), .q 3, .q 4, .q 5, .q 6, ai (b.boys), .q 7])] [(0, PL ETm (b.hall.machs)), (1, PL EBd (b.hall.buns)), (2, PL EP.int (b.hall.trains)), (3, PL EP.int (b.hall.bores)), (4, PL (EP.sl EP.int) (b.hall.eds)), (5, PL EPl (b.set)), (6, PL EP.int (b.walk)), (7, PL ETa (b.tals)), (8, (Pred.tab 1 tz64))] (.t [.a (ai (nSt b)), .a (ai (askE b true))]) [] := by
  by_cases hf : askE b true = 0
  · have hcv := (askE_eq.1 hf).1; have hB := bookB hcv; have hsl := stS_len hB.t; have hst := stS_lt hB.t
    refine Sig.intro Tryz.func60 rfl 9 [(0, .e (.g [.q 0, .q 1, .q 2, ai (b.hall.change), .q 3, .q 4, .q 5, .q 6, ai (b.boys), .q 7]))] rfl w60 rfl rfl fun I w => ?_
    refine WP.seq (WP.region ?_)
    refine WPl.l 9 10 rfl rfl rfl (o_boxg rfl) ?_
    refine WPl.v rfl (o_assign rfl) ?_
    refine WPl.v rfl (o_assign rfl) ?_
    refine WPl.nil (EX.then (WP.seq (WP.region ?_)))
    refine WPl.v rfl (o_ldpa G33 rfl rfl rfl) ?_
    refine WPl.cs 11 rfl rfl rfl rfl (o_sig 10 (ren [(0, 0), (1, 1), (2, 2), (3, 3), (4, 4), (5, 5), (6, 6), (7, 7), (8, 8)]) (c77 b true hm hcv rfl) e77 rfl rfl rfl w77 ⟨(lx rfl), (lx rfl), (lx rfl), (lx rfl), (lx rfl), (lx rfl), (lx rfl), (lx rfl), (lx rfl), trivial⟩ r77) ?_
    refine WPl.v rfl (o_move rfl) ?_
    refine WPl.v rfl (o_extract rfl rfl) ?_
    refine WPl.v rfl (o_extract rfl rfl) ?_
    refine WPl.v rfl (o_assign rfl) ?_
    refine WPl.v rfl (o_assign rfl) ?_
    refine WPl.nil (EX.then (WP.seq (WP.seq (WP.region ?_))))
    refine WPl.v rfl (o_move rfl) ?_
    refine WPl.v rfl (o_neq rfl rfl) ?_
    refine WPl.nil (EX.then ?_)
    refine WP.cond rfl (fun hc1 => ?_) (fun hc1 => ?_)
    · try simp only [cnd] at hc1
      simp at hc1
    · try simp only [cnd] at hc1
      refine WP.skip (EX.then (WP.seq (WP.region ?_)))
      refine WPl.v rfl (o_move rfl) ?_
      refine WPl.v rfl (o_nilq rfl (lx rfl)) ?_
      refine WPl.v rfl (o_fldq F109_1 rfl (lx rfl)) ?_
      refine WPl.x 11 12 rfl rfl rfl (o_ldex S107 rfl (lx rfl) (strS rfl)) ?_
      refine WPl.v rfl (o_lenq L107 rfl (lx rfl)) ?_
      refine WPl.v rfl (o_assign rfl) ?_
      refine WPl.v rfl (o_assign rfl) ?_
      refine WPl.nil (EX.then (WP.ret ?_))
      rw [hf, show nSt b = ((stS b).length : Int) from if_pos hf]
      exact EX.fin id (.inl rfl) rfl (.tmp rfl (.tmp rfl .nil)) rfl (by simp [SV.res, El.res, At.res, keys]) trivial (by simp) (by simp)
  · skip
    refine Sig.intro Tryz.func60 rfl 9 [(0, .e (.g [.q 0, .q 1, .q 2, ai (b.hall.change), .q 3, .q 4, .q 5, .q 6, ai (b.boys), .q 7]))] rfl w60 rfl rfl fun I w => ?_
    refine WP.seq (WP.region ?_)
    refine WPl.l 9 10 rfl rfl rfl (o_boxg rfl) ?_
    refine WPl.v rfl (o_assign rfl) ?_
    refine WPl.v rfl (o_assign rfl) ?_
    refine WPl.nil (EX.then (WP.seq (WP.region ?_)))
    refine WPl.v rfl (o_ldpa G33 rfl rfl rfl) ?_
    refine WPl.cs 10 rfl rfl rfl rfl (o_sig 10 (ren [(0, 0), (1, 1), (2, 2), (3, 3), (4, 4), (5, 5), (6, 6), (7, 7)]) (c77E b true hm hf) e77 rfl rfl rfl w77E ⟨(lx rfl), (lx rfl), (lx rfl), (lx rfl), (lx rfl), (lx rfl), (lx rfl), (lx rfl), trivial⟩ r77E) ?_
    refine WPl.v rfl (o_move rfl) ?_
    refine WPl.v rfl (o_extract rfl rfl) ?_
    refine WPl.v rfl (o_extract rfl rfl) ?_
    refine WPl.v rfl (o_assign rfl) ?_
    refine WPl.v rfl (o_assign rfl) ?_
    refine WPl.nil (EX.then (WP.seq (WP.seq (WP.region ?_))))
    refine WPl.v rfl (o_move rfl) ?_
    refine WPl.v rfl (o_neq rfl rfl) ?_
    refine WPl.nil (EX.then ?_)
    refine WP.cond rfl (fun hc1 => ?_) (fun hc1 => ?_)
    · try simp only [cnd] at hc1
      refine WP.seq (WP.region ?_)
      refine WPl.v rfl (o_move rfl) ?_
      refine WPl.v rfl (o_assign rfl) ?_
      refine WPl.v rfl (o_assign rfl) ?_
      refine WPl.nil (EX.then (WP.ret (EX.ret_then ?_)))
      rw [show nSt b = 0 from if_neg hf]
      exact EX.fin id (.inl rfl) rfl (.tmp rfl (.tmp rfl .nil)) rfl (by simp [SV.res, El.res, At.res, keys]) trivial (by simp) (by simp)
    · try simp only [cnd] at hc1
      exact absurd hc1 hf
end Go.Flong
namespace Go.Flong
open Go Go.Eng Go.Proofs
theorem e104 : Enters' Tryz.prog 104 := Tryz.call104
theorem w47 {b : Book} {m n : Int} : ∀ x ∈ ([.e (.g [.q 0, .q 1, .q 2, ai (b.hall.change), .q 3, .q 4, .q 5, .q 6, ai (b.boys), .q 7]), .i (m), .i (n)] : List SV), x.res (keys (α := Pred) [(0, PL ETm (b.hall.machs)), (1, PL EBd (b.hall.buns)), (2, PL EP.int (b.hall.trains)), (3, PL EP.int (b.hall.bores)), (4, PL (EP.sl EP.int) (b.hall.eds)), (5, PL EPl (b.set)), (6, PL EP.int (b.walk)), (7, PL ETa (b.tals))]) := by simp [SV.res, El.res, At.res, keys]
theorem r47 {b : Book} {m n : Int} : SV.res (keys (α := Pred) []) (.t [.a (ai (clashV b m n)), .a (ai (clashE b m n))]) := by simp [SV.res, El.res, At.res, keys]
set_option maxHeartbeats 4000000 in
theorem c47 (b : Book) (m n : Int) (hm : b.Small) : Sig Tryz.prog 47 [.e (.g [.q 0, .q 1, .q 2, ai (b.hall.change), .q 3, .q 4, .q 5, .q 6, ai (b.boys), .q 7]), .i (m), .i (n)] [(0, PL ETm (b.hall.machs)), (1, PL EBd (b.hall.buns)), (2, PL EP.int (b.hall.trains)), (3, PL EP.int (b.hall.bores)), (4, PL (EP.sl EP.int) (b.hall.eds)), (5, PL EPl (b.set)), (6, PL EP.int (b.walk)), (7, PL ETa (b.tals))] (.t [.a (ai (clashV b m n)), .a (ai (clashE b m n))]) [] := by
  have hm1 := hm.h.m
  have hm2 := hm.h.b
  have hm3 := hm.h.t
  have hm4 := hm.h.o
  have hm5 := hm.h.e
  have hm6 := hm.s
  have hm7 := hm.w
  have hm8 := hm.t
  by_cases hf : clE b m n = 0
  · have hcv := (askE_eq.1 hf).1; have hrv := (askE_eq.1 hf).2; have hB := bookB hcv; have hab := hrv; rw [Bool.and_eq_true] at hab; have h1 := isT_in hab.1; have h2 := isT_in hab.2
    refine Sig.intro Tryz.func47 rfl 8 [(0, .e (.g [.q 0, .q 1, .q 2, ai (b.hall.change), .q 3, .q 4, .q 5, .q 6, ai (b.boys), .q 7])), (1, .i (m)), (2, .i (n))] rfl w47 rfl rfl fun I w => ?_
    refine WP.seq (WP.region ?_)
    refine WPl.l 8 9 rfl rfl rfl (o_boxg rfl) ?_
    refine WPl.v rfl (o_assign rfl) ?_
    refine WPl.v rfl (o_assign rfl) ?_
    refine WPl.nil (EX.then (WP.seq ?_))
    refine WP.imp (Imp.bit 9 10 (within m 0 ((b.tals.length : Int) - 1)) rfl rfl) ?_
    refine WP.draw (nf := 19) [⟨[13, 14, 15, 16, 17, 18, 19, 20], [], [], [], []⟩, ⟨[12, 14], [], [], [], []⟩, ⟨[12, 13], [], [], [], []⟩, ⟨[12], [], [], [], [1, 2]⟩, ⟨[12], [], [], [], [1, 2, 3]⟩, ⟨[12, 18], [], [], [], [1, 2, 3, 4]⟩, ⟨[12, 17], [], [], [], [1, 2, 3, 4]⟩, ⟨[12], [], [], [], [1, 2, 3, 4, 5, 6]⟩, ⟨[12], [], [], [], [1, 2, 3, 4, 5, 6, 7]⟩, ⟨[], [], [10, 11, 12, 13, 14, 15, 16, 17, 18], [10, 11, 12, 13, 14, 15, 16, 17, 18, 18], [0, 1, 2, 3, 4, 5, 6, 7, 8]⟩, ⟨[], [], [], [], [0, 1, 2, 3, 4, 5, 6, 7, 8, 9]⟩, ⟨[23], [], [], [], [0, 1, 2, 3, 4, 5, 6, 7, 8, 9, 10]⟩, ⟨[22, 8], [], [], [], [0, 1, 2, 3, 4, 5, 6, 7, 8, 9, 10]⟩, ⟨[23], [], [], [], [0, 1, 2, 3, 4, 5, 6, 7, 8, 9, 10, 11]⟩, ⟨[], [], [], [], [0, 1, 2, 3, 4, 5, 6, 7, 8, 9, 10, 11, 12, 13]⟩] (by kernel_rfl) (by kernel_rfl) ?_
    refine DRQ.v rfl rfl rfl (o_ldpa G33 rfl rfl rfl) ?_
    refine DRQ.v rfl rfl rfl (o_ldpa G33 rfl rfl rfl) ?_
    refine DRQ.v rfl rfl rfl (o_move rfl) ?_
    refine DRQ.cs rfl rfl rfl rfl (o_sig 10 (ren [(0, 0), (1, 1), (2, 2), (3, 3), (4, 4), (5, 5), (6, 6), (7, 7)]) (c104 b m (by omega)) e104 rfl rfl rfl w104 ⟨(lx rfl), (lx rfl), (lx rfl), (lx rfl), (lx rfl), (lx rfl), (lx rfl), (lx rfl), trivial⟩ r104) ?_
    refine DRQ.v rfl rfl rfl (o_move rfl) ?_
    refine DRQ.gv 9 rfl rfl (.plain rfl Iff.rfl rfl) rfl (fun hb => o_ldpa G33 rfl rfl rfl) ?_
    refine DRQ.gv 9 rfl rfl (.plain rfl Iff.rfl rfl) rfl (fun hb => o_move rfl) ?_
    refine DRQ.gv 9 rfl rfl (.plain rfl Iff.rfl rfl) rfl (fun hb => o_sig 10 (ren [(0, 0), (1, 1), (2, 2), (3, 3), (4, 4), (5, 5), (6, 6), (7, 7)]) (c104 b n (by omega)) e104 rfl rfl rfl w104 ⟨(lx rfl), (lx rfl), (lx rfl), (lx rfl), (lx rfl), (lx rfl), (lx rfl), (lx rfl), trivial⟩ r104) ?_
    refine DRQ.v rfl rfl rfl (o_and rfl rfl rfl id) ?_
    refine DRQ.cL rfl rfl rfl rfl (o_sigbk 10 (ren [(0, 0), (1, 1), (2, 2), (3, 3), (4, 4), (5, 5), (6, 6), (7, 7)]) (c111 b ((within m 0 ((b.tals.length : Int) - 1)) && (within n 0 ((b.tals.length : Int) - 1))) hm hcv hrv) e111 rfl rfl SvsOK.rf w111 ⟨(lx rfl), (lx rfl), (lx rfl), (lx rfl), (lx rfl), (lx rfl), (lx rfl), (lx rfl), trivial⟩ b111 rfl) ?_
    refine DRQ.v rfl rfl rfl (o_move rfl) ?_
    refine DRQ.v rfl rfl rfl (o_extract rfl rfl) ?_
    refine DRQ.v rfl rfl rfl (o_extract rfl rfl) ?_
    refine DRQ.v rfl rfl rfl (o_assign rfl) ?_
    refine DRQ.v rfl rfl rfl (o_assign rfl) ?_
    refine DRQ.nil' ?_
    refine EX.then (WP.seq (WP.seq (WP.region ?_)))
    refine WPl.v rfl (o_move rfl) ?_
    refine WPl.v rfl (o_neq rfl rfl) ?_
    refine WPl.nil (EX.then ?_)
    refine WP.cond rfl (fun hc1 => ?_) (fun hc1 => ?_)
    · try simp only [cnd] at hc1
      simp at hc1
    · try simp only [cnd] at hc1
      refine WP.skip (EX.then (WP.seq (WP.region ?_)))
      refine WPl.v rfl (o_assign rfl) ?_
      refine WPl.nil (EX.then (WP.seq (WP.seq (WP.region ?_))))
      refine WPl.v rfl (o_move rfl) ?_
      refine WPl.v rfl (o_move rfl) ?_
      refine WPl.v rfl (o_neq rfl rfl) ?_
      refine WPl.nil (EX.then ?_)
      refine WP.cond rfl (fun hc2 => ?_) (fun hc2 => ?_)
      · try simp only [cnd] at hc2
        refine WP.region ?_
        refine WPl.v rfl (o_move rfl) ?_
        refine WPl.v rfl (o_move rfl) ?_
        refine WPl.v rfl (o_move rfl) ?_
        refine WPl.v rfl (o_lend 18 0 10 id (c113 b m n hB (by omega) h1 h2) e113 rfl rfl rfl ⟨⟨_, rfl, (lx rfl)⟩, ⟨_, rfl, (lx rfl)⟩, ⟨_, rfl, (lx rfl)⟩, rfl, ⟨_, rfl, (lx rfl)⟩, ⟨_, rfl, (lx rfl)⟩, ⟨_, rfl, (lx rfl)⟩, ⟨_, rfl, (lx rfl)⟩, rfl, ⟨_, rfl, (lx rfl)⟩, trivial⟩ rfl (w113 (b := b)) trivial rfl r113) ?_
        refine WPl.v rfl (o_assign rfl) ?_
        refine WPl.nil (EX.then (WP.seq (WP.seq (WP.region ?_))))
        refine WPl.v rfl (o_move rfl) ?_
        refine WPl.v rfl (o_eql rfl rfl) ?_
        refine WPl.nil (EX.then ?_)
        refine WP.cond rfl (fun hc3 => ?_) (fun hc3 => ?_)
        · try simp only [cnd] at hc3
          refine WP.seq (WP.region ?_)
          refine WPl.v rfl (o_assign rfl) ?_
          refine WPl.v rfl (o_assign rfl) ?_
          refine WPl.nil (EX.then (WP.ret (EX.ret_then ?_)))
          have hk : clashK b m n = 0 := (clK1 hc2).trans hc3
          rw [clV hf, hk, clE0 hf hk]
          exact EX.fin id (.inl rfl) rfl (.tmp rfl (.tmp rfl .nil)) rfl (by simp [SV.res, El.res, At.res, keys]) trivial (by simp) (by simp)
        · try simp only [cnd] at hc3
          refine WP.skip (EX.then (WP.seq (WP.region ?_)))
          refine WPl.v rfl (o_move rfl) ?_
          refine WPl.v rfl (o_assign rfl) ?_
          refine WPl.v rfl (o_assign rfl) ?_
          refine WPl.nil (EX.then (WP.ret ?_))
          have hk : clashK b m n = clash b m n := clK1 hc2
          rw [clV hf, clE1 hf (by rw [hk]; exact hc3), hk]
          exact EX.fin id (.inl rfl) rfl (.tmp rfl (.tmp rfl .nil)) rfl (by simp [SV.res, El.res, At.res, keys]) trivial (by simp) (by simp)
      · try simp only [cnd] at hc2
        refine WP.seq (WP.region ?_)
        refine WPl.v rfl (o_move rfl) ?_
        refine WPl.v rfl (o_move rfl) ?_
        refine WPl.x 19 20 rfl rfl rfl (OpG.settle0 (o_bsl (E := EP.int) (l := [m]) R24 rfl rfl (.cons (rfl) rfl (eok_int) (.nil)) rfl rfl)) ?_
        refine WPl.v rfl (o_lend 18 0 10 (ren [(1, 19)]) (c114 b [m] hB (by omega) (by simp) (inBook1 h1)) e114 rfl rfl rfl ⟨⟨_, rfl, (lx rfl)⟩, ⟨_, rfl, (lx rfl)⟩, ⟨_, rfl, (lx rfl)⟩, rfl, ⟨_, rfl, (lx rfl)⟩, ⟨_, rfl, (lx rfl)⟩, ⟨_, rfl, (lx rfl)⟩, ⟨_, rfl, (lx rfl)⟩, rfl, ⟨_, rfl, (lx rfl)⟩, trivial⟩ rfl (w114 (b := b)) ⟨(lx rfl), trivial⟩ rfl r114) ?_
        refine WPl.v rfl (o_not rfl) ?_
        refine WPl.nil (EX.then ?_)
        refine WP.cond rfl (fun hc4 => ?_) (fun hc4 => ?_)
        · try simp only [cnd] at hc4
          refine WP.region ?_
          refine WPl.v rfl (o_assign rfl) ?_
          refine WPl.nil (EX.then (WP.seq (WP.seq (WP.region ?_))))
          refine WPl.v rfl (o_move rfl) ?_
          refine WPl.v rfl (o_eql rfl rfl) ?_
          refine WPl.nil (EX.then ?_)
          refine WP.cond rfl (fun hc5 => ?_) (fun hc5 => ?_)
          · try simp only [cnd] at hc5
            simp at hc5
          · try simp only [cnd] at hc5
            refine WP.skip (EX.then (WP.seq (WP.region ?_)))
            refine WPl.v rfl (o_move rfl) ?_
            refine WPl.v rfl (o_assign rfl) ?_
            refine WPl.v rfl (o_assign rfl) ?_
            refine WPl.nil (EX.then (WP.ret ?_))
            have hk : clashK b m n = 3 := clK2 (by simpa using hc2) hc4
            rw [clV hf, hk, clE1 hf (by rw [hk]; decide)]
            exact EX.fin id (.inl rfl) rfl (.tmp rfl (.tmp rfl .nil)) rfl (by simp [SV.res, El.res, At.res, keys]) trivial (by simp) (by simp)
        · try simp only [cnd] at hc4
          refine WP.skip (EX.then (WP.seq (WP.seq (WP.region ?_))))
          refine WPl.v rfl (o_move rfl) ?_
          refine WPl.v rfl (o_eql rfl rfl) ?_
          refine WPl.nil (EX.then ?_)
          refine WP.cond rfl (fun hc6 => ?_) (fun hc6 => ?_)
          · try simp only [cnd] at hc6
            refine WP.seq (WP.region ?_)
            refine WPl.v rfl (o_assign rfl) ?_
            refine WPl.v rfl (o_assign rfl) ?_
            refine WPl.nil (EX.then (WP.ret (EX.ret_then ?_)))
            have hk : clashK b m n = 0 := clK3 (by simpa using hc2) hc4
            rw [clV hf, hk, clE0 hf hk]
            exact EX.fin id (.inl rfl) rfl (.tmp rfl (.tmp rfl .nil)) rfl (by simp [SV.res, El.res, At.res, keys]) trivial (by simp) (by simp)
          · try simp only [cnd] at hc6
            simp at hc6
  · skip
    refine Sig.intro Tryz.func47 rfl 8 [(0, .e (.g [.q 0, .q 1, .q 2, ai (b.hall.change), .q 3, .q 4, .q 5, .q 6, ai (b.boys), .q 7])), (1, .i (m)), (2, .i (n))] rfl w47 rfl rfl fun I w => ?_
    refine WP.seq (WP.region ?_)
    refine WPl.l 8 9 rfl rfl rfl (o_boxg rfl) ?_
    refine WPl.v rfl (o_assign rfl) ?_
    refine WPl.v rfl (o_assign rfl) ?_
    refine WPl.nil (EX.then (WP.seq ?_))
    refine WP.imp (Imp.bit 9 10 (within m 0 ((b.tals.length : Int) - 1)) rfl rfl) ?_
    refine WP.draw (nf := 10) [⟨[13, 14, 15, 16, 17, 18, 19, 20], [], [], [], []⟩, ⟨[12, 14], [], [], [], []⟩, ⟨[12, 13], [], [], [], []⟩, ⟨[12], [], [], [], [1, 2]⟩, ⟨[12], [], [], [], [1, 2, 3]⟩, ⟨[12, 18], [], [], [], [1, 2, 3, 4]⟩, ⟨[12, 17], [], [], [], [1, 2, 3, 4]⟩, ⟨[12], [], [], [], [1, 2, 3, 4, 5, 6]⟩, ⟨[12], [], [], [], [1, 2, 3, 4, 5, 6, 7]⟩, ⟨[], [], [], [], [0, 1, 2, 3, 4, 5, 6, 7, 8]⟩, ⟨[], [], [], [], [0, 1, 2, 3, 4, 5, 6, 7, 8, 9]⟩, ⟨[23], [], [], [], [0, 1, 2, 3, 4, 5, 6, 7, 8, 9, 10]⟩, ⟨[22, 8], [], [], [], [0, 1, 2, 3, 4, 5, 6, 7, 8, 9, 10]⟩, ⟨[23], [], [], [], [0, 1, 2, 3, 4, 5, 6, 7, 8, 9, 10, 11]⟩, ⟨[], [], [], [], [0, 1, 2, 3, 4, 5, 6, 7, 8, 9, 10, 11, 12, 13]⟩] (by kernel_rfl) (by kernel_rfl) ?_
    refine DRQ.v rfl rfl rfl (o_ldpa G33 rfl rfl rfl) ?_
    refine DRQ.v rfl rfl rfl (o_ldpa G33 rfl rfl rfl) ?_
    refine DRQ.v rfl rfl rfl (o_move rfl) ?_
    refine DRQ.cs rfl rfl rfl rfl (o_sig 10 (ren [(0, 0), (1, 1), (2, 2), (3, 3), (4, 4), (5, 5), (6, 6), (7, 7)]) (c104 b m (by omega)) e104 rfl rfl rfl w104 ⟨(lx rfl), (lx rfl), (lx rfl), (lx rfl), (lx rfl), (lx rfl), (lx rfl), (lx rfl), trivial⟩ r104) ?_
    refine DRQ.v rfl rfl rfl (o_move rfl) ?_
    refine DRQ.gv 9 rfl rfl (.plain rfl Iff.rfl rfl) rfl (fun hb => o_ldpa G33 rfl rfl rfl) ?_
    refine DRQ.gv 9 rfl rfl (.plain rfl Iff.rfl rfl) rfl (fun hb => o_move rfl) ?_
    refine DRQ.gv 9 rfl rfl (.plain rfl Iff.rfl rfl) rfl (fun hb => o_sig 10 (ren [(0, 0), (1, 1), (2, 2), (3, 3), (4, 4), (5, 5), (6, 6), (7, 7)]) (c104 b n (by omega)) e104 rfl rfl rfl w104 ⟨(lx rfl), (lx rfl), (lx rfl), (lx rfl), (lx rfl), (lx rfl), (lx rfl), (lx rfl), trivial⟩ r104) ?_
    refine DRQ.v rfl rfl rfl (o_and rfl rfl rfl id) ?_
    refine DRQ.cs rfl rfl rfl rfl (o_sig 10 (ren [(0, 0), (1, 1), (2, 2), (3, 3), (4, 4), (5, 5), (6, 6), (7, 7)]) (c111E b ((within m 0 ((b.tals.length : Int) - 1)) && (within n 0 ((b.tals.length : Int) - 1))) hm hf) e111 rfl rfl rfl w111E ⟨(lx rfl), (lx rfl), (lx rfl), (lx rfl), (lx rfl), (lx rfl), (lx rfl), (lx rfl), trivial⟩ r111E) ?_
    refine DRQ.v rfl rfl rfl (o_move rfl) ?_
    refine DRQ.v rfl rfl rfl (o_extract rfl rfl) ?_
    refine DRQ.v rfl rfl rfl (o_extract rfl rfl) ?_
    refine DRQ.v rfl rfl rfl (o_assign rfl) ?_
    refine DRQ.v rfl rfl rfl (o_assign rfl) ?_
    refine DRQ.nil' ?_
    refine EX.then (WP.seq (WP.seq (WP.region ?_)))
    refine WPl.v rfl (o_move rfl) ?_
    refine WPl.v rfl (o_neq rfl rfl) ?_
    refine WPl.nil (EX.then ?_)
    refine WP.cond rfl (fun hc1 => ?_) (fun hc1 => ?_)
    · try simp only [cnd] at hc1
      refine WP.seq (WP.region ?_)
      refine WPl.v rfl (o_move rfl) ?_
      refine WPl.v rfl (o_assign rfl) ?_
      refine WPl.v rfl (o_assign rfl) ?_
      refine WPl.nil (EX.then (WP.ret (EX.ret_then ?_)))
      rw [show clashV b m n = 0 from if_neg hf, show clashE b m n = askE b (within m 0 ((b.tals.length : Int) - 1) && within n 0 ((b.tals.length : Int) - 1)) from if_neg hf]
      exact EX.fin id (.inl rfl) rfl (.tmp rfl (.tmp rfl .nil)) rfl (by simp [SV.res, El.res, At.res, keys]) trivial (by simp) (by simp)
    · try simp only [cnd] at hc1
      exact absurd hc1 hf
end Go.Flong
namespace Go.Flong
open Go Go.Eng Go.Proofs
theorem e85 : Enters' Tryz.prog 85 := Tryz.call85
theorem e105 : Enters' Tryz.prog 105 := Tryz.call105
theorem e81 : Enters' Tryz.prog 81 := Tryz.call81
theorem S99 : TyS Tryz.prog 99 := ⟨Tryz.isAgg99, Tryz.sizeOf99⟩
theorem e108 : Enters' Tryz.prog 108 := Tryz.call108
theorem Z99 : Zero Tryz.prog 99 [.v (.pointer none)] := .mk Tryz.zeroValue99 rfl rfl
theorem e107 : Enters' Tryz.prog 107 := Tryz.call107
theorem w105 {s : Nat} {n : Int} : ∀ x ∈ ([.e (.a (.v (.int .u64 (s : Int)))), .e (.a (.q 0))] : List SV), x.res (keys (α := Pred) [(0, PP EP.int (n))]) := by simp [SV.res, El.res, At.res, keys]
set_option maxHeartbeats 4000000 in
theorem c105 (s : Nat) (n : Int) (h : s < 256) (h0 : 0 ≤ n ∧ n < 8) : Sig Tryz.prog 105 [.e (.a (.v (.int .u64 (s : Int)))), .e (.a (.q 0))] [(0, PP EP.int (n))] (.b (bit n s)) [] := by
  refine Sig.intro Tryz.func105 rfl 1 [(0, .e (.a (.v (.int .u64 (s : Int))))), (1, .e (.a (.q 0)))] rfl w105 rfl rfl fun I w => ?_
  refine WP.seq (WP.region ?_)
  refine WPl.v rfl (o_assign rfl) ?_
  refine WPl.nil (EX.then (WP.seq (WP.region ?_)))
  refine WPl.v rfl (o_move rfl) ?_
  refine WPl.v rfl (o_ldq S3 rfl (lx rfl) intc) ?_
  refine WPl.cs 1 rfl rfl rfl rfl (o_sig 1 id (c85 s n h h0.1 h0.2) e85 rfl rfl rfl w85 trivial r85) ?_
  refine WPl.v rfl (o_assign rfl) ?_
  refine WPl.nil (EX.then (WP.ret ?_))
  rw [show bit n s = s.testBit n.toNat from rfl]
  exact EX.fin id (.inl rfl) rfl (.tmp rfl .nil) rfl (by simp [SV.res, El.res, At.res, keys]) trivial (by simp) (by simp)
theorem w38 {b : Book} {n : Int} : ∀ x ∈ ([.e (.g [.q 0, .q 1, .q 2, ai (b.hall.change), .q 3, .q 4, .q 5, .q 6, ai (b.boys), .q 7]), .i (n)] : List SV), x.res (keys (α := Pred) [(0, PL ETm (b.hall.machs)), (1, PL EBd (b.hall.buns)), (2, PL EP.int (b.hall.trains)), (3, PL EP.int (b.hall.bores)), (4, PL (EP.sl EP.int) (b.hall.eds)), (5, PL EPl (b.set)), (6, PL EP.int (b.walk)), (7, PL ETa (b.tals)), (8, (Pred.tab 1 tz64))]) := by simp [SV.res, El.res, At.res, keys]
theorem r38 {b : Book} {n : Int} : SV.res (keys (α := Pred) []) (.t [.a (ai (lieV b n)), .a (ai (lieE b n))]) := by simp [SV.res, El.res, At.res, keys]
set_option maxHeartbeats 4000000 in
theorem c38 (b : Book) (n : Int) (hm : b.Small) : Sig Tryz.prog 38 [.e (.g [.q 0, .q 1, .q 2, ai (b.hall.change), .q 3, .q 4, .q 5, .q 6, ai (b.boys), .q 7]), .i (n)] [(0, PL ETm (b.hall.machs)), (1, PL EBd (b.hall.buns)), (2, PL EP.int (b.hall.trains)), (3, PL EP.int (b.hall.bores)), (4, PL (EP.sl EP.int) (b.hall.eds)), (5, PL EPl (b.set)), (6, PL EP.int (b.walk)), (7, PL ETa (b.tals)), (8, (Pred.tab 1 tz64))] (.t [.a (ai (lieV b n)), .a (ai (lieE b n))]) [] := by
  have hm1 := hm.h.m
  have hm2 := hm.h.b
  have hm3 := hm.h.t
  have hm4 := hm.h.o
  have hm5 := hm.h.e
  have hm6 := hm.s
  have hm7 := hm.w
  have hm8 := hm.t
  by_cases hf : lieE b n = 0
  · have hcv := (askE_eq.1 hf).1; have hB := bookB hcv; have hsl := stS_len hB.t; have hst := stS_lt hB.t; have hdm := stS_dom hB.t; have hpo := (pow_ok hB.t).2.2.2.2; have ht8 := hB.t; have hrv := (askE_eq.1 hf).2; have hn := isT_in hrv
    refine Sig.intro Tryz.func38 rfl 9 [(0, .e (.g [.q 0, .q 1, .q 2, ai (b.hall.change), .q 3, .q 4, .q 5, .q 6, ai (b.boys), .q 7])), (1, .i (n))] rfl w38 rfl rfl fun I w => ?_
    refine WP.seq (WP.region ?_)
    refine WPl.l 9 10 rfl rfl rfl (o_boxg rfl) ?_
    refine WPl.l 10 11 rfl rfl rfl (o_boxa rfl rfl) ?_
    refine WPl.v rfl (o_assign rfl) ?_
    refine WPl.v rfl (o_assign rfl) ?_
    refine WPl.nil (EX.then (WP.seq ?_))
    refine WP.draw (nf := 12) [⟨[10, 11, 12], [], [], [], []⟩, ⟨[9, 11], [], [], [], []⟩, ⟨[9, 10], [], [], [], []⟩, ⟨[9], [], [], [], [1, 2]⟩, ⟨[], [], [11], [11], [0, 1, 2, 3]⟩, ⟨[], [], [], [], [0, 1, 2, 3, 4]⟩, ⟨[15], [], [], [], [0, 1, 2, 3, 4, 5]⟩, ⟨[14, 6], [], [], [], [0, 1, 2, 3, 4, 5]⟩, ⟨[15], [], [], [], [0, 1, 2, 3, 4, 5, 6]⟩, ⟨[], [], [], [], [0, 1, 2, 3, 4, 5, 6, 7, 8]⟩] (by kernel_rfl) (by kernel_rfl) ?_
    refine DRQ.v rfl rfl rfl (o_ldpa G33 rfl rfl rfl) ?_
    refine DRQ.v rfl rfl rfl (o_ldpa G33 rfl rfl rfl) ?_
    refine DRQ.v rfl rfl rfl (o_ldp S3 rfl rfl rfl) ?_
    refine DRQ.cs rfl rfl rfl rfl (o_sig 11 (ren [(0, 0), (1, 1), (2, 2), (3, 3), (4, 4), (5, 5), (6, 6), (7, 7)]) (c104 b n (by omega)) e104 rfl rfl rfl w104 ⟨(lx rfl), (lx rfl), (lx rfl), (lx rfl), (lx rfl), (lx rfl), (lx rfl), (lx rfl), trivial⟩ r104) ?_
    refine DRQ.cs rfl rfl rfl rfl (o_sig 11 (ren [(0, 0), (1, 1), (2, 2), (3, 3), (4, 4), (5, 5), (6, 6), (7, 7), (8, 8)]) (c77 b (within n 0 ((b.tals.length : Int) - 1)) hm hcv hrv) e77 rfl rfl rfl w77 ⟨(lx rfl), (lx rfl), (lx rfl), (lx rfl), (lx rfl), (lx rfl), (lx rfl), (lx rfl), (lx rfl), trivial⟩ r77) ?_
    refine DRQ.v rfl rfl rfl (o_move rfl) ?_
    refine DRQ.v rfl rfl rfl (o_extract rfl rfl) ?_
    refine DRQ.v rfl rfl rfl (o_extract rfl rfl) ?_
    refine DRQ.v rfl rfl rfl (o_assign rfl) ?_
    refine DRQ.v rfl rfl rfl (o_assign rfl) ?_
    refine DRQ.nil' ?_
    refine EX.then (WP.seq (WP.seq (WP.region ?_)))
    refine WPl.v rfl (o_move rfl) ?_
    refine WPl.v rfl (o_neq rfl rfl) ?_
    refine WPl.nil (EX.then ?_)
    refine WP.cond rfl (fun hc1 => ?_) (fun hc1 => ?_)
    · try simp only [cnd] at hc1
      simp at hc1
    · try simp only [cnd] at hc1
      refine WP.skip (EX.then (WP.seq (WP.region ?_)))
      refine WPl.v rfl (o_move rfl) ?_
      refine WPl.imp (Imp.frzb (E := EP.int) (y := n) 10 12 13 rfl rfl (bok_int) rfl rfl rfl) ?_
      refine WPl.x 13 14 rfl rfl rfl (o_mkfve (svs := fun (o : (StyB (2 ^ b.tals.length))) => [.e (.a (.v (.int .u64 (o.1 : Int))))]) (X0 := fun (o : (StyB (2 ^ b.tals.length))) => []) (sv := fun (o : (StyB (2 ^ b.tals.length))) => .b ((bit n) o.1)) (X := fun (o : (StyB (2 ^ b.tals.length))) => []) (cs := [.e (.a (.q 0))]) (Xc := [(0, PP EP.int (n))]) 13 (ren [(0, 12)]) (fun (o : (StyB (2 ^ b.tals.length))) => (c105 o.1 n (Nat.lt_of_lt_of_le o.2 hpo) (by omega))) e105 (fun _ => rfl) rfl SvsOK.rf (fun _ => (by simp [SV.res, El.res, At.res, keys])) (by simp [SV.res, El.res, At.res, keys]) ⟨(lx rfl), trivial⟩) ?_
      refine WPl.cs 14 rfl rfl rfl rfl (o_sig 14 (ren [(0, 11), (1, 13)]) (c81 (⟨b, stS b⟩ : BookS) (2 ^ b.tals.length) (bit n) hsl.2 hdm) e81 rfl rfl rfl w81 ⟨(lx rfl), (lx rfl), trivial⟩ r81) ?_
      refine WPl.v rfl (o_assign rfl) ?_
      refine WPl.v rfl (o_assign rfl) ?_
      refine WPl.nil (EX.then (WP.ret ?_))
      rw [hf, show lieV b n = knownS ⟨b, stS b⟩ (bit n) from if_pos hf]
      exact EX.fin id (.inl rfl) rfl (.tmp rfl (.tmp rfl .nil)) rfl (by simp [SV.res, El.res, At.res, keys]) trivial (by simp) (by simp)
  · skip
    refine Sig.intro Tryz.func38 rfl 9 [(0, .e (.g [.q 0, .q 1, .q 2, ai (b.hall.change), .q 3, .q 4, .q 5, .q 6, ai (b.boys), .q 7])), (1, .i (n))] rfl w38 rfl rfl fun I w => ?_
    refine WP.seq (WP.region ?_)
    refine WPl.l 9 10 rfl rfl rfl (o_boxg rfl) ?_
    refine WPl.l 10 11 rfl rfl rfl (o_boxa rfl rfl) ?_
    refine WPl.v rfl (o_assign rfl) ?_
    refine WPl.v rfl (o_assign rfl) ?_
    refine WPl.nil (EX.then (WP.seq ?_))
    refine WP.draw (nf := 11) [⟨[10, 11, 12], [], [], [], []⟩, ⟨[9, 11], [], [], [], []⟩, ⟨[9, 10], [], [], [], []⟩, ⟨[9], [], [], [], [1, 2]⟩, ⟨[], [], [], [], [0, 1, 2, 3]⟩, ⟨[], [], [], [], [0, 1, 2, 3, 4]⟩, ⟨[15], [], [], [], [0, 1, 2, 3, 4, 5]⟩, ⟨[14, 6], [], [], [], [0, 1, 2, 3, 4, 5]⟩, ⟨[15], [], [], [], [0, 1, 2, 3, 4, 5, 6]⟩, ⟨[], [], [], [], [0, 1, 2, 3, 4, 5, 6, 7, 8]⟩] (by kernel_rfl) (by kernel_rfl) ?_
    refine DRQ.v rfl rfl rfl (o_ldpa G33 rfl rfl rfl) ?_
    refine DRQ.v rfl rfl rfl (o_ldpa G33 rfl rfl rfl) ?_
    refine DRQ.v rfl rfl rfl (o_ldp S3 rfl rfl rfl) ?_
    refine DRQ.cs rfl rfl rfl rfl (o_sig 11 (ren [(0, 0), (1, 1), (2, 2), (3, 3), (4, 4), (5, 5), (6, 6), (7, 7)]) (c104 b n (by omega)) e104 rfl rfl rfl w104 ⟨(lx rfl), (lx rfl), (lx rfl), (lx rfl), (lx rfl), (lx rfl), (lx rfl), (lx rfl), trivial⟩ r104) ?_
    refine DRQ.cs rfl rfl rfl rfl (o_sig 11 (ren [(0, 0), (1, 1), (2, 2), (3, 3), (4, 4), (5, 5), (6, 6), (7, 7)]) (c77E b (within n 0 ((b.tals.length : Int) - 1)) hm hf) e77 rfl rfl rfl w77E ⟨(lx rfl), (lx rfl), (lx rfl), (lx rfl), (lx rfl), (lx rfl), (lx rfl), (lx rfl), trivial⟩ r77E) ?_
    refine DRQ.v rfl rfl rfl (o_move rfl) ?_
    refine DRQ.v rfl rfl rfl (o_extract rfl rfl) ?_
    refine DRQ.v rfl rfl rfl (o_extract rfl rfl) ?_
    refine DRQ.v rfl rfl rfl (o_assign rfl) ?_
    refine DRQ.v rfl rfl rfl (o_assign rfl) ?_
    refine DRQ.nil' ?_
    refine EX.then (WP.seq (WP.seq (WP.region ?_)))
    refine WPl.v rfl (o_move rfl) ?_
    refine WPl.v rfl (o_neq rfl rfl) ?_
    refine WPl.nil (EX.then ?_)
    refine WP.cond rfl (fun hc1 => ?_) (fun hc1 => ?_)
    · try simp only [cnd] at hc1
      refine WP.seq (WP.region ?_)
      refine WPl.v rfl (o_move rfl) ?_
      refine WPl.v rfl (o_assign rfl) ?_
      refine WPl.v rfl (o_assign rfl) ?_
      refine WPl.nil (EX.then (WP.ret (EX.ret_then ?_)))
      rw [show lieV b n = 0 from if_neg hf, show lieE b n = askE b (within n 0 ((b.tals.length : Int) - 1)) from rfl]
      exact EX.fin id (.inl rfl) rfl (.tmp rfl (.tmp rfl .nil)) rfl (by simp [SV.res, El.res, At.res, keys]) trivial (by simp) (by simp)
    · try simp only [cnd] at hc1
      exact absurd hc1 hf
theorem w108 {b : Book} {boy n : Int} : ∀ x ∈ ([.i (n), .e (.a (.q 0)), .e (.a (.q 1))] : List SV), x.res (keys (α := Pred) [(0, PP (EP.box (PP EBs ((⟨b, stS b⟩ : BookS)))) ()), (1, PP EP.int (boy))]) := by simp [SV.res, El.res, At.res, keys]
set_option maxHeartbeats 4000000 in
theorem c108 (b : Book) (boy n : Int) (hn : 0 ≤ n ∧ n < b.tals.length) : Sig Tryz.prog 108 [.i (n), .e (.a (.q 0)), .e (.a (.q 1))] [(0, PP (EP.box (PP EBs ((⟨b, stS b⟩ : BookS)))) ()), (1, PP EP.int (boy))] (.b (boyAt b boy n)) [] := by
  refine Sig.intro Tryz.func108 rfl 2 [(0, .i (n)), (1, .e (.a (.q 0))), (2, .e (.a (.q 1)))] rfl w108 rfl rfl fun I w => ?_
  refine WP.seq (WP.region ?_)
  refine WPl.v rfl (o_assign rfl) ?_
  refine WPl.nil (EX.then (WP.seq ?_))
  refine WP.draw (nf := 5) [⟨[10, 14], [], [2], [2], []⟩, ⟨[10, 14], [], [], [], [0]⟩, ⟨[10, 14], [], [], [], [0, 1]⟩, ⟨[10, 14], [], [], [], [0, 1, 2]⟩, ⟨[10, 14], [], [3], [3], [0, 1, 2, 3]⟩, ⟨[5, 6, 7, 8, 9, 14], [2, 3], [], [], []⟩, ⟨[14], [], [4], [4], [0, 1, 2, 3, 4, 5]⟩, ⟨[14], [], [], [], [0, 1, 2, 3, 4, 5, 6]⟩, ⟨[14], [], [], [], [0, 1, 2, 3, 4, 5, 6, 7]⟩, ⟨[5, 6, 7, 8, 9, 10, 11, 12, 13], [2, 3, 4], [], [], []⟩, ⟨[], [], [], [], [0, 1, 2, 3, 4, 5, 6, 7, 8, 9]⟩, ⟨[], [], [], [], [0, 1, 2, 3, 4, 5, 6, 7, 8, 9, 10]⟩] (by kernel_rfl) (by kernel_rfl) ?_
  refine DRQ.x 2 rfl rfl rfl rfl (o_ldqx S99 rfl (lx rfl) boxx) ?_
  refine DRQ.v rfl rfl rfl (o_nilq rfl (lx rfl)) ?_
  refine DRQ.v rfl rfl rfl (o_fldq F109_0 rfl (lx rfl)) ?_
  refine DRQ.v rfl rfl rfl (o_flde F33_4 rfl (lx rfl)) ?_
  refine DRQ.x 3 rfl rfl rfl rfl (o_ldex S31 rfl (lx rfl) (strS rfl)) ?_
  refine DRQ.v rfl rfl rfl (o_move rfl) ?_
  refine DRQ.x 4 rfl rfl rfl rfl (o_idx L31 rfl (lx rfl) rfl (by first | omega | (simp; omega)) (by first | omega | (simp; omega))) ?_
  refine DRQ.v rfl rfl rfl (o_fldq F58_0 rfl (lx rfl)) ?_
  refine DRQ.v rfl rfl rfl (o_lde S3 rfl (lx rfl) (strI rfl)) ?_
  refine DRQ.v rfl rfl rfl (o_ldq S3 rfl (lx rfl) intc) ?_
  refine DRQ.v rfl rfl rfl (o_eql rfl rfl) ?_
  refine DRQ.v rfl rfl rfl (o_assign rfl) ?_
  refine DRQ.nil' ?_
  refine EX.then (WP.ret ?_)
  rw [show boyAt b boy n = decide ((nth b.tals n).boy = boy) from rfl]
  exact EX.fin id (.inl rfl) rfl (.tmp rfl .nil) rfl (by simp [SV.res, El.res, At.res, keys]) trivial (by simp) (by simp)
theorem w107 {s : Nat} {b : Book} {boy : Int} : ∀ x ∈ ([.e (.a (.v (.int .u64 (s : Int)))), .e (.a (.q 0)), .e (.a (.q 1))] : List SV), x.res (keys (α := Pred) [(0, PP (EP.box (PP EBs ((⟨b, stS b⟩ : BookS)))) ()), (1, PP EP.int (boy)), (2, (Pred.tab 1 tz64))]) := by simp [SV.res, El.res, At.res, keys]
set_option maxHeartbeats 4000000 in
theorem c107 (s : Nat) (b : Book) (boy : Int) (h : s < 2 ^ b.tals.length) (h8 : b.tals.length ≤ 8) : Sig Tryz.prog 107 [.e (.a (.v (.int .u64 (s : Int)))), .e (.a (.q 0)), .e (.a (.q 1))] [(0, PP (EP.box (PP EBs ((⟨b, stS b⟩ : BookS)))) ()), (1, PP EP.int (boy)), (2, (Pred.tab 1 tz64))] (.b (honS b boy s)) [] := by
  have hpo := (pow_ok h8).2.2.2.2
  have h2 : s < 256 := Nat.lt_of_lt_of_le h hpo
  have hbl := bitsL_len s
  refine Sig.intro Tryz.func107 rfl 3 [(0, .e (.a (.v (.int .u64 (s : Int))))), (1, .e (.a (.q 0))), (2, .e (.a (.q 1)))] rfl w107 rfl rfl fun I w => ?_
  refine WP.seq (WP.region ?_)
  refine WPl.v rfl (o_assign rfl) ?_
  refine WPl.nil (EX.then (WP.seq (WP.region ?_)))
  refine WPl.v rfl (o_move rfl) ?_
  refine WPl.cs 4 rfl rfl rfl rfl (o_sig 3 (ren [(0, 2)]) (c99 s h2) e99 rfl rfl rfl w99 ⟨(lx rfl), trivial⟩ r99) ?_
  refine WPl.x 4 5 rfl rfl rfl (o_mkfve (svs := fun (o : (Dom.below (b.tals.length : Int)).T) => [.i (o.1)]) (X0 := fun (o : (Dom.below (b.tals.length : Int)).T) => []) (sv := fun (o : (Dom.below (b.tals.length : Int)).T) => .b ((boyAt b boy) o.1)) (X := fun (o : (Dom.below (b.tals.length : Int)).T) => []) (cs := [.e (.a (.q 0)), .e (.a (.q 1))]) (Xc := [(0, PP (EP.box (PP EBs ((⟨b, stS b⟩ : BookS)))) ()), (1, PP EP.int (boy))]) 4 (ren [(0, 0), (1, 1)]) (fun (o : (Dom.below (b.tals.length : Int)).T) => (c108 b boy o.1 o.2)) e108 (fun _ => rfl) rfl SvsOK.rf (fun _ => (by simp [SV.res, El.res, At.res, keys])) (by simp [SV.res, El.res, At.res, keys]) ⟨(lx rfl), (lx rfl), trivial⟩) ?_
  refine WPl.cs 5 rfl rfl rfl rfl (o_sig 5 (ren [(0, 3), (1, 4)]) (c83 (bitsL s) (Dom.below (b.tals.length : Int)) (boyAt b boy) (by omega) (fun i hi => bits_nth h8 h hi)) e83 rfl rfl rfl w83 ⟨(lx rfl), (lx rfl), trivial⟩ r83) ?_
  refine WPl.v rfl (o_not rfl) ?_
  refine WPl.v rfl (o_assign rfl) ?_
  refine WPl.nil (EX.then (WP.ret ?_))
  rw [show honS b boy s = !anyG (boyAt b boy) (bitsL s) from rfl]
  exact EX.fin id (.inl rfl) rfl (.tmp rfl .nil) rfl (by simp [SV.res, El.res, At.res, keys]) trivial (by simp) (by simp)
theorem w40 {b : Book} {n : Int} : ∀ x ∈ ([.e (.g [.q 0, .q 1, .q 2, ai (b.hall.change), .q 3, .q 4, .q 5, .q 6, ai (b.boys), .q 7]), .i (n)] : List SV), x.res (keys (α := Pred) [(0, PL ETm (b.hall.machs)), (1, PL EBd (b.hall.buns)), (2, PL EP.int (b.hall.trains)), (3, PL EP.int (b.hall.bores)), (4, PL (EP.sl EP.int) (b.hall.eds)), (5, PL EPl (b.set)), (6, PL EP.int (b.walk)), (7, PL ETa (b.tals)), (8, (Pred.tab 1 tz64))]) := by simp [SV.res, El.res, At.res, keys]
theorem r40 {b : Book} {n : Int} : SV.res (keys (α := Pred) []) (.t [.a (ai (honV b n)), .a (ai (honE b n))]) := by simp [SV.res, El.res, At.res, keys]
set_option maxHeartbeats 4000000 in
theorem c40 (b : Book) (n : Int) (hm : b.Small) : Sig Tryz.prog 40 [.e (.g [.q 0, .q 1, .q 2, ai (b.hall.change), .q 3, .q 4, .q 5, .q 6, ai (b.boys), .q 7]), .i (n)] [(0, PL ETm (b.hall.machs)), (1, PL EBd (b.hall.buns)), (2, PL EP.int (b.hall.trains)), (3, PL EP.int (b.hall.bores)), (4, PL (EP.sl EP.int) (b.hall.eds)), (5, PL EPl (b.set)), (6, PL EP.int (b.walk)), (7, PL ETa (b.tals)), (8, (Pred.tab 1 tz64))] (.t [.a (ai (honV b n)), .a (ai (honE b n))]) [] := by
  have hm1 := hm.h.m
  have hm2 := hm.h.b
  have hm3 := hm.h.t
  have hm4 := hm.h.o
  have hm5 := hm.h.e
  have hm6 := hm.s
  have hm7 := hm.w
  have hm8 := hm.t
  by_cases hf : honE b n = 0
  · have hcv := (askE_eq.1 hf).1; have hB := bookB hcv; have hsl := stS_len hB.t; have hst := stS_lt hB.t; have hdm := stS_dom hB.t; have hpo := (pow_ok hB.t).2.2.2.2; have ht8 := hB.t; have hrv := (askE_eq.1 hf).2
    refine Sig.intro Tryz.func40 rfl 9 [(0, .e (.g [.q 0, .q 1, .q 2, ai (b.hall.change), .q 3, .q 4, .q 5, .q 6, ai (b.boys), .q 7])), (1, .i (n))] rfl w40 rfl rfl fun I w => ?_
    refine WP.seq (WP.region ?_)
    refine WPl.l 9 10 rfl rfl rfl (o_boxg rfl) ?_
    refine WPl.l 10 11 rfl rfl rfl (o_boxa rfl rfl) ?_
    refine WPl.v rfl (o_assign rfl) ?_
    refine WPl.v rfl (o_assign rfl) ?_
    refine WPl.nil (EX.then (WP.seq ?_))
    refine WP.draw (nf := 13) [⟨[10, 11, 12, 13, 14, 6], [12], [], [], []⟩, ⟨[9, 11, 12, 13, 6], [12], [], [], []⟩, ⟨[9, 10, 6], [12], [], [], []⟩, ⟨[9, 10, 6], [12], [], [], [2]⟩, ⟨[9, 10, 6], [12], [], [], [2, 3]⟩, ⟨[9, 6], [12], [], [], [1, 2, 3, 4]⟩, ⟨[6], [12], [11], [11], [0, 1, 2, 3, 4, 5]⟩, ⟨[6], [12], [], [], [0, 1, 2, 3, 4, 5, 6]⟩, ⟨[17, 6], [12], [], [], [0, 1, 2, 3, 4, 5, 6, 7]⟩, ⟨[16, 6], [12], [], [], [0, 1, 2, 3, 4, 5, 6, 7]⟩, ⟨[9, 10, 11, 12, 13, 14, 15, 8, 16, 17], [11], [12], [12], []⟩, ⟨[17], [], [], [12], [0, 1, 2, 3, 4, 5, 6, 7, 8, 10]⟩, ⟨[], [], [], [], [0, 1, 2, 3, 4, 5, 6, 7, 8, 9, 10, 11]⟩] (by kernel_rfl) (by kernel_rfl) ?_
    refine DRQ.v rfl rfl rfl (o_ldpa G33 rfl rfl rfl) ?_
    refine DRQ.v rfl rfl rfl (o_ldp S3 rfl rfl rfl) ?_
    refine DRQ.v rfl rfl rfl (o_fldp F33_3 rfl) ?_
    refine DRQ.v rfl rfl rfl (o_ldp S3 rfl rfl rfl) ?_
    refine DRQ.v rfl rfl rfl (o_subw rfl rfl) ?_
    refine DRQ.cs rfl rfl rfl rfl (o_sig 11 id (c79 n 0 (IntKind.i64.wrap (b.boys - 1))) e79 rfl rfl rfl w79 trivial r79) ?_
    refine DRQ.cs rfl rfl rfl rfl (o_sig 11 (ren [(0, 0), (1, 1), (2, 2), (3, 3), (4, 4), (5, 5), (6, 6), (7, 7), (8, 8)]) (c77 b (within n 0 (IntKind.i64.wrap (b.boys - 1))) hm hcv hrv) e77 rfl rfl rfl w77 ⟨(lx rfl), (lx rfl), (lx rfl), (lx rfl), (lx rfl), (lx rfl), (lx rfl), (lx rfl), (lx rfl), trivial⟩ r77) ?_
    refine DRQ.v rfl rfl rfl (o_move rfl) ?_
    refine DRQ.v rfl rfl rfl (o_extract rfl rfl) ?_
    refine DRQ.v rfl rfl rfl (o_extract rfl rfl) ?_
    refine DRQ.l 12 rfl rfl rfl rfl (o_alloc Z99) ?_
    refine DRQ.s 12 rfl rfl rfl (o_sta S99 rfl rfl rfl (.inl ⟨_, (lx rfl), PP.one⟩) rfl) ?_
    refine DRQ.v rfl rfl rfl (o_assign rfl) ?_
    refine DRQ.nil' ?_
    refine EX.then (WP.seq (WP.seq (WP.region ?_)))
    refine WPl.v rfl (o_move rfl) ?_
    refine WPl.v rfl (o_neq rfl rfl) ?_
    refine WPl.nil (EX.then ?_)
    refine WP.cond rfl (fun hc1 => ?_) (fun hc1 => ?_)
    · try simp only [cnd] at hc1
      simp at hc1
    · try simp only [cnd] at hc1
      refine WP.skip (EX.then (WP.seq (WP.region ?_)))
      refine WPl.v rfl (o_ldp S99 rfl rfl rfl) ?_
      refine WPl.imp (Imp.frzb (E := EP.box (PP EBs ((⟨b, stS b⟩ : BookS)))) (y := ()) 12 13 14 rfl rfl (bok_box (lx rfl)) rfl rfl rfl) ?_
      refine WPl.imp (Imp.frzb (E := EP.int) (y := n) 10 14 15 rfl rfl (bok_int) rfl rfl rfl) ?_
      refine WPl.x 15 16 rfl rfl rfl (o_mkfve (svs := fun (o : (StyB (2 ^ b.tals.length))) => [.e (.a (.v (.int .u64 (o.1 : Int))))]) (X0 := fun (o : (StyB (2 ^ b.tals.length))) => []) (sv := fun (o : (StyB (2 ^ b.tals.length))) => .b ((honS b n) o.1)) (X := fun (o : (StyB (2 ^ b.tals.length))) => []) (cs := [.e (.a (.q 0)), .e (.a (.q 1))]) (Xc := [(0, PP (EP.box (PP EBs ((⟨b, stS b⟩ : BookS)))) ()), (1, PP EP.int (n)), (2, (Pred.tab 1 tz64))]) 15 (ren [(0, 13), (1, 14), (2, 8)]) (fun (o : (StyB (2 ^ b.tals.length))) => (c107 o.1 b n o.2 ht8)) e107 (fun _ => rfl) rfl SvsOK.rf (fun _ => (by simp [SV.res, El.res, At.res, keys])) (by simp [SV.res, El.res, At.res, keys]) ⟨(lx rfl), (lx rfl), (lx rfl), trivial⟩) ?_
      refine WPl.cs 16 rfl rfl rfl rfl (o_sig 16 (ren [(0, 11), (1, 15)]) (c81 (⟨b, stS b⟩ : BookS) (2 ^ b.tals.length) (honS b n) hsl.2 hdm) e81 rfl rfl rfl w81 ⟨(lx rfl), (lx rfl), trivial⟩ r81) ?_
      refine WPl.v rfl (o_assign rfl) ?_
      refine WPl.v rfl (o_assign rfl) ?_
      refine WPl.nil (EX.then (WP.ret ?_))
      rw [hf, show honV b n = knownS ⟨b, stS b⟩ (honS b n) from if_pos hf]
      exact EX.fin id (.inl rfl) rfl (.tmp rfl (.tmp rfl .nil)) rfl (by simp [SV.res, El.res, At.res, keys]) trivial (by simp) (by simp)
  · skip
    refine Sig.intro Tryz.func40 rfl 9 [(0, .e (.g [.q 0, .q 1, .q 2, ai (b.hall.change), .q 3, .q 4, .q 5, .q 6, ai (b.boys), .q 7])), (1, .i (n))] rfl w40 rfl rfl fun I w => ?_
    refine WP.seq (WP.region ?_)
    refine WPl.l 9 10 rfl rfl rfl (o_boxg rfl) ?_
    refine WPl.l 10 11 rfl rfl rfl (o_boxa rfl rfl) ?_
    refine WPl.v rfl (o_assign rfl) ?_
    refine WPl.v rfl (o_assign rfl) ?_
    refine WPl.nil (EX.then (WP.seq ?_))
    refine WP.draw (nf := 12) [⟨[10, 11, 12, 13, 14, 6], [11], [], [], []⟩, ⟨[9, 11, 12, 13, 6], [11], [], [], []⟩, ⟨[9, 10, 6], [11], [], [], []⟩, ⟨[9, 10, 6], [11], [], [], [2]⟩, ⟨[9, 10, 6], [11], [], [], [2, 3]⟩, ⟨[9, 6], [11], [], [], [1, 2, 3, 4]⟩, ⟨[6], [11], [], [], [0, 1, 2, 3, 4, 5]⟩, ⟨[6], [11], [], [], [0, 1, 2, 3, 4, 5, 6]⟩, ⟨[17, 6], [11], [], [], [0, 1, 2, 3, 4, 5, 6, 7]⟩, ⟨[16, 6], [11], [], [], [0, 1, 2, 3, 4, 5, 6, 7]⟩, ⟨[9, 10, 11, 12, 13, 14, 15, 8, 16, 17], [], [11], [11], []⟩, ⟨[17], [], [], [11], [0, 1, 2, 3, 4, 5, 6, 7, 8, 10]⟩, ⟨[], [], [], [], [0, 1, 2, 3, 4, 5, 6, 7, 8, 9, 10, 11]⟩] (by kernel_rfl) (by kernel_rfl) ?_
    refine DRQ.v rfl rfl rfl (o_ldpa G33 rfl rfl rfl) ?_
    refine DRQ.v rfl rfl rfl (o_ldp S3 rfl rfl rfl) ?_
    refine DRQ.v rfl rfl rfl (o_fldp F33_3 rfl) ?_
    refine DRQ.v rfl rfl rfl (o_ldp S3 rfl rfl rfl) ?_
    refine DRQ.v rfl rfl rfl (o_subw rfl rfl) ?_
    refine DRQ.cs rfl rfl rfl rfl (o_sig 11 id (c79 n 0 (IntKind.i64.wrap (b.boys - 1))) e79 rfl rfl rfl w79 trivial r79) ?_
    refine DRQ.cs rfl rfl rfl rfl (o_sig 11 (ren [(0, 0), (1, 1), (2, 2), (3, 3), (4, 4), (5, 5), (6, 6), (7, 7)]) (c77E b (within n 0 (IntKind.i64.wrap (b.boys - 1))) hm hf) e77 rfl rfl rfl w77E ⟨(lx rfl), (lx rfl), (lx rfl), (lx rfl), (lx rfl), (lx rfl), (lx rfl), (lx rfl), trivial⟩ r77E) ?_
    refine DRQ.v rfl rfl rfl (o_move rfl) ?_
    refine DRQ.v rfl rfl rfl (o_extract rfl rfl) ?_
    refine DRQ.v rfl rfl rfl (o_extract rfl rfl) ?_
    refine DRQ.l 11 rfl rfl rfl rfl (o_alloc Z99) ?_
    refine DRQ.s 11 rfl rfl rfl (o_sta S99 rfl rfl rfl rfl rfl) ?_
    refine DRQ.v rfl rfl rfl (o_assign rfl) ?_
    refine DRQ.nil' ?_
    refine EX.then (WP.seq (WP.seq (WP.region ?_)))
    refine WPl.v rfl (o_move rfl) ?_
    refine WPl.v rfl (o_neq rfl rfl) ?_
    refine WPl.nil (EX.then ?_)
    refine WP.cond rfl (fun hc1 => ?_) (fun hc1 => ?_)
    · try simp only [cnd] at hc1
      refine WP.seq (WP.region ?_)
      refine WPl.v rfl (o_move rfl) ?_
      refine WPl.v rfl (o_assign rfl) ?_
      refine WPl.v rfl (o_assign rfl) ?_
      refine WPl.nil (EX.then (WP.ret (EX.ret_then ?_)))
      rw [show honV b n = 0 from if_neg hf, show honE b n = askE b (within n 0 (IntKind.i64.wrap (b.boys - 1))) from rfl]
      exact EX.fin id (.inl rfl) rfl (.tmp rfl (.tmp rfl .nil)) rfl (by simp [SV.res, El.res, At.res, keys]) trivial (by simp) (by simp)
    · try simp only [cnd] at hc1
      exact absurd hc1 hf
end Go.Flong
