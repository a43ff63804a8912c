/- Part 6 of the texts behind the claim: GBLX2. -/
import Derived.Test.YtapgiededfphfaaGreatDoorVB5
set_option linter.unusedSimpArgs false
set_option linter.unusedVariables false
namespace Go.Flong
open Go Go.Eng Go.Proofs
theorem e24 : Enters' Tryz.prog 24 := Tryz.call24
theorem G35 : TyG Tryz.prog 35 3 := ⟨Tryz.isAgg35, Tryz.sizeOf35⟩
theorem e25 : Enters' Tryz.prog 25 := Tryz.call25
theorem e19 : Enters' Tryz.prog 19 := Tryz.call19
theorem e33 : Enters' Tryz.prog 33 := Tryz.call33
theorem e34 : Enters' Tryz.prog 34 := Tryz.call34
theorem e35 : Enters' Tryz.prog 35 := Tryz.call35
theorem e52 : Enters' Tryz.prog 52 := Tryz.call52
theorem e40 : Enters' Tryz.prog 40 := Tryz.call40
theorem e59 : Enters' Tryz.prog 59 := Tryz.call59
theorem w4 {b : Book} {m ed mi ma : Int} : ∀ x ∈ ([.e (.g [.q 0, .q 1, .q 2, ai (b.hall.change), .q 3, .q 4, .q 5, .q 6, ai (b.boys), .q 7]), .e (.g [ai (m), ai (ed), ai (mi)]), .i (ma)] : List SV), x.res (keys (α := Pred) [(0, PL ETm (b.hall.machs)), (1, PL EBd (b.hall.buns)), (2, PL EP.int (b.hall.trains)), (3, PL EP.int (b.hall.bores)), (4, PL (EP.sl EP.int) (b.hall.eds)), (5, PL EPl (b.set)), (6, PL EP.int (b.walk)), (7, PL ETa (b.tals)), (8, (Pred.tab 1 tz64))]) := by simp [SV.res, El.res, At.res, keys]
theorem r4  : SV.res (keys (α := Pred) []) (.b (true)) := by simp [SV.res, El.res, At.res, keys]
set_option maxHeartbeats 4000000 in
set_option maxRecDepth 10000 in
theorem c4 (b : Book) (m ed mi ma : Int)  : Sig Tryz.prog 4 [.e (.g [.q 0, .q 1, .q 2, ai (b.hall.change), .q 3, .q 4, .q 5, .q 6, ai (b.boys), .q 7]), .e (.g [ai (m), ai (ed), ai (mi)]), .i (ma)] [(0, PL ETm (b.hall.machs)), (1, PL EBd (b.hall.buns)), (2, PL EP.int (b.hall.trains)), (3, PL EP.int (b.hall.bores)), (4, PL (EP.sl EP.int) (b.hall.eds)), (5, PL EPl (b.set)), (6, PL EP.int (b.walk)), (7, PL ETa (b.tals)), (8, (Pred.tab 1 tz64))] (.b (true)) [] := by
  refine Sig.intro Tryz.func4 rfl 9 [(0, .e (.g [.q 0, .q 1, .q 2, ai (b.hall.change), .q 3, .q 4, .q 5, .q 6, ai (b.boys), .q 7])), (1, .e (.g [ai (m), ai (ed), ai (mi)])), (2, .i (ma))] rfl w4 rfl rfl fun I w => ?_
  refine WP.seq (WP.region ?_)
  refine WPl.l 9 10 rfl rfl rfl (o_boxg rfl) ?_
  refine WPl.l 10 11 rfl rfl rfl (o_boxg rfl) ?_
  refine WPl.v rfl (o_assign rfl) ?_
  refine WPl.nil (EX.then (WP.seq (WP.seq (WP.region ?_))))
  refine WPl.v rfl (o_ldpa G33 rfl rfl rfl) ?_
  refine WPl.cs 11 rfl rfl rfl rfl (o_sig 11 (ren [(0, 0), (1, 1), (2, 2), (3, 3), (4, 4), (5, 5), (6, 6), (7, 7)]) (c24 b) e24 rfl rfl rfl w24 ⟨(lx rfl), (lx rfl), (lx rfl), (lx rfl), (lx rfl), (lx rfl), (lx rfl), (lx rfl), trivial⟩ r24) ?_
  refine WPl.v rfl (o_not rfl) ?_
  refine WPl.v rfl (o_move rfl) ?_
  refine WPl.bit 11 12 (!(!b.ready)) rfl rfl ?_
  refine WPl.gv 11 rfl rfl (.plain rfl (by first | (simp; done) | simp only [Bool.not_eq_true']) rfl) (fun hb => o_ldpa G33 rfl rfl rfl) ?_
  refine WPl.gv 11 rfl rfl (.plain rfl (by first | (simp; done) | simp only [Bool.not_eq_true']) rfl) (fun hb => o_ldpa G35 rfl rfl rfl) ?_
  refine WPl.gc0 11 rfl rfl (.plain rfl (by first | (simp; done) | simp only [Bool.not_eq_true']) rfl) (fun hb => o_sig 12 (ren [(0, 0), (1, 1), (2, 2), (3, 3), (4, 4), (5, 5), (6, 6), (7, 7)]) (c25 b m ed mi (ready_small (b := b) (by simp at hb; first | exact hb | exact hb.1 | exact hb.1.1))) e25 rfl rfl rfl w25 ⟨(lx rfl), (lx rfl), (lx rfl), (lx rfl), (lx rfl), (lx rfl), (lx rfl), (lx rfl), trivial⟩ r25) ?_
  refine WPl.gv 11 rfl rfl (.plain rfl (by first | (simp; done) | simp only [Bool.not_eq_true']) rfl) (fun hb => o_not rfl) ?_
  refine WPl.v rfl (o_or rfl rfl rfl (by first | (simp; done) | exact fun h => by rw [h]; rfl | exact fun h => Bool.and_eq_true_iff.2 ⟨hb, by rw [h]; rfl⟩ | simp_all)) ?_
  refine WPl.v rfl (o_move rfl) ?_
  refine WPl.bit 12 13 (!((!b.ready) || (!(isPrintB b m ed mi)))) rfl rfl ?_
  refine WPl.gv 12 rfl rfl (.plain rfl (by first | (simp; done) | simp only [Bool.not_eq_true']) rfl) (fun hb => o_move rfl) ?_
  refine WPl.gv 12 rfl rfl (.plain rfl (by first | (simp; done) | simp only [Bool.not_eq_true']) rfl) (fun hb => o_fldp F35_2 rfl) ?_
  refine WPl.gv 12 rfl rfl (.plain rfl (by first | (simp; done) | simp only [Bool.not_eq_true']) rfl) (fun hb => o_ldp S3 rfl rfl rfl) ?_
  refine WPl.gc0 12 rfl rfl (.plain rfl (by first | (simp; done) | simp only [Bool.not_eq_true']) rfl) (fun hb => o_sig 13 id (c26 ma mi 99) e26 rfl rfl rfl w26 trivial r26) ?_
  refine WPl.gv 12 rfl rfl (.plain rfl (by first | (simp; done) | simp only [Bool.not_eq_true']) rfl) (fun hb => o_not rfl) ?_
  refine WPl.v rfl (o_or rfl rfl rfl (by first | (simp; done) | exact fun h => by rw [h]; rfl | exact fun h => Bool.and_eq_true_iff.2 ⟨hb, by rw [h]; rfl⟩ | simp_all)) ?_
  refine WPl.nil (EX.then ?_)
  refine WP.cond rfl (fun hc1 => ?_) (fun hc1 => ?_)
  · try simp only [cnd] at hc1
    refine WP.seq (WP.region ?_)
    refine WPl.cs 13 rfl rfl rfl rfl (o_sig 13 (ren [(0, 8)]) c19 e19 rfl rfl rfl w19 ⟨(lx rfl), trivial⟩ r19) ?_
    refine WPl.v rfl (o_assign rfl) ?_
    refine WPl.nil (EX.then (WP.ret (EX.ret_then ?_)))
    exact EX.fin id (.inl rfl) rfl (.tmp rfl .nil) rfl r4 trivial (by simp) (by simp)
  · try simp only [cnd] at hc1
    have hc : b.chk = true := ready_chk hc1.1.1
    have hm : b.Small := ready_small hc1.1.1
    have hB := bookB hc
    have ht8 := hB.t
    have hm6 := hm.s
    have hm5 := hm.h.e
    have hpr := hc1.1.2
    simp only [isPrintB, within, Bool.and_eq_true, decide_eq_true_eq] at hpr
    have law := later_law hc (by omega) hc1.1.2 hc1.2
    refine WP.skip (EX.then (WP.seq (WP.region ?_)))
    refine WPl.v rfl (o_ldpa G33 rfl rfl rfl) ?_
    refine WPl.v rfl (o_fldp F35_0 rfl) ?_
    refine WPl.v rfl (o_ldp S3 rfl rfl rfl) ?_
    refine WPl.v rfl (o_fldp F35_1 rfl) ?_
    refine WPl.v rfl (o_ldp S3 rfl rfl rfl) ?_
    refine WPl.v rfl (o_fldp F35_2 rfl) ?_
    refine WPl.v rfl (o_ldp S3 rfl rfl rfl) ?_
    refine WPl.cs 13 rfl rfl rfl rfl (o_sig 13 (ren [(0, 0), (1, 1), (2, 2), (3, 3), (4, 4), (5, 5), (6, 6), (7, 7), (8, 8)]) (c21 b m ed mi hm) e21 rfl rfl rfl w21 ⟨(lx rfl), (lx rfl), (lx rfl), (lx rfl), (lx rfl), (lx rfl), (lx rfl), (lx rfl), (lx rfl), trivial⟩ r21) ?_
    refine WPl.v rfl (o_move rfl) ?_
    refine WPl.v rfl (o_extract rfl rfl) ?_
    refine WPl.v rfl (o_extract rfl rfl) ?_
    refine WPl.v rfl (o_assign rfl) ?_
    refine WPl.v rfl (o_assign rfl) ?_
    refine WPl.nil (EX.then (WP.seq (WP.region ?_)))
    refine WPl.v rfl (o_ldpa G33 rfl rfl rfl) ?_
    refine WPl.v rfl (o_fldp F35_0 rfl) ?_
    refine WPl.v rfl (o_ldp S3 rfl rfl rfl) ?_
    refine WPl.v rfl (o_fldp F35_1 rfl) ?_
    refine WPl.v rfl (o_ldp S3 rfl rfl rfl) ?_
    refine WPl.v rfl (o_move rfl) ?_
    refine WPl.cs 13 rfl rfl rfl rfl (o_sig 13 (ren [(0, 0), (1, 1), (2, 2), (3, 3), (4, 4), (5, 5), (6, 6), (7, 7), (8, 8)]) (c21 b m ed ma hm) e21 rfl rfl rfl w21 ⟨(lx rfl), (lx rfl), (lx rfl), (lx rfl), (lx rfl), (lx rfl), (lx rfl), (lx rfl), (lx rfl), trivial⟩ r21) ?_
    refine WPl.v rfl (o_move rfl) ?_
    refine WPl.v rfl (o_extract rfl rfl) ?_
    refine WPl.v rfl (o_extract rfl rfl) ?_
    refine WPl.v rfl (o_assign rfl) ?_
    refine WPl.v rfl (o_assign rfl) ?_
    refine WPl.nil (EX.then (WP.seq (WP.region ?_)))
    refine WPl.v rfl (o_ldpa G33 rfl rfl rfl) ?_
    refine WPl.v rfl (o_fldp F35_0 rfl) ?_
    refine WPl.v rfl (o_ldp S3 rfl rfl rfl) ?_
    refine WPl.v rfl (o_fldp F35_1 rfl) ?_
    refine WPl.v rfl (o_ldp S3 rfl rfl rfl) ?_
    refine WPl.cs 13 rfl rfl rfl rfl (o_sig 13 (ren [(0, 0), (1, 1), (2, 2), (3, 3), (4, 4), (5, 5), (6, 6), (7, 7), (8, 8)]) (c21 b m ed 99 hm) e21 rfl rfl rfl w21 ⟨(lx rfl), (lx rfl), (lx rfl), (lx rfl), (lx rfl), (lx rfl), (lx rfl), (lx rfl), (lx rfl), trivial⟩ r21) ?_
    refine WPl.v rfl (o_move rfl) ?_
    refine WPl.v rfl (o_extract rfl rfl) ?_
    refine WPl.v rfl (o_extract rfl rfl) ?_
    refine WPl.v rfl (o_assign rfl) ?_
    refine WPl.v rfl (o_assign rfl) ?_
    refine WPl.nil (EX.then (WP.seq ?_))
    refine WP.draw (nf := 15) [⟨[65, 66, 67, 68, 69], [13], [], [], []⟩, ⟨[65, 66, 67, 68, 69], [13], [], [], [0]⟩, ⟨[63, 64, 67, 68, 69], [13], [], [], []⟩, ⟨[63, 64, 67, 68, 69], [13], [], [], [2]⟩, ⟨[63, 64, 65, 66], [], [], [], []⟩, ⟨[63, 64, 65, 66], [], [], [], [4]⟩, ⟨[63, 64, 65, 66], [], [13], [13], [4, 5]⟩, ⟨[], [], [14], [14], [0, 1, 2, 3, 4, 5, 6]⟩, ⟨[], [], [], [], [0, 1, 2, 3, 4, 5, 6, 7]⟩, ⟨[72], [], [], [], [0, 1, 2, 3, 4, 5, 6, 7, 8]⟩, ⟨[71, 13], [], [], [], [0, 1, 2, 3, 4, 5, 6, 7, 8]⟩, ⟨[72], [], [], [], [0, 1, 2, 3, 4, 5, 6, 7, 8, 9]⟩, ⟨[], [], [], [], [0, 1, 2, 3, 4, 5, 6, 7, 8, 9, 10, 11]⟩] (by kernel_rfl) (by kernel_rfl) ?_
    refine DRQ.v rfl rfl rfl (o_fldp F33_0 rfl) ?_
    refine DRQ.v rfl rfl rfl (o_ldpg G29 rfl rfl rfl) ?_
    refine DRQ.v rfl rfl rfl (o_fldp F35_0 rfl) ?_
    refine DRQ.v rfl rfl rfl (o_ldp S3 rfl rfl rfl) ?_
    refine DRQ.v rfl rfl rfl (o_fldp F33_1 rfl) ?_
    refine DRQ.v rfl rfl rfl (o_ldp S30 rfl rfl rfl) ?_
    refine DRQ.cs rfl rfl rfl rfl (o_sig 13 (ren [(0, 5)]) (c28 b.set (by omega)) e28 rfl rfl rfl w28 ⟨(lx rfl), trivial⟩ r28) ?_
    refine DRQ.cs rfl rfl rfl rfl (o_sig 14 (ren [(0, 0), (1, 1), (2, 2), (3, 3), (4, 4), (5, 13)]) (c27 b.hall m b.set hm.h (by omega)) e27 rfl rfl rfl w27 ⟨(lx rfl), (lx rfl), (lx rfl), (lx rfl), (lx rfl), (lx rfl), trivial⟩ r27) ?_
    refine DRQ.v rfl rfl rfl (o_move rfl) ?_
    refine DRQ.v rfl rfl rfl (o_extract rfl rfl) ?_
    refine DRQ.v rfl rfl rfl (o_extract rfl rfl) ?_
    refine DRQ.v rfl rfl rfl (o_assign rfl) ?_
    refine DRQ.v rfl rfl rfl (o_assign rfl) ?_
    refine DRQ.nil' ?_
    refine EX.then (WP.seq (WP.seq (WP.region ?_)))
    refine WPl.v rfl (o_move rfl) ?_
    refine WPl.v rfl (o_neq rfl rfl) ?_
    refine WPl.imp (Imp.bitF 74 (b' := false) rfl (decide_eq_false (fun h => h law.e1))) ?_
    refine WPl.v rfl (o_move rfl) ?_
    refine WPl.on rfl ⟨_, _, rfl, rfl, rfl⟩ (o_move rfl) ?_
    refine WPl.on rfl ⟨_, _, rfl, rfl, rfl⟩ (o_neq rfl rfl) ?_
    refine WPl.imp (Imp.bitF 77 (b' := false) rfl (decide_eq_false (fun h => h law.e2))) ?_
    refine WPl.v rfl (o_pickF rfl rfl) ?_
    refine WPl.v rfl (o_move rfl) ?_
    refine WPl.on rfl ⟨_, _, rfl, rfl, rfl⟩ (o_move rfl) ?_
    refine WPl.on rfl ⟨_, _, rfl, rfl, rfl⟩ (o_neq rfl rfl) ?_
    refine WPl.imp (Imp.bitF 81 (b' := false) rfl (decide_eq_false (fun h => h law.e3))) ?_
    refine WPl.v rfl (o_pickF rfl rfl) ?_
    refine WPl.v rfl (o_move rfl) ?_
    refine WPl.on rfl ⟨_, _, rfl, rfl, rfl⟩ (o_move rfl) ?_
    refine WPl.on rfl ⟨_, _, rfl, rfl, rfl⟩ (o_neq rfl rfl) ?_
    refine WPl.imp (Imp.bitF 85 (b' := false) rfl (decide_eq_false (fun h => h law.h))) ?_
    refine WPl.v rfl (o_pickF rfl rfl) ?_
    refine WPl.v rfl (o_move rfl) ?_
    refine WPl.on rfl ⟨_, _, rfl, rfl, rfl⟩ (o_move rfl) ?_
    refine WPl.ung ⟨_, _, rfl, rfl, rfl⟩ ?_
    refine WPl.cs 15 rfl rfl rfl rfl (o_sig 15 id (c26 (rdV b m ed mi) 1 3) e26 rfl rfl rfl w26 trivial r26) ?_
    refine WPl.imp (Imp.bitF 89 (b' := true) rfl (by have h := law.k; simp [within, h.1, h.2])) ?_
    refine WPl.on rfl ⟨_, _, rfl, rfl, rfl⟩ (o_not rfl) ?_
    refine WPl.v rfl (o_pickF rfl rfl) ?_
    refine WPl.v rfl (o_move rfl) ?_
    refine WPl.on rfl ⟨_, _, rfl, rfl, rfl⟩ (o_move rfl) ?_
    refine WPl.on rfl ⟨_, _, rfl, rfl, rfl⟩ (o_eql rfl rfl) ?_
    refine WPl.on rfl ⟨_, _, rfl, rfl, rfl⟩ (o_move rfl) ?_
    refine WPl.bit 15 16 (decide ((rdV b m ed mi) = 1)) rfl rfl ?_
    refine WPl.gv 15 rfl rfl (.plain rfl Iff.rfl rfl) (fun hb => o_move rfl) ?_
    refine WPl.gv 15 rfl rfl (.plain rfl Iff.rfl rfl) (fun hb => o_move rfl) ?_
    refine WPl.gv 15 rfl rfl (.plain rfl Iff.rfl rfl) (fun hb => o_neq rfl rfl) ?_
    refine WPl.on rfl ⟨_, _, rfl, rfl, rfl⟩ (o_and rfl rfl rfl id) ?_
    refine WPl.imp (Imp.bitF 99 (b' := false) rfl (by by_cases h : rdV b m ed mi = 1; (rw [law.s h, h]; simp); (simp [h]))) ?_
    refine WPl.v rfl (o_pickF rfl rfl) ?_
    refine WPl.v rfl (o_move rfl) ?_
    refine WPl.on rfl ⟨_, _, rfl, rfl, rfl⟩ (o_move rfl) ?_
    refine WPl.on rfl ⟨_, _, rfl, rfl, rfl⟩ (o_eql rfl rfl) ?_
    refine WPl.on rfl ⟨_, _, rfl, rfl, rfl⟩ (o_move rfl) ?_
    refine WPl.bit 16 17 (decide ((rdV b m ed ma) = 2)) rfl rfl ?_
    refine WPl.gv 16 rfl rfl (.plain rfl Iff.rfl rfl) (fun hb => o_move rfl) ?_
    refine WPl.gv 16 rfl rfl (.plain rfl Iff.rfl rfl) (fun hb => o_move rfl) ?_
    refine WPl.gv 16 rfl rfl (.plain rfl Iff.rfl rfl) (fun hb => o_neq rfl rfl) ?_
    refine WPl.on rfl ⟨_, _, rfl, rfl, rfl⟩ (o_and rfl rfl rfl id) ?_
    refine WPl.imp (Imp.bitF 108 (b' := false) rfl (by by_cases h : rdV b m ed ma = 2; (rw [law.n h, h]; simp); (simp [h]))) ?_
    refine WPl.v rfl (o_pickF rfl rfl) ?_
    refine WPl.nil (EX.then ?_)
    refine WP.cond rfl (fun h => by cases h) (fun _ => ?_)
    refine WP.skip (EX.then (WP.seq (WP.seq (WP.region ?_))))
    refine WPl.v rfl (o_fldp F33_0 rfl) ?_
    refine WPl.v rfl (o_fldp F29_2 rfl) ?_
    refine WPl.v rfl (o_ldp S27 rfl rfl rfl) ?_
    refine WPl.v rfl (o_fldp F35_1 rfl) ?_
    refine WPl.v rfl (o_ldp S3 rfl rfl rfl) ?_
    refine WPl.x 17 18 rfl rfl rfl (o_idx L27 rfl (lx rfl) rfl (by omega) (by omega)) ?_
    refine WPl.x 18 19 rfl rfl rfl (o_ldqx S24 rfl (lx rfl) slx) ?_
    refine WPl.v rfl (o_lenq L24 rfl (lx rfl)) ?_
    refine WPl.v rfl (o_eql rfl rfl) ?_
    refine WPl.v rfl (o_move rfl) ?_
    refine WPl.bit 19 20 (decide (((nth b.hall.eds ed).length : Int) = 0)) rfl rfl ?_
    refine WPl.gv 19 rfl rfl (.plain rfl Iff.rfl rfl) (fun hb => o_move rfl) ?_
    refine WPl.gv 19 rfl rfl (.plain rfl Iff.rfl rfl) (fun hb => o_neq rfl rfl) ?_
    refine WPl.v rfl (o_and rfl rfl rfl id) ?_
    refine WPl.imp (Imp.bitF 122 (b' := false) rfl (by by_cases h : ((nth b.hall.eds ed).length : Int) = 0; (rw [law.z (by omega)]; simp); (rw [decide_eq_false h]; rfl))) ?_
    refine WPl.nil (EX.then ?_)
    refine WP.cond rfl (fun h => by cases h) (fun _ => ?_)
    refine WP.skip (EX.then (WP.seq (WP.region ?_)))
    refine WPl.v rfl (o_move rfl) ?_
    refine WPl.v rfl (o_neq rfl rfl) ?_
    refine WPl.v rfl (o_move rfl) ?_
    refine WPl.bit 20 21 (!(decide ((rdV b m ed 99) ≠ 1))) rfl rfl ?_
    refine WPl.gv 20 rfl rfl (.plain rfl (by first | (simp; done) | simp only [Bool.not_eq_true']) rfl) (fun hb => o_move rfl) ?_
    refine WPl.gv 20 rfl rfl (.plain rfl (by first | (simp; done) | simp only [Bool.not_eq_true']) rfl) (fun hb => o_fldp F35_1 rfl) ?_
    refine WPl.gv 20 rfl rfl (.plain rfl (by first | (simp; done) | simp only [Bool.not_eq_true']) rfl) (fun hb => o_ldp S3 rfl rfl rfl) ?_
    refine WPl.gc0 20 rfl rfl (.plain rfl (by first | (simp; done) | simp only [Bool.not_eq_true']) rfl) (fun hb => o_sig 21 (ren [(0, 14)]) (c29 (b.hall.fitL m b.set) ed (by rw [show b.hall.fitL m b.set = b.hall.fitTo m b.set b.hall.eds.length from if_pos law.h]; have h := fitTo_len b.hall m b.set b.hall.eds.length; omega)) e29 rfl rfl rfl w29 ⟨(lx rfl), trivial⟩ r29) ?_
    refine WPl.v rfl (o_or rfl rfl rfl (by first | (simp; done) | exact fun h => by rw [h]; rfl | exact fun h => Bool.and_eq_true_iff.2 ⟨hb, by rw [h]; rfl⟩ | simp_all)) ?_
    refine WPl.imp (Imp.bitF 130 (b' := true) rfl (by by_cases h : rdV b m ed 99 = 1; (rw [law.f h]; simp); (simp [h]))) ?_
    refine WPl.v rfl (o_move rfl) ?_
    refine WPl.ung ⟨_, _, rfl, rfl, rfl⟩ ?_
    refine WPl.cs 21 rfl rfl rfl rfl (o_sig 21 (ren [(0, 8)]) c19 e19 rfl rfl rfl w19 ⟨(lx rfl), trivial⟩ r19) ?_
    refine WPl.v rfl (o_pickT rfl rfl) ?_
    refine WPl.v rfl (o_assign rfl) ?_
    refine WPl.nil (EX.then (WP.ret ?_))
    exact EX.fin id (.inl rfl) rfl (.tmp rfl .nil) rfl r4 trivial (by simp) (by simp)
theorem w5 {b : Book} : ∀ x ∈ ([.e (.g [.q 0, .q 1, .q 2, ai (b.hall.change), .q 3, .q 4, .q 5, .q 6, ai (b.boys), .q 7])] : List SV), x.res (keys (α := Pred) [(0, PL ETm (b.hall.machs)), (1, PL EBd (b.hall.buns)), (2, PL EP.int (b.hall.trains)), (3, PL EP.int (b.hall.bores)), (4, PL (EP.sl EP.int) (b.hall.eds)), (5, PL EPl (b.set)), (6, PL EP.int (b.walk)), (7, PL ETa (b.tals)), (8, (Pred.tab 1 tz64))]) := by simp [SV.res, El.res, At.res, keys]
theorem r5  : SV.res (keys (α := Pred) []) (.b (true)) := by simp [SV.res, El.res, At.res, keys]
set_option maxHeartbeats 4000000 in
set_option maxRecDepth 10000 in
theorem c5 (b : Book)  : Sig Tryz.prog 5 [.e (.g [.q 0, .q 1, .q 2, ai (b.hall.change), .q 3, .q 4, .q 5, .q 6, ai (b.boys), .q 7])] [(0, PL ETm (b.hall.machs)), (1, PL EBd (b.hall.buns)), (2, PL EP.int (b.hall.trains)), (3, PL EP.int (b.hall.bores)), (4, PL (EP.sl EP.int) (b.hall.eds)), (5, PL EPl (b.set)), (6, PL EP.int (b.walk)), (7, PL ETa (b.tals)), (8, (Pred.tab 1 tz64))] (.b (true)) [] := by
  refine Sig.intro Tryz.func5 rfl 9 [(0, .e (.g [.q 0, .q 1, .q 2, ai (b.hall.change), .q 3, .q 4, .q 5, .q 6, ai (b.boys), .q 7]))] rfl w5 rfl rfl fun I w => ?_
  refine WP.seq (WP.region ?_)
  refine WPl.l 9 10 rfl rfl rfl (o_boxg rfl) ?_
  refine WPl.v rfl (o_assign rfl) ?_
  refine WPl.nil (EX.then (WP.seq (WP.seq (WP.region ?_))))
  refine WPl.v rfl (o_ldpa G33 rfl rfl rfl) ?_
  refine WPl.cs 10 rfl rfl rfl rfl (o_sig 10 (ren [(0, 0), (1, 1), (2, 2), (3, 3), (4, 4), (5, 5), (6, 6), (7, 7)]) (c24 b) e24 rfl rfl rfl w24 ⟨(lx rfl), (lx rfl), (lx rfl), (lx rfl), (lx rfl), (lx rfl), (lx rfl), (lx rfl), trivial⟩ r24) ?_
  refine WPl.v rfl (o_not rfl) ?_
  refine WPl.nil (EX.then ?_)
  refine WP.cond rfl (fun hc1 => ?_) (fun hc1 => ?_)
  · try simp only [cnd] at hc1
    refine WP.seq (WP.region ?_)
    refine WPl.cs 10 rfl rfl rfl rfl (o_sig 10 (ren [(0, 8)]) c19 e19 rfl rfl rfl w19 ⟨(lx rfl), trivial⟩ r19) ?_
    refine WPl.v rfl (o_assign rfl) ?_
    refine WPl.nil (EX.then (WP.ret (EX.ret_then ?_)))
    exact EX.fin id (.inl rfl) rfl (.tmp rfl .nil) rfl r5 trivial (by simp) (by simp)
  · try simp only [cnd] at hc1
    have hc : b.chk = true := ready_chk hc1
    have hm : b.Small := ready_small hc1
    have hB := bookB hc
    have ht8 := hB.t
    have hm6 := hm.s
    have law := left_law2 hc hm6
    have hol := others_len b (blame b)
    have hbl := blame_len b
    have hln := law.n
    have hPS := setPls hB.p (show b.set.length ≤ 1000 by omega)
    have hPL := setPls law.s (show (lfV b).length ≤ 1000 by omega)
    have hl1 : (broughtR b (othersR b (blame b))).length = 12 := brR_len b _ _
    have hl2 := countsR_len (lfV b)
    have hl3 := countsR_len b.set
    refine WP.skip (EX.then (WP.seq (WP.region ?_)))
    refine WPl.v rfl (o_ldpa G33 rfl rfl rfl) ?_
    refine WPl.cs 11 rfl rfl rfl rfl (o_sig 10 (ren [(0, 0), (1, 1), (2, 2), (3, 3), (4, 4), (5, 5), (6, 6), (7, 7), (8, 8)]) (c30 b hm) e30 rfl rfl rfl w30 ⟨(lx rfl), (lx rfl), (lx rfl), (lx rfl), (lx rfl), (lx rfl), (lx rfl), (lx rfl), (lx rfl), trivial⟩ r30) ?_
    refine WPl.v rfl (o_move rfl) ?_
    refine WPl.v rfl (o_extract rfl rfl) ?_
    refine WPl.v rfl (o_extract rfl rfl) ?_
    refine WPl.v rfl (o_assign rfl) ?_
    refine WPl.v rfl (o_assign rfl) ?_
    refine WPl.nil (EX.then (WP.seq (WP.region ?_)))
    refine WPl.v rfl (o_ldpa G33 rfl rfl rfl) ?_
    refine WPl.cs 12 rfl rfl rfl rfl (o_sig 11 (ren [(0, 0), (1, 1), (2, 2), (3, 3), (4, 4), (5, 5), (6, 6), (7, 7), (8, 8)]) (c31 b hm) e31 rfl rfl rfl w31 ⟨(lx rfl), (lx rfl), (lx rfl), (lx rfl), (lx rfl), (lx rfl), (lx rfl), (lx rfl), (lx rfl), trivial⟩ r31) ?_
    refine WPl.v rfl (o_move rfl) ?_
    refine WPl.v rfl (o_extract rfl rfl) ?_
    refine WPl.v rfl (o_extract rfl rfl) ?_
    refine WPl.v rfl (o_assign rfl) ?_
    refine WPl.v rfl (o_assign rfl) ?_
    refine WPl.nil (EX.then (WP.seq (WP.seq (WP.region ?_))))
    refine WPl.v rfl (o_move rfl) ?_
    refine WPl.v rfl (o_neq rfl rfl) ?_
    refine WPl.imp (Imp.bitF 32 (b' := false) rfl (decide_eq_false (fun h => h law.z))) ?_
    refine WPl.v rfl (o_move rfl) ?_
    refine WPl.on rfl ⟨_, _, rfl, rfl, rfl⟩ (o_move rfl) ?_
    refine WPl.on rfl ⟨_, _, rfl, rfl, rfl⟩ (o_neq rfl rfl) ?_
    refine WPl.imp (Imp.bitF 35 (b' := false) rfl (decide_eq_false (fun h => h law.z))) ?_
    refine WPl.v rfl (o_pickF rfl rfl) ?_
    refine WPl.v rfl (o_move rfl) ?_
    refine WPl.on rfl ⟨_, _, rfl, rfl, rfl⟩ (o_move rfl) ?_
    refine WPl.ung ⟨_, _, rfl, rfl, rfl⟩ ?_
    refine WPl.v rfl (o_lenq L30 rfl (lx rfl)) ?_
    refine WPl.on rfl ⟨_, _, rfl, rfl, rfl⟩ (o_gtr rfl rfl) ?_
    refine WPl.imp (Imp.bitF 40 (b' := false) rfl (decide_eq_false (by omega))) ?_
    refine WPl.v rfl (o_pickF rfl rfl) ?_
    refine WPl.v rfl (o_move rfl) ?_
    refine WPl.on rfl ⟨_, _, rfl, rfl, rfl⟩ (o_move rfl) ?_
    refine WPl.ung ⟨_, _, rfl, rfl, rfl⟩ ?_
    refine WPl.cs 12 rfl rfl rfl rfl (o_sig 12 (ren [(0, 10)]) (c32 (lfV b) (by omega)) e32 rfl rfl rfl w32 ⟨(lx rfl), trivial⟩ r32) ?_
    refine WPl.imp (Imp.bitF 44 (b' := true) rfl law.s) ?_
    refine WPl.on rfl ⟨_, _, rfl, rfl, rfl⟩ (o_not rfl) ?_
    refine WPl.v rfl (o_pickF rfl rfl) ?_
    refine WPl.v rfl (o_move rfl) ?_
    refine WPl.ung ⟨_, _, rfl, rfl, rfl⟩ ?_
    refine WPl.v rfl (o_ldpa G33 rfl rfl rfl) ?_
    refine WPl.on rfl ⟨_, _, rfl, rfl, rfl⟩ (o_move rfl) ?_
    refine WPl.ung ⟨_, _, rfl, rfl, rfl⟩ ?_
    refine WPl.cs 12 rfl rfl rfl rfl (o_sig 12 (ren [(0, 0), (1, 1), (2, 2), (3, 3), (4, 4), (5, 5), (6, 6), (7, 7), (8, 11)]) (c33 b (blame b) hm) e33 rfl rfl rfl w33 ⟨(lx rfl), (lx rfl), (lx rfl), (lx rfl), (lx rfl), (lx rfl), (lx rfl), (lx rfl), (lx rfl), trivial⟩ r33) ?_
    refine WPl.imp (Imp.bitF 50 (b' := true) rfl law.l) ?_
    refine WPl.on rfl ⟨_, _, rfl, rfl, rfl⟩ (o_not rfl) ?_
    refine WPl.v rfl (o_pickF rfl rfl) ?_
    refine WPl.nil (EX.then ?_)
    refine WP.cond rfl (fun h => by cases h) (fun _ => ?_)
    refine WP.skip (EX.then (WP.seq (WP.region ?_)))
    refine WPl.v rfl (o_ldpa G33 rfl rfl rfl) ?_
    refine WPl.v rfl (o_move rfl) ?_
    refine WPl.cs 13 rfl rfl rfl rfl (o_sig 12 (ren [(0, 0), (1, 1), (2, 2), (3, 3), (4, 4), (5, 5), (6, 6), (7, 7), (8, 11)]) (c34 b (blame b) (by omega) (by omega)) e34 rfl rfl rfl w34 ⟨(lx rfl), (lx rfl), (lx rfl), (lx rfl), (lx rfl), (lx rfl), (lx rfl), (lx rfl), (lx rfl), trivial⟩ r34) ?_
    refine WPl.v rfl (o_assign rfl) ?_
    refine WPl.nil (EX.then (WP.seq ?_))
    refine WP.draw (nf := 16) [⟨[57, 59, 61, 62], [], [], [], []⟩, ⟨[56, 59, 61, 62], [], [], [], []⟩, ⟨[59, 61, 62], [], [13], [13], [0, 1]⟩, ⟨[56, 57, 58, 61, 62], [13], [], [], []⟩, ⟨[61, 62], [], [14], [14], [0, 1, 2, 3]⟩, ⟨[56, 57, 58, 59, 60], [13, 14], [], [], []⟩, ⟨[56, 57, 58, 59, 60], [13, 14], [], [], [5]⟩, ⟨[], [], [15], [15], [0, 1, 2, 3, 4, 5, 6]⟩, ⟨[], [], [], [], [0, 1, 2, 3, 4, 5, 6, 7]⟩, ⟨[], [], [], [], [0, 1, 2, 3, 4, 5, 6, 7, 8]⟩, ⟨[], [], [], [], [0, 1, 2, 3, 4, 5, 6, 7, 8, 9]⟩] (by kernel_rfl) (by kernel_rfl) ?_
    refine DRQ.v rfl rfl rfl (o_ldpa G33 rfl rfl rfl) ?_
    refine DRQ.v rfl rfl rfl (o_move rfl) ?_
    refine DRQ.cs rfl rfl rfl rfl (o_sig 13 (ren [(0, 0), (1, 1), (2, 2), (3, 3), (4, 4), (5, 5), (6, 6), (7, 7), (8, 12)]) (c35 b (othersR b (blame b)) hB (by omega) law.i) e35 rfl rfl rfl w35 ⟨(lx rfl), (lx rfl), (lx rfl), (lx rfl), (lx rfl), (lx rfl), (lx rfl), (lx rfl), (lx rfl), trivial⟩ r35) ?_
    refine DRQ.v rfl rfl rfl (o_move rfl) ?_
    refine DRQ.cs rfl rfl rfl rfl (o_sig 14 (ren [(0, 10)]) (c36 (lfV b) hPL) e36 rfl rfl rfl w36 ⟨(lx rfl), trivial⟩ r36) ?_
    refine DRQ.v rfl rfl rfl (o_fldp F33_1 rfl) ?_
    refine DRQ.v rfl rfl rfl (o_ldp S30 rfl rfl rfl) ?_
    refine DRQ.cs rfl rfl rfl rfl (o_sig 15 (ren [(0, 5)]) (c36 b.set hPS) e36 rfl rfl rfl w36 ⟨(lx rfl), trivial⟩ r36) ?_
    refine DRQ.v rfl rfl rfl (o_assign rfl) ?_
    refine DRQ.v rfl rfl rfl (o_assign rfl) ?_
    refine DRQ.v rfl rfl rfl (o_assign rfl) ?_
    refine DRQ.nil' ?_
    refine EX.then (WP.seq (WP.seq (WP.region ?_)))
    refine WPl.v rfl (o_assign rfl) ?_
    refine WPl.nil (EX.then (WP.block ?_))
    refine WP.loop (Gh := Nat) (fun i => ⟨16, [(1, .e (.a (.p 9 (0)))), (2, .b (false)), (7, .e (.a (.q 12))), (8, .e (.a (.q 13))), (9, .e (.a (.q 14))), (10, .e (.a (.q 15))), (11, .i ((i : Int)))], [(0, PL ETm (b.hall.machs)), (1, PL EBd (b.hall.buns)), (2, PL EP.int (b.hall.trains)), (3, PL EP.int (b.hall.bores)), (4, PL (EP.sl EP.int) (b.hall.eds)), (5, PL EPl (b.set)), (6, PL EP.int (b.walk)), (7, PL ETa (b.tals)), (8, (Pred.tab 1 tz64)), (12, PL EP.int (othersR b (blame b))), (13, PL EP.int (broughtR b (othersR b (blame b)))), (14, PL EP.int (countsR (lfV b))), (15, PL EP.int (countsR b.set))], [(9, .blk [.q 0, .q 1, .q 2, ai (b.hall.change), .q 3, .q 4, .q 5, .q 6, ai (b.boys), .q 7] 33)], [], []⟩) (fun i => i ≤ 12) (fun i => 12 - i) (0) id ?_ (LeR.of ⟨rfl, rfl, rfl, rfl, rfl, rfl, rfl, trivial⟩ ⟨(lx rfl), (lx rfl), (lx rfl), (lx rfl), (lx rfl), (lx rfl), (lx rfl), (lx rfl), (lx rfl), (lx rfl), (lx rfl), (lx rfl), (lx rfl), trivial⟩ ⟨rfl, trivial⟩ rfl rfl rfl rfl rfl) ?_
    · first | trivial | omega | (constructor <;> omega) | simp
    intro i hφ
    have hi : i ≤ 12 := hφ
    refine WP.seq (WP.seq (WP.region ?_))
    refine WPl.v rfl (o_move rfl) ?_
    refine WPl.v rfl (o_move rfl) ?_
    refine WPl.v rfl (o_lenq L24 rfl (lx rfl)) ?_
    refine WPl.v rfl (o_lss rfl rfl) ?_
    refine WPl.nil (EX.then ?_)
    refine WP.cond rfl (fun hc3 => ?_) (fun hc3 => ?_)
    · try simp only [cnd] at hc3
      have hgb : 0 ≤ nth (broughtR b (othersR b (blame b))) (i : Int) ∧ nth (broughtR b (othersR b (blame b))) (i : Int) ≤ (othersR b (blame b)).length := brR_bnd hB law.i (Nat.le_refl _) (by omega)
      have hlb : 0 ≤ nth (countsR (lfV b)) (i : Int) ∧ nth (countsR (lfV b)) (i : Int) ≤ 1000000 := cntTo_bnd hPL (i := (lfV b).length) (Nat.le_refl _) (by omega) (by omega)
      refine WP.skip (EX.then (WP.seq (WP.block (WP.seq ?_))))
      refine WP.draw (nf := 19) [⟨[71, 74, 75, 76, 77, 79, 80, 81, 82], [17, 18], [], [], []⟩, ⟨[70, 74, 75, 76, 77, 79, 80, 81, 82], [17, 18], [], [], []⟩, ⟨[74, 75, 76, 77, 79, 80, 81, 82], [17, 18], [16], [16], [0, 1]⟩, ⟨[74, 75, 76, 77, 79, 80, 81, 82], [17, 18], [], [], [0, 1, 2]⟩, ⟨[70, 71, 72, 73, 75, 79, 80, 81, 82], [16, 18], [], [], []⟩, ⟨[70, 71, 72, 73, 74, 79, 80, 81, 82], [16, 18], [], [], []⟩, ⟨[70, 71, 72, 73, 79, 80, 81, 82], [16, 18], [17], [17], [4, 5]⟩, ⟨[70, 71, 72, 73, 79, 80, 81, 82], [16, 18], [], [], [4, 5, 6]⟩, ⟨[79, 80, 81, 82], [18], [], [], [0, 1, 2, 3, 4, 5, 6, 7]⟩, ⟨[70, 71, 72, 73, 74, 75, 76, 77, 78, 80], [16, 17], [], [], []⟩, ⟨[70, 71, 72, 73, 74, 75, 76, 77, 78, 79], [16, 17], [], [], []⟩, ⟨[70, 71, 72, 73, 74, 75, 76, 77, 78], [16, 17], [18], [18], [9, 10]⟩, ⟨[70, 71, 72, 73, 74, 75, 76, 77, 78], [16, 17], [], [], [9, 10, 11]⟩, ⟨[], [], [], [], [0, 1, 2, 3, 4, 5, 6, 7, 8, 9, 10, 11, 12]⟩] (by kernel_rfl) (by kernel_rfl) ?_
      refine DRQ.v rfl rfl rfl (o_move rfl) ?_
      refine DRQ.v rfl rfl rfl (o_move rfl) ?_
      refine DRQ.x 16 rfl rfl rfl rfl (o_idx L24 rfl (lx rfl) rfl (by first | omega | (simp; omega)) (by first | omega | (simp; omega))) ?_
      refine DRQ.v rfl rfl rfl (o_ldq S3 rfl (lx rfl) intc) ?_
      refine DRQ.v rfl rfl rfl (o_move rfl) ?_
      refine DRQ.v rfl rfl rfl (o_move rfl) ?_
      refine DRQ.x 17 rfl rfl rfl rfl (o_idx L24 rfl (lx rfl) rfl (by first | omega | (simp; omega)) (by first | omega | (simp; omega))) ?_
      refine DRQ.v rfl rfl rfl (o_ldq S3 rfl (lx rfl) intc) ?_
      refine DRQ.v rfl rfl rfl (o_add rfl rfl (by first | omega | (simp; omega)) (by first | omega | (simp; omega))) ?_
      refine DRQ.v rfl rfl rfl (o_move rfl) ?_
      refine DRQ.v rfl rfl rfl (o_move rfl) ?_
      refine DRQ.x 18 rfl rfl rfl rfl (o_idx L24 rfl (lx rfl) rfl (by first | omega | (simp; omega)) (by first | omega | (simp; omega))) ?_
      refine DRQ.v rfl rfl rfl (o_ldq S3 rfl (lx rfl) intc) ?_
      refine DRQ.v rfl rfl rfl (o_neq rfl rfl) ?_
      refine DRQ.nil' ?_
      refine EX.then ?_
      refine WP.cond rfl (fun hc4 => ?_) (fun hc4 => ?_)
      · try simp only [cnd] at hc4
        exact absurd (law.c i (by omega)) hc4
      · try simp only [cnd] at hc4
        refine WP.skip (EX.blk (EX.then (WP.region ?_)))
        refine WPl.v rfl (o_move rfl) ?_
        refine WPl.v rfl (o_add rfl rfl (by first | omega | (simp; omega)) (by first | omega | (simp; omega))) ?_
        refine WPl.v rfl (o_assign rfl) ?_
        refine WPl.nil ?_
        refine EX.again (i + 1) id (by first | omega | (constructor <;> omega)) (by omega) (LeR.of ⟨rfl, rfl, rfl, rfl, rfl, rfl, rfl, trivial⟩ ⟨(lx rfl), (lx rfl), (lx rfl), (lx rfl), (lx rfl), (lx rfl), (lx rfl), (lx rfl), (lx rfl), (lx rfl), (lx rfl), (lx rfl), (lx rfl), trivial⟩ ⟨rfl, trivial⟩ rfl rfl rfl rfl rfl)
    · try simp only [cnd] at hc3
      refine WP.exit (EX.exit_then (EX.exit_then (EX.exit_blk (EX.then (WP.seq (WP.seq (WP.region ?_)))))))
      refine WPl.v rfl (o_assign rfl) ?_
      refine WPl.nil (EX.then (WP.block ?_))
      refine WP.loop (Gh := Nat) (fun j => ⟨16, [(1, .e (.a (.p 9 (0)))), (2, .b (false)), (7, .e (.a (.q 12))), (12, .i ((j : Int)))], [(0, PL ETm (b.hall.machs)), (1, PL EBd (b.hall.buns)), (2, PL EP.int (b.hall.trains)), (3, PL EP.int (b.hall.bores)), (4, PL (EP.sl EP.int) (b.hall.eds)), (5, PL EPl (b.set)), (6, PL EP.int (b.walk)), (7, PL ETa (b.tals)), (8, (Pred.tab 1 tz64)), (12, PL EP.int (othersR b (blame b)))], [(9, .blk [.q 0, .q 1, .q 2, ai (b.hall.change), .q 3, .q 4, .q 5, .q 6, ai (b.boys), .q 7] 33)], [], []⟩) (fun j => j ≤ 4) (fun j => 4 - j) (0) id ?_ (LeR.of ⟨rfl, rfl, rfl, rfl, trivial⟩ ⟨(lx rfl), (lx rfl), (lx rfl), (lx rfl), (lx rfl), (lx rfl), (lx rfl), (lx rfl), (lx rfl), (lx rfl), trivial⟩ ⟨rfl, trivial⟩ rfl rfl rfl rfl rfl) ?_
      · first | trivial | omega | (constructor <;> omega) | simp
      intro j hφ
      have hj : j ≤ 4 := hφ
      refine WP.seq (WP.seq (WP.region ?_))
      refine WPl.v rfl (o_move rfl) ?_
      refine WPl.v rfl (o_lss rfl rfl) ?_
      refine WPl.nil (EX.then ?_)
      refine WP.cond rfl (fun hc5 => ?_) (fun hc5 => ?_)
      · try simp only [cnd] at hc5
        refine WP.skip (EX.then (WP.seq (WP.block (WP.seq (WP.region ?_)))))
        refine WPl.v rfl (o_assign rfl) ?_
        refine WPl.nil (EX.then (WP.seq (WP.seq (WP.region ?_))))
        refine WPl.v rfl (o_assign rfl) ?_
        refine WPl.nil (EX.then (WP.block ?_))
        refine WP.loop (Gh := Nat) (fun k => ⟨16, [(1, .e (.a (.p 9 (0)))), (2, .b (false)), (7, .e (.a (.q 12))), (12, .i ((j : Int))), (84, .i ((j : Int))), (85, .b (decide ((j : Int) < 4))), (13, .i (pgL b (j : Int) (othersR b (blame b)) k)), (14, .i ((k : Int)))], [(0, PL ETm (b.hall.machs)), (1, PL EBd (b.hall.buns)), (2, PL EP.int (b.hall.trains)), (3, PL EP.int (b.hall.bores)), (4, PL (EP.sl EP.int) (b.hall.eds)), (5, PL EPl (b.set)), (6, PL EP.int (b.walk)), (7, PL ETa (b.tals)), (8, (Pred.tab 1 tz64)), (12, PL EP.int (othersR b (blame b)))], [(9, .blk [.q 0, .q 1, .q 2, ai (b.hall.change), .q 3, .q 4, .q 5, .q 6, ai (b.boys), .q 7] 33)], [], []⟩) (fun k => k ≤ (othersR b (blame b)).length) (fun k => (othersR b (blame b)).length - k) (0) id ?_ (LeR.of ⟨rfl, rfl, rfl, rfl, rfl, rfl, (congrArg (fun z => some (SV.i z)) (show (0) = ((fun k => pgL b (j : Int) (othersR b (blame b)) k) 0) from rfl)), rfl, trivial⟩ ⟨(lx rfl), (lx rfl), (lx rfl), (lx rfl), (lx rfl), (lx rfl), (lx rfl), (lx rfl), (lx rfl), (lx rfl), trivial⟩ ⟨rfl, trivial⟩ rfl rfl rfl rfl rfl) ?_
        · first | trivial | omega | (constructor <;> omega) | simp
        intro k hφ
        have hk : k ≤ (othersR b (blame b)).length := hφ
        have hpb := pgL_bnd b (j : Int) (othersR b (blame b)) k
        refine WP.seq (WP.seq (WP.region ?_))
        refine WPl.v rfl (o_move rfl) ?_
        refine WPl.v rfl (o_move rfl) ?_
        refine WPl.v rfl (o_lenq L24 rfl (lx rfl)) ?_
        refine WPl.v rfl (o_lss rfl rfl) ?_
        refine WPl.nil (EX.then ?_)
        refine WP.cond rfl (fun hc6 => ?_) (fun hc6 => ?_)
        · try simp only [cnd] at hc6
          have hij := law.i k (by omega)
          refine WP.skip (EX.then (WP.seq (WP.block (WP.seq ?_))))
          refine WP.draw (nf := 18) [⟨[96, 97, 98, 99, 103], [16], [], [], []⟩, ⟨[96, 97, 98, 99, 103], [16], [], [], [0]⟩, ⟨[94, 95, 97, 103], [], [], [], []⟩, ⟨[94, 95, 96, 103], [], [], [], []⟩, ⟨[94, 95, 103], [], [16], [16], [2, 3]⟩, ⟨[94, 95, 103], [], [], [], [2, 3, 4]⟩, ⟨[103], [], [17], [17], [0, 1, 2, 3, 4, 5]⟩, ⟨[103], [], [], [], [0, 1, 2, 3, 4, 5, 6]⟩, ⟨[103], [], [], [], [0, 1, 2, 3, 4, 5, 6, 7]⟩, ⟨[94, 95, 96, 97, 98, 99, 100, 101, 102], [16, 17], [], [], []⟩, ⟨[], [], [], [], [0, 1, 2, 3, 4, 5, 6, 7, 8, 9]⟩] (by kernel_rfl) (by kernel_rfl) ?_
          refine DRQ.v rfl rfl rfl (o_fldp F33_4 rfl) ?_
          refine DRQ.v rfl rfl rfl (o_ldp S31 rfl rfl rfl) ?_
          refine DRQ.v rfl rfl rfl (o_move rfl) ?_
          refine DRQ.v rfl rfl rfl (o_move rfl) ?_
          refine DRQ.x 16 rfl rfl rfl rfl (o_idx L24 rfl (lx rfl) rfl (by first | omega | (simp; omega)) (by first | omega | (simp; omega))) ?_
          refine DRQ.v rfl rfl rfl (o_ldq S3 rfl (lx rfl) intc) ?_
          refine DRQ.x 17 rfl rfl rfl rfl (o_idx L31 rfl (lx rfl) rfl (by first | omega | (simp; omega)) (by first | omega | (simp; omega))) ?_
          refine DRQ.v rfl rfl rfl (o_fldq F58_1 rfl (lx rfl)) ?_
          refine DRQ.v rfl rfl rfl (o_lde S3 rfl (lx rfl) (strI rfl)) ?_
          refine DRQ.v rfl rfl rfl (o_move rfl) ?_
          refine DRQ.v rfl rfl rfl (o_eql rfl rfl) ?_
          refine DRQ.nil' ?_
          refine EX.then ?_
          refine WP.cond rfl (fun hc7 => ?_) (fun hc7 => ?_)
          · try simp only [cnd] at hc7
            refine WP.region ?_
            refine WPl.v rfl (o_move rfl) ?_
            refine WPl.v rfl (o_add rfl rfl (by first | omega | (simp; omega)) (by first | omega | (simp; omega))) ?_
            refine WPl.v rfl (o_assign rfl) ?_
            refine WPl.nil (EX.blk (EX.then (WP.region ?_)))
            refine WPl.v rfl (o_move rfl) ?_
            refine WPl.v rfl (o_add rfl rfl (by first | omega | (simp; omega)) (by first | omega | (simp; omega))) ?_
            refine WPl.v rfl (o_assign rfl) ?_
            refine WPl.nil ?_
            refine EX.again (k + 1) id (by first | omega | (constructor <;> omega)) (by omega) (LeR.of ⟨rfl, rfl, rfl, rfl, rfl, rfl, (congrArg (fun z => some (SV.i z)) (show ((pgL b (j : Int) (othersR b (blame b)) k) + 1) = ((fun k => pgL b (j : Int) (othersR b (blame b)) k) (k + 1)) from by dsimp only; simp only [pgL]; rw [if_pos (decide_eq_true hc7)])), rfl, trivial⟩ ⟨(lx rfl), (lx rfl), (lx rfl), (lx rfl), (lx rfl), (lx rfl), (lx rfl), (lx rfl), (lx rfl), (lx rfl), trivial⟩ ⟨rfl, trivial⟩ rfl rfl rfl rfl rfl)
          · try simp only [cnd] at hc7
            refine WP.skip (EX.blk (EX.then (WP.region ?_)))
            refine WPl.v rfl (o_move rfl) ?_
            refine WPl.v rfl (o_add rfl rfl (by first | omega | (simp; omega)) (by first | omega | (simp; omega))) ?_
            refine WPl.v rfl (o_assign rfl) ?_
            refine WPl.nil ?_
            refine EX.again (k + 1) id (by first | omega | (constructor <;> omega)) (by omega) (LeR.of ⟨rfl, rfl, rfl, rfl, rfl, rfl, (congrArg (fun z => some (SV.i z)) (show (pgL b (j : Int) (othersR b (blame b)) k) = ((fun k => pgL b (j : Int) (othersR b (blame b)) k) (k + 1)) from by dsimp only; simp only [pgL]; rw [if_neg (by rw [decide_eq_false hc7]; simp)])), rfl, trivial⟩ ⟨(lx rfl), (lx rfl), (lx rfl), (lx rfl), (lx rfl), (lx rfl), (lx rfl), (lx rfl), (lx rfl), (lx rfl), trivial⟩ ⟨rfl, trivial⟩ rfl rfl rfl rfl rfl)
        · try simp only [cnd] at hc6
          have hke : k = (othersR b (blame b)).length := by omega
          have hp := law.p (j : Int) (by omega) (by omega)
          rw [← hke] at hp
          refine WP.exit (EX.exit_then (EX.exit_then (EX.exit_blk (EX.then (WP.seq (WP.region ?_))))))
          refine WPl.v rfl (o_ldpa G33 rfl rfl rfl) ?_
          refine WPl.v rfl (o_move rfl) ?_
          refine WPl.cs 16 rfl rfl rfl rfl (o_sig 16 (ren [(0, 0), (1, 1), (2, 2), (3, 3), (4, 4), (5, 5), (6, 6), (7, 7), (8, 8)]) (c37 b (j : Int) hm) e37 rfl rfl rfl w37 ⟨(lx rfl), (lx rfl), (lx rfl), (lx rfl), (lx rfl), (lx rfl), (lx rfl), (lx rfl), (lx rfl), trivial⟩ r37) ?_
          refine WPl.v rfl (o_move rfl) ?_
          refine WPl.v rfl (o_extract rfl rfl) ?_
          refine WPl.v rfl (o_extract rfl rfl) ?_
          refine WPl.l 16 17 rfl rfl rfl (o_alloc Z60) ?_
          refine WPl.s1 (o_stag G60 rfl rfl rfl ⟨rfl, rfl, trivial⟩ rfl rfl) ?_
          refine WPl.v rfl (o_assign rfl) ?_
          refine WPl.nil (EX.then (WP.seq (WP.region ?_)))
          refine WPl.v rfl (o_move rfl) ?_
          refine WPl.v rfl (o_neq rfl rfl) ?_
          refine WPl.imp (Imp.bitF 114 (b' := false) rfl (decide_eq_false (fun h => h hp.1))) ?_
          refine WPl.v rfl (o_move rfl) ?_
          refine WPl.on rfl ⟨_, _, rfl, rfl, rfl⟩ (o_move rfl) ?_
          refine WPl.ung ⟨_, _, rfl, rfl, rfl⟩ ?_
          refine WPl.v rfl (o_fldp F60_0 rfl) ?_
          refine WPl.ung ⟨_, _, rfl, rfl, rfl⟩ ?_
          refine WPl.v rfl (o_ldp S3 rfl rfl rfl) ?_
          refine WPl.on rfl ⟨_, _, rfl, rfl, rfl⟩ (o_lss rfl rfl) ?_
          refine WPl.imp (Imp.bitF 119 (b' := false) rfl (decide_eq_false (by omega))) ?_
          refine WPl.v rfl (o_pickF rfl rfl) ?_
          refine WPl.v rfl (o_move rfl) ?_
          refine WPl.on rfl ⟨_, _, rfl, rfl, rfl⟩ (o_move rfl) ?_
          refine WPl.ung ⟨_, _, rfl, rfl, rfl⟩ ?_
          refine WPl.v rfl (o_fldp F60_1 rfl) ?_
          refine WPl.ung ⟨_, _, rfl, rfl, rfl⟩ ?_
          refine WPl.v rfl (o_ldp S3 rfl rfl rfl) ?_
          refine WPl.on rfl ⟨_, _, rfl, rfl, rfl⟩ (o_gtr rfl rfl) ?_
          refine WPl.imp (Imp.bitF 125 (b' := false) rfl (decide_eq_false (by omega))) ?_
          refine WPl.v rfl (o_pickF rfl rfl) ?_
          refine WPl.v rfl (o_move rfl) ?_
          refine WPl.ung ⟨_, _, rfl, rfl, rfl⟩ ?_
          refine WPl.v rfl (o_fldp F60_0 rfl) ?_
          refine WPl.ung ⟨_, _, rfl, rfl, rfl⟩ ?_
          refine WPl.v rfl (o_ldp S3 rfl rfl rfl) ?_
          refine WPl.on rfl ⟨_, _, rfl, rfl, rfl⟩ (o_lss rfl rfl) ?_
          refine WPl.imp (Imp.bitF 130 (b' := false) rfl (decide_eq_false (by omega))) ?_
          refine WPl.v rfl (o_pickF rfl rfl) ?_
          refine WPl.nil (EX.then ?_)
          refine WP.cond rfl (fun h => by cases h) (fun _ => ?_)
          refine WP.skip (EX.blk (EX.then (WP.region ?_)))
          refine WPl.v rfl (o_move rfl) ?_
          refine WPl.v rfl (o_add rfl rfl (by first | omega | (simp; omega)) (by first | omega | (simp; omega))) ?_
          refine WPl.v rfl (o_assign rfl) ?_
          refine WPl.nil ?_
          refine EX.again (j + 1) id (by first | omega | (constructor <;> omega)) (by omega) (LeR.of ⟨rfl, rfl, rfl, rfl, trivial⟩ ⟨(lx rfl), (lx rfl), (lx rfl), (lx rfl), (lx rfl), (lx rfl), (lx rfl), (lx rfl), (lx rfl), (lx rfl), trivial⟩ ⟨rfl, trivial⟩ rfl rfl rfl rfl rfl)
      · try simp only [cnd] at hc5
        refine WP.exit (EX.exit_then (EX.exit_then (EX.exit_blk (EX.then (WP.seq (WP.region ?_))))))
        refine WPl.cs 16 rfl rfl rfl rfl (o_sig 16 (ren [(0, 8)]) c19 e19 rfl rfl rfl w19 ⟨(lx rfl), trivial⟩ r19) ?_
        refine WPl.v rfl (o_assign rfl) ?_
        refine WPl.nil (EX.then (WP.ret ?_))
        exact EX.fin id (.inl rfl) rfl (.tmp rfl .nil) rfl r5 trivial (by simp) (by simp)
theorem w13 {b : Book} : ∀ x ∈ ([.e (.g [.q 0, .q 1, .q 2, ai (b.hall.change), .q 3, .q 4, .q 5, .q 6, ai (b.boys), .q 7])] : List SV), x.res (keys (α := Pred) [(0, PL ETm (b.hall.machs)), (1, PL EBd (b.hall.buns)), (2, PL EP.int (b.hall.trains)), (3, PL EP.int (b.hall.bores)), (4, PL (EP.sl EP.int) (b.hall.eds)), (5, PL EPl (b.set)), (6, PL EP.int (b.walk)), (7, PL ETa (b.tals)), (8, (Pred.tab 1 tz64))]) := by simp [SV.res, El.res, At.res, keys]
theorem r13  : SV.res (keys (α := Pred) []) (.b (true)) := by simp [SV.res, El.res, At.res, keys]
set_option maxHeartbeats 4000000 in
set_option maxRecDepth 10000 in
theorem c13 (b : Book)  : Sig Tryz.prog 13 [.e (.g [.q 0, .q 1, .q 2, ai (b.hall.change), .q 3, .q 4, .q 5, .q 6, ai (b.boys), .q 7])] [(0, PL ETm (b.hall.machs)), (1, PL EBd (b.hall.buns)), (2, PL EP.int (b.hall.trains)), (3, PL EP.int (b.hall.bores)), (4, PL (EP.sl EP.int) (b.hall.eds)), (5, PL EPl (b.set)), (6, PL EP.int (b.walk)), (7, PL ETa (b.tals)), (8, (Pred.tab 1 tz64))] (.b (true)) [] := by
  refine Sig.intro Tryz.func13 rfl 9 [(0, .e (.g [.q 0, .q 1, .q 2, ai (b.hall.change), .q 3, .q 4, .q 5, .q 6, ai (b.boys), .q 7]))] rfl w13 rfl rfl fun I w => ?_
  refine WP.seq (WP.region ?_)
  refine WPl.l 9 10 rfl rfl rfl (o_boxg rfl) ?_
  refine WPl.v rfl (o_assign rfl) ?_
  refine WPl.nil (EX.then (WP.seq (WP.seq (WP.region ?_))))
  refine WPl.v rfl (o_ldpa G33 rfl rfl rfl) ?_
  refine WPl.cs 10 rfl rfl rfl rfl (o_sig 10 (ren [(0, 0), (1, 1), (2, 2), (3, 3), (4, 4), (5, 5), (6, 6), (7, 7)]) (c24 b) e24 rfl rfl rfl w24 ⟨(lx rfl), (lx rfl), (lx rfl), (lx rfl), (lx rfl), (lx rfl), (lx rfl), (lx rfl), trivial⟩ r24) ?_
  refine WPl.v rfl (o_not rfl) ?_
  refine WPl.nil (EX.then ?_)
  refine WP.cond rfl (fun hc1 => ?_) (fun hc1 => ?_)
  · try simp only [cnd] at hc1
    refine WP.seq (WP.region ?_)
    refine WPl.cs 10 rfl rfl rfl rfl (o_sig 10 (ren [(0, 8)]) c19 e19 rfl rfl rfl w19 ⟨(lx rfl), trivial⟩ r19) ?_
    refine WPl.v rfl (o_assign rfl) ?_
    refine WPl.nil (EX.then (WP.ret (EX.ret_then ?_)))
    exact EX.fin id (.inl rfl) rfl (.tmp rfl .nil) rfl r13 trivial (by simp) (by simp)
  · try simp only [cnd] at hc1
    have hc : b.chk = true := ready_chk hc1
    have hm : b.Small := ready_small hc1
    have hB := bookB hc
    have ht8 := hB.t
    have hm6 := hm.s
    have hbn := hB.n
    refine WP.skip (EX.then (WP.seq (WP.region ?_)))
    refine WPl.v rfl (o_ldpa G33 rfl rfl rfl) ?_
    refine WPl.cs 10 rfl rfl rfl rfl (o_sig 10 (ren [(0, 0), (1, 1), (2, 2), (3, 3), (4, 4), (5, 5), (6, 6), (7, 7), (8, 8)]) (c52 b hm) e52 rfl rfl rfl w52 ⟨(lx rfl), (lx rfl), (lx rfl), (lx rfl), (lx rfl), (lx rfl), (lx rfl), (lx rfl), (lx rfl), trivial⟩ r52) ?_
    refine WPl.v rfl (o_assign rfl) ?_
    refine WPl.nil (EX.then (WP.seq (WP.region ?_)))
    refine WPl.v rfl (o_assign rfl) ?_
    refine WPl.nil (EX.then (WP.seq (WP.seq (WP.region ?_))))
    refine WPl.v rfl (o_assign rfl) ?_
    refine WPl.nil (EX.then (WP.block ?_))
    refine WP.loop (Gh := Nat) (fun i => ⟨10, [(1, .e (.a (.p 9 (0)))), (2, .b (false)), (3, .i (countB b)), (4, .b (allHon b i)), (5, .i ((i : Int)))], [(0, PL ETm (b.hall.machs)), (1, PL EBd (b.hall.buns)), (2, PL EP.int (b.hall.trains)), (3, PL EP.int (b.hall.bores)), (4, PL (EP.sl EP.int) (b.hall.eds)), (5, PL EPl (b.set)), (6, PL EP.int (b.walk)), (7, PL ETa (b.tals)), (8, (Pred.tab 1 tz64))], [(9, .blk [.q 0, .q 1, .q 2, ai (b.hall.change), .q 3, .q 4, .q 5, .q 6, ai (b.boys), .q 7] 33)], [], []⟩) (fun i => i ≤ b.boys.toNat) (fun i => b.boys.toNat - i) (0) id ?_ (LeR.of ⟨rfl, rfl, rfl, (congrArg (fun z => some (SV.b z)) (show (true) = ((fun i => allHon b i) 0) from rfl)), rfl, trivial⟩ ⟨(lx rfl), (lx rfl), (lx rfl), (lx rfl), (lx rfl), (lx rfl), (lx rfl), (lx rfl), (lx rfl), trivial⟩ ⟨rfl, trivial⟩ rfl rfl rfl rfl rfl) ?_
    · first | trivial | omega | (constructor <;> omega) | simp
    intro i hφ
    have hi : i ≤ b.boys.toNat := hφ
    refine WP.seq (WP.seq (WP.region ?_))
    refine WPl.v rfl (o_move rfl) ?_
    refine WPl.v rfl (o_fldp F33_3 rfl) ?_
    refine WPl.v rfl (o_ldp S3 rfl rfl rfl) ?_
    refine WPl.v rfl (o_lss rfl rfl) ?_
    refine WPl.nil (EX.then ?_)
    refine WP.cond rfl (fun hc2 => ?_) (fun hc2 => ?_)
    · try simp only [cnd] at hc2
      have law := hon_law2 hc (n := (i : Int)) (by omega)
      refine WP.skip (EX.then (WP.seq (WP.block (WP.seq (WP.region ?_)))))
      refine WPl.v rfl (o_ldpa G33 rfl rfl rfl) ?_
      refine WPl.v rfl (o_move rfl) ?_
      refine WPl.cs 10 rfl rfl rfl rfl (o_sig 10 (ren [(0, 0), (1, 1), (2, 2), (3, 3), (4, 4), (5, 5), (6, 6), (7, 7), (8, 8)]) (c40 b (i : Int) hm) e40 rfl rfl rfl w40 ⟨(lx rfl), (lx rfl), (lx rfl), (lx rfl), (lx rfl), (lx rfl), (lx rfl), (lx rfl), (lx rfl), trivial⟩ r40) ?_
      refine WPl.v rfl (o_move rfl) ?_
      refine WPl.v rfl (o_extract rfl rfl) ?_
      refine WPl.v rfl (o_extract rfl rfl) ?_
      refine WPl.v rfl (o_assign rfl) ?_
      refine WPl.v rfl (o_assign rfl) ?_
      refine WPl.nil (EX.then (WP.seq (WP.seq (WP.region ?_))))
      refine WPl.v rfl (o_move rfl) ?_
      refine WPl.v rfl (o_neq rfl rfl) ?_
      refine WPl.imp (Imp.bitF 31 (b' := false) rfl (decide_eq_false (fun h => h law.e))) ?_
      refine WPl.v rfl (o_move rfl) ?_
      refine WPl.on rfl ⟨_, _, rfl, rfl, rfl⟩ (o_move rfl) ?_
      refine WPl.ung ⟨_, _, rfl, rfl, rfl⟩ ?_
      refine WPl.cs 10 rfl rfl rfl rfl (o_sig 10 id (c26 (honV b (i : Int)) 1 3) e26 rfl rfl rfl w26 trivial r26) ?_
      refine WPl.imp (Imp.bitF 34 (b' := true) rfl (by have h := law.k; simp [within, h.1, h.2])) ?_
      refine WPl.on rfl ⟨_, _, rfl, rfl, rfl⟩ (o_not rfl) ?_
      refine WPl.v rfl (o_pickF rfl rfl) ?_
      refine WPl.nil (EX.then ?_)
      refine WP.cond rfl (fun h => by cases h) (fun _ => ?_)
      refine WP.skip (EX.then (WP.seq (WP.region ?_)))
      refine WPl.v rfl (o_move rfl) ?_
      refine WPl.v rfl (o_move rfl) ?_
      refine WPl.bit 10 11 (allHon b i) rfl rfl ?_
      refine WPl.gv 10 rfl rfl (.plain rfl Iff.rfl rfl) (fun hb => o_move rfl) ?_
      refine WPl.gv 10 rfl rfl (.plain rfl Iff.rfl rfl) (fun hb => o_eql rfl rfl) ?_
      refine WPl.v rfl (o_and rfl rfl rfl id) ?_
      refine WPl.v rfl (o_assign rfl) ?_
      refine WPl.nil (EX.then (WP.seq (WP.region ?_)))
      refine WPl.v rfl (o_assign rfl) ?_
      refine WPl.v rfl (o_assign rfl) ?_
      refine WPl.nil (EX.then (WP.seq (WP.seq (WP.region ?_))))
      refine WPl.v rfl (o_assign rfl) ?_
      refine WPl.nil (EX.then (WP.block ?_))
      refine WP.loop (Gh := Nat) (fun j => ⟨11, [(1, .e (.a (.p 9 (0)))), (2, .b (false)), (3, .i (countB b)), (4, .b ((allHon b i) && (decide ((honV b (i : Int)) = 1)))), (5, .i ((i : Int))), (18, .i ((i : Int))), (19, .e (.a (.p 9 (8)))), (20, .i (b.boys)), (21, .b (decide ((i : Int) < b.boys))), (25, .e (.g [.q 0, .q 1, .q 2, ai (b.hall.change), .q 3, .q 4, .q 5, .q 6, ai (b.boys), .q 7])), (26, .i ((i : Int))), (27, .t [.a (ai (honV b (i : Int))), .a (ai (honE b (i : Int)))]), (24, .t [.a (ai (honV b (i : Int))), .a (ai (honE b (i : Int)))]), (28, .i (honV b (i : Int))), (29, .i (honE b (i : Int))), (6, .i (honV b (i : Int))), (7, .i (honE b (i : Int))), (30, .i (honE b (i : Int))), (31, .b (false)), (32, .b (false)), (33, .i (honV b (i : Int))), (34, .b (true)), (35, .b (false)), (36, .b (false)), (37, .b (allHon b i)), (38, .b (allHon b i)), (41, .b ((allHon b i) && (decide ((honV b (i : Int)) = 1)))), (8, .b (liarTo b (i : Int) j)), (9, .b (cleanTo b (i : Int) j)), (10, .i ((j : Int)))], [(0, PL ETm (b.hall.machs)), (1, PL EBd (b.hall.buns)), (2, PL EP.int (b.hall.trains)), (3, PL EP.int (b.hall.bores)), (4, PL (EP.sl EP.int) (b.hall.eds)), (5, PL EPl (b.set)), (6, PL EP.int (b.walk)), (7, PL ETa (b.tals)), (8, (Pred.tab 1 tz64))], [(9, .blk [.q 0, .q 1, .q 2, ai (b.hall.change), .q 3, .q 4, .q 5, .q 6, ai (b.boys), .q 7] 33)], [], []⟩) (fun j => j ≤ b.tals.length) (fun j => b.tals.length - j) (0) id ?_ (LeR.of ⟨rfl, rfl, rfl, rfl, rfl, rfl, rfl, rfl, rfl, rfl, rfl, rfl, rfl, rfl, rfl, rfl, rfl, rfl, rfl, rfl, rfl, rfl, rfl, rfl, rfl, rfl, rfl, (congrArg (fun z => some (SV.b z)) (show (false) = ((fun j => liarTo b (i : Int) j) 0) from rfl)), (congrArg (fun z => some (SV.b z)) (show (true) = ((fun j => cleanTo b (i : Int) j) 0) from rfl)), rfl, trivial⟩ ⟨(lx rfl), (lx rfl), (lx rfl), (lx rfl), (lx rfl), (lx rfl), (lx rfl), (lx rfl), (lx rfl), trivial⟩ ⟨rfl, trivial⟩ rfl rfl rfl rfl rfl) ?_
      · first | trivial | omega | (constructor <;> omega) | simp
      intro j hφ
      have hj : j ≤ b.tals.length := hφ
      refine WP.seq (WP.seq (WP.region ?_))
      refine WPl.v rfl (o_move rfl) ?_
      refine WPl.v rfl (o_fldp F33_4 rfl) ?_
      refine WPl.v rfl (o_ldp S31 rfl rfl rfl) ?_
      refine WPl.v rfl (o_lenq L31 rfl (lx rfl)) ?_
      refine WPl.v rfl (o_lss rfl rfl) ?_
      refine WPl.nil (EX.then ?_)
      refine WP.cond rfl (fun hc4 => ?_) (fun hc4 => ?_)
      · try simp only [cnd] at hc4
        refine WP.skip (EX.then (WP.seq (WP.block (WP.seq (WP.region ?_)))))
        refine WPl.v rfl (o_fldp F33_4 rfl) ?_
        refine WPl.v rfl (o_ldp S31 rfl rfl rfl) ?_
        refine WPl.v rfl (o_move rfl) ?_
        refine WPl.x 11 12 rfl rfl rfl (o_idx L31 rfl (lx rfl) rfl (by first | omega | (simp; omega)) (by first | omega | (simp; omega))) ?_
        refine WPl.v rfl (o_fldq F58_0 rfl (lx rfl)) ?_
        refine WPl.v rfl (o_lde S3 rfl (lx rfl) (strI rfl)) ?_
        refine WPl.v rfl (o_move rfl) ?_
        refine WPl.v rfl (o_eql rfl rfl) ?_
        refine WPl.nil (EX.then ?_)
        refine WP.cond rfl (fun hc5 => ?_) (fun hc5 => ?_)
        · try simp only [cnd] at hc5
          refine WP.seq (WP.region ?_)
          refine WPl.v rfl (o_ldpa G33 rfl rfl rfl) ?_
          refine WPl.v rfl (o_move rfl) ?_
          refine WPl.cs 12 rfl rfl rfl rfl (o_sig 12 (ren [(0, 0), (1, 1), (2, 2), (3, 3), (4, 4), (5, 5), (6, 6), (7, 7), (8, 8)]) (c59 b (j : Int) hm) e59 rfl rfl rfl w59 ⟨(lx rfl), (lx rfl), (lx rfl), (lx rfl), (lx rfl), (lx rfl), (lx rfl), (lx rfl), (lx rfl), trivial⟩ r59) ?_
          refine WPl.v rfl (o_assign rfl) ?_
          refine WPl.nil (EX.then (WP.seq (WP.seq (WP.region ?_))))
          refine WPl.v rfl (o_move rfl) ?_
          refine WPl.v rfl (o_lss rfl rfl) ?_
          refine WPl.nil (EX.then ?_)
          refine WP.cond rfl (fun hc6 => ?_) (fun hc6 => ?_)
          · try simp only [cnd] at hc6
            exfalso
            have h := (lieV_eq hc (n := (j : Int)) (by omega)).2.2
            have h2 := knB_in b (bit (j : Int))
            omega
          · try simp only [cnd] at hc6
            refine WP.skip (EX.then (WP.region ?_))
            refine WPl.v rfl (o_move rfl) ?_
            refine WPl.v rfl (o_move rfl) ?_
            refine WPl.bit 12 13 (!(liarTo b (i : Int) j)) rfl rfl ?_
            refine WPl.gv 12 rfl rfl (.plain rfl (by first | (simp; done) | simp only [Bool.not_eq_true']) rfl) (fun hb => o_move rfl) ?_
            refine WPl.gv 12 rfl rfl (.plain rfl (by first | (simp; done) | simp only [Bool.not_eq_true']) rfl) (fun hb => o_eql rfl rfl) ?_
            refine WPl.v rfl (o_or rfl rfl rfl (by first | (simp; done) | exact fun h => by rw [h]; rfl | exact fun h => Bool.and_eq_true_iff.2 ⟨hb, by rw [h]; rfl⟩ | simp_all)) ?_
            refine WPl.v rfl (o_move rfl) ?_
            refine WPl.v rfl (o_move rfl) ?_
            refine WPl.bit 13 14 (cleanTo b (i : Int) j) rfl rfl ?_
            refine WPl.gv 13 rfl rfl (.plain rfl Iff.rfl rfl) (fun hb => o_move rfl) ?_
            refine WPl.gv 13 rfl rfl (.plain rfl Iff.rfl rfl) (fun hb => o_eql rfl rfl) ?_
            refine WPl.v rfl (o_and rfl rfl rfl id) ?_
            refine WPl.v rfl (o_assign rfl) ?_
            refine WPl.v rfl (o_assign rfl) ?_
            refine WPl.nil (EX.blk (EX.then (WP.region ?_)))
            refine WPl.v rfl (o_move rfl) ?_
            refine WPl.v rfl (o_add rfl rfl (by first | omega | (simp; omega)) (by first | omega | (simp; omega))) ?_
            refine WPl.v rfl (o_assign rfl) ?_
            refine WPl.nil ?_
            refine EX.again (j + 1) id (by first | omega | (constructor <;> omega)) (by omega) (LeR.of ⟨rfl, rfl, rfl, rfl, rfl, rfl, rfl, rfl, rfl, rfl, rfl, rfl, rfl, rfl, rfl, rfl, rfl, rfl, rfl, rfl, rfl, rfl, rfl, rfl, rfl, rfl, rfl, (congrArg (fun z => some (SV.b z)) (show ((liarTo b (i : Int) j) || (decide ((lieB b (j : Int)) = 1))) = ((fun j => liarTo b (i : Int) j) (j + 1)) from by dsimp only; simp only [liarTo]; rw [if_pos hc5])), (congrArg (fun z => some (SV.b z)) (show ((cleanTo b (i : Int) j) && (decide ((lieB b (j : Int)) = 2))) = ((fun j => cleanTo b (i : Int) j) (j + 1)) from by dsimp only; simp only [cleanTo]; rw [if_pos hc5])), rfl, trivial⟩ ⟨(lx rfl), (lx rfl), (lx rfl), (lx rfl), (lx rfl), (lx rfl), (lx rfl), (lx rfl), (lx rfl), trivial⟩ ⟨rfl, trivial⟩ rfl rfl rfl rfl rfl)
        · try simp only [cnd] at hc5
          refine WP.skip (EX.blk (EX.then (WP.region ?_)))
          refine WPl.v rfl (o_move rfl) ?_
          refine WPl.v rfl (o_add rfl rfl (by first | omega | (simp; omega)) (by first | omega | (simp; omega))) ?_
          refine WPl.v rfl (o_assign rfl) ?_
          refine WPl.nil ?_
          refine EX.again (j + 1) id (by first | omega | (constructor <;> omega)) (by omega) (LeR.of ⟨rfl, rfl, rfl, rfl, rfl, rfl, rfl, rfl, rfl, rfl, rfl, rfl, rfl, rfl, rfl, rfl, rfl, rfl, rfl, rfl, rfl, rfl, rfl, rfl, rfl, rfl, rfl, (congrArg (fun z => some (SV.b z)) (show (liarTo b (i : Int) j) = ((fun j => liarTo b (i : Int) j) (j + 1)) from by dsimp only; simp only [liarTo]; rw [if_neg hc5])), (congrArg (fun z => some (SV.b z)) (show (cleanTo b (i : Int) j) = ((fun j => cleanTo b (i : Int) j) (j + 1)) from by dsimp only; simp only [cleanTo]; rw [if_neg hc5])), rfl, trivial⟩ ⟨(lx rfl), (lx rfl), (lx rfl), (lx rfl), (lx rfl), (lx rfl), (lx rfl), (lx rfl), (lx rfl), trivial⟩ ⟨rfl, trivial⟩ rfl rfl rfl rfl rfl)
      · try simp only [cnd] at hc4
        have hje : j = b.tals.length := by omega
        refine WP.exit (EX.exit_then (EX.exit_then (EX.exit_blk (EX.then (WP.seq (WP.region ?_))))))
        refine WPl.v rfl (o_move rfl) ?_
        refine WPl.v rfl (o_move rfl) ?_
        refine WPl.bit 11 12 (liarTo b (i : Int) j) rfl rfl ?_
        refine WPl.gv 11 rfl rfl (.plain rfl Iff.rfl rfl) (fun hb => o_move rfl) ?_
        refine WPl.gv 11 rfl rfl (.plain rfl Iff.rfl rfl) (fun hb => o_neq rfl rfl) ?_
        refine WPl.v rfl (o_and rfl rfl rfl id) ?_
        refine WPl.v rfl (o_move rfl) ?_
        refine WPl.bit 12 13 (!((liarTo b (i : Int) j) && (decide ((honV b (i : Int)) ≠ 2)))) rfl rfl ?_
        refine WPl.gv 12 rfl rfl (.plain rfl (by first | (simp; done) | simp only [Bool.not_eq_true']) rfl) (fun hb => o_move rfl) ?_
        refine WPl.gv 12 rfl rfl (.plain rfl (by first | (simp; done) | simp only [Bool.not_eq_true']) rfl) (fun hb => o_move rfl) ?_
        refine WPl.gv 12 rfl rfl (.plain rfl (by first | (simp; done) | simp only [Bool.not_eq_true']) rfl) (fun hb => o_eql rfl rfl) ?_
        refine WPl.gv 12 rfl rfl (.plain rfl (by first | (simp; done) | simp only [Bool.not_eq_true']) rfl) (fun hb => o_neb Tryz.underlying4 rfl rfl) ?_
        refine WPl.v rfl (o_or rfl rfl rfl (by first | (simp; done) | exact fun h => by rw [h]; rfl | exact fun h => Bool.and_eq_true_iff.2 ⟨hb, by rw [h]; rfl⟩ | simp_all)) ?_
        refine WPl.nil (EX.then ?_)
        refine WP.cond rfl (fun hc7 => ?_) (fun hc7 => ?_)
        · try simp only [cnd] at hc7
          exfalso
          rw [hje] at hc7
          rcases hc7 with h | h
          · exact h.2 (law.l h.1)
          · rw [law.c] at h; simp at h
        · try simp only [cnd] at hc7
          refine WP.skip (EX.blk (EX.then (WP.region ?_)))
          refine WPl.v rfl (o_move rfl) ?_
          refine WPl.v rfl (o_add rfl rfl (by first | omega | (simp; omega)) (by first | omega | (simp; omega))) ?_
          refine WPl.v rfl (o_assign rfl) ?_
          refine WPl.nil ?_
          refine EX.again (i + 1) id (by first | omega | (constructor <;> omega)) (by omega) (LeR.of ⟨rfl, rfl, rfl, (congrArg (fun z => some (SV.b z)) (show ((allHon b i) && (decide ((honV b (i : Int)) = 1))) = ((fun i => allHon b i) (i + 1)) from rfl)), rfl, trivial⟩ ⟨(lx rfl), (lx rfl), (lx rfl), (lx rfl), (lx rfl), (lx rfl), (lx rfl), (lx rfl), (lx rfl), trivial⟩ ⟨rfl, trivial⟩ rfl rfl rfl rfl rfl)
    · try simp only [cnd] at hc2
      refine WP.exit (EX.exit_then (EX.exit_then (EX.exit_blk (EX.then (WP.seq (WP.region ?_))))))
      refine WPl.v rfl (o_move rfl) ?_
      refine WPl.v rfl (o_geq rfl rfl) ?_
      refine WPl.imp (Imp.bitF 84 (b' := true) rfl (decide_eq_true (by rw [countB_eq hc]; omega))) ?_
      refine WPl.v rfl (o_move rfl) ?_
      refine WPl.ung ⟨_, _, rfl, rfl, rfl⟩ ?_
      refine WPl.v rfl (o_fldp F33_3 rfl) ?_
      refine WPl.ung ⟨_, _, rfl, rfl, rfl⟩ ?_
      refine WPl.v rfl (o_ldp S3 rfl rfl rfl) ?_
      refine WPl.on rfl ⟨_, _, rfl, rfl, rfl⟩ (o_eql rfl rfl) ?_
      refine WPl.on rfl ⟨_, _, rfl, rfl, rfl⟩ (o_move rfl) ?_
      refine WPl.bit 10 11 (!(decide (b.boys = 0))) rfl rfl ?_
      refine WPl.gv 10 rfl rfl (.plain rfl (by first | (simp; done) | simp only [Bool.not_eq_true']) rfl) (fun hb => o_move rfl) ?_
      refine WPl.gv 10 rfl rfl (.plain rfl (by first | (simp; done) | simp only [Bool.not_eq_true']) rfl) (fun hb => o_move rfl) ?_
      refine WPl.gv 10 rfl rfl (.plain rfl (by first | (simp; done) | simp only [Bool.not_eq_true']) rfl) (fun hb => o_eql rfl rfl) ?_
      refine WPl.gv 10 rfl rfl (.plain rfl (by first | (simp; done) | simp only [Bool.not_eq_true']) rfl) (fun hb => o_eqb Tryz.underlying4 rfl rfl) ?_
      refine WPl.on rfl ⟨_, _, rfl, rfl, rfl⟩ (o_or rfl rfl rfl (by first | (simp; done) | exact fun h => by rw [h]; rfl | exact fun h => Bool.and_eq_true_iff.2 ⟨hb, by rw [h]; rfl⟩ | simp_all)) ?_
      refine WPl.imp (Imp.bitF 94 (b' := true) rfl (by by_cases h : b.boys = 0; (simp [h]); (rw [show i = b.boys.toNat by omega, all_hon hc h]; simp))) ?_
      refine WPl.v rfl (o_pickT rfl rfl) ?_
      refine WPl.v rfl (o_move rfl) ?_
      refine WPl.ung ⟨_, _, rfl, rfl, rfl⟩ ?_
      refine WPl.cs 11 rfl rfl rfl rfl (o_sig 11 (ren [(0, 8)]) c19 e19 rfl rfl rfl w19 ⟨(lx rfl), trivial⟩ r19) ?_
      refine WPl.v rfl (o_pickT rfl rfl) ?_
      refine WPl.v rfl (o_assign rfl) ?_
      refine WPl.nil (EX.then (WP.ret ?_))
      exact EX.fin id (.inl rfl) rfl (.tmp rfl .nil) rfl r13 trivial (by simp) (by simp)
end Go.Flong
