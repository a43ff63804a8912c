/- Part 6 of the texts behind the claim: GCLX2. -/
import Derived.Test.YtapgiededfphfaaGreatDoorVC5
set_option linter.unusedSimpArgs false
set_option linter.unusedVariables false
namespace Go.Flong
open Go Go.Eng Go.Proofs
theorem e24 : Enters' Tryz.prog 24 := Tryz.call24
theorem e19 : Enters' Tryz.prog 19 := Tryz.call19
theorem e52 : Enters' Tryz.prog 52 := Tryz.call52
theorem F79_0 : Fld Tryz.prog 79 0 0 := .mk Tryz.underlying79 rfl rfl rfl Tryz.sizeOf77 rfl
theorem e36 : Enters' Tryz.prog 36 := Tryz.call36
theorem e57 : Enters' Tryz.prog 57 := Tryz.call57
theorem F79_1 : Fld Tryz.prog 79 1 3 := .mk Tryz.underlying79 rfl rfl rfl Tryz.sizeOf3 rfl
theorem F79_2 : Fld Tryz.prog 79 2 4 := .mk Tryz.underlying79 rfl rfl rfl Tryz.sizeOf3 rfl
theorem F79_3 : Fld Tryz.prog 79 3 5 := .mk Tryz.underlying79 rfl rfl rfl Tryz.sizeOf58 rfl
theorem F35_0 : Fld Tryz.prog 35 0 0 := .mk Tryz.underlying35 rfl rfl rfl Tryz.sizeOf3 rfl
theorem F35_1 : Fld Tryz.prog 35 1 1 := .mk Tryz.underlying35 rfl rfl rfl Tryz.sizeOf3 rfl
theorem F35_2 : Fld Tryz.prog 35 2 2 := .mk Tryz.underlying35 rfl rfl rfl Tryz.sizeOf3 rfl
theorem e59 : Enters' Tryz.prog 59 := Tryz.call59
theorem w10 {b : Book} {px py pz m n t1 t2 t3 t4 : Int} : ∀ x ∈ ([.e (.g [.q 0, .q 1, .q 2, ai (b.hall.change), .q 3, .q 4, .q 5, .q 6, ai (b.boys), .q 7]), .e (.g [ai (px), ai (py), ai (pz), ai (m), ai (n), ai (t1), ai (t2), ai (t3), ai (t4)])] : List SV), x.res (keys (α := Pred) [(0, PL ETm (b.hall.machs)), (1, PL EBd (b.hall.buns)), (2, PL EP.int (b.hall.trains)), (3, PL EP.int (b.hall.bores)), (4, PL (EP.sl EP.int) (b.hall.eds)), (5, PL EPl (b.set)), (6, PL EP.int (b.walk)), (7, PL ETa (b.tals)), (8, (Pred.tab 1 tz64))]) := by simp [SV.res, El.res, At.res, keys]
theorem r10  : SV.res (keys (α := Pred) []) (.b (true)) := by simp [SV.res, El.res, At.res, keys]
set_option maxHeartbeats 4000000 in
set_option maxRecDepth 10000 in
theorem c10 (b : Book) (px py pz m n t1 t2 t3 t4 : Int)  : Sig Tryz.prog 10 [.e (.g [.q 0, .q 1, .q 2, ai (b.hall.change), .q 3, .q 4, .q 5, .q 6, ai (b.boys), .q 7]), .e (.g [ai (px), ai (py), ai (pz), ai (m), ai (n), ai (t1), ai (t2), ai (t3), ai (t4)])] [(0, PL ETm (b.hall.machs)), (1, PL EBd (b.hall.buns)), (2, PL EP.int (b.hall.trains)), (3, PL EP.int (b.hall.bores)), (4, PL (EP.sl EP.int) (b.hall.eds)), (5, PL EPl (b.set)), (6, PL EP.int (b.walk)), (7, PL ETa (b.tals)), (8, (Pred.tab 1 tz64))] (.b (true)) [] := by
  refine Sig.intro Tryz.func10 rfl 9 [(0, .e (.g [.q 0, .q 1, .q 2, ai (b.hall.change), .q 3, .q 4, .q 5, .q 6, ai (b.boys), .q 7])), (1, .e (.g [ai (px), ai (py), ai (pz), ai (m), ai (n), ai (t1), ai (t2), ai (t3), ai (t4)]))] rfl w10 rfl rfl fun I w => ?_
  refine WP.seq (WP.region ?_)
  refine WPl.l 9 10 rfl rfl rfl (o_boxg rfl) ?_
  refine WPl.l 10 11 rfl rfl rfl (o_boxg rfl) ?_
  refine WPl.v rfl (o_assign rfl) ?_
  refine WPl.nil (EX.then (WP.seq (WP.seq (WP.region ?_))))
  refine WPl.v rfl (o_ldpa G33 rfl rfl rfl) ?_
  refine WPl.cs 11 rfl rfl rfl rfl (o_sig 11 (ren [(0, 0), (1, 1), (2, 2), (3, 3), (4, 4), (5, 5), (6, 6), (7, 7)]) (c24 b) e24 rfl rfl rfl w24 ⟨(lx rfl), (lx rfl), (lx rfl), (lx rfl), (lx rfl), (lx rfl), (lx rfl), (lx rfl), trivial⟩ r24) ?_
  refine WPl.v rfl (o_not rfl) ?_
  refine WPl.nil (EX.then ?_)
  refine WP.cond rfl (fun hc1 => ?_) (fun hc1 => ?_)
  · try simp only [cnd] at hc1
    refine WP.seq (WP.region ?_)
    refine WPl.cs 11 rfl rfl rfl rfl (o_sig 11 (ren [(0, 8)]) c19 e19 rfl rfl rfl w19 ⟨(lx rfl), trivial⟩ r19) ?_
    refine WPl.v rfl (o_assign rfl) ?_
    refine WPl.nil (EX.then (WP.ret (EX.ret_then ?_)))
    exact EX.fin id (.inl rfl) rfl (.tmp rfl .nil) rfl r10 trivial (by simp) (by simp)
  · try simp only [cnd] at hc1
    have hc : b.chk = true := ready_chk hc1
    have hm : b.Small := ready_small hc1
    have hB := bookB hc
    have ht8 := hB.t
    have hm6 := hm.s
    have hcn := countB_eq hc
    have hch := countB_hi b
    have hw := hB.w
    have hbo := hB.h.o
    refine WP.skip (EX.then (WP.seq (WP.region ?_)))
    refine WPl.v rfl (o_ldpa G33 rfl rfl rfl) ?_
    refine WPl.cs 11 rfl rfl rfl rfl (o_sig 11 (ren [(0, 0), (1, 1), (2, 2), (3, 3), (4, 4), (5, 5), (6, 6), (7, 7), (8, 8)]) (c52 b hm) e52 rfl rfl rfl w52 ⟨(lx rfl), (lx rfl), (lx rfl), (lx rfl), (lx rfl), (lx rfl), (lx rfl), (lx rfl), (lx rfl), trivial⟩ r52) ?_
    refine WPl.v rfl (o_assign rfl) ?_
    refine WPl.nil (EX.then (WP.seq (WP.seq (WP.region ?_))))
    refine WPl.v rfl (o_move rfl) ?_
    refine WPl.v rfl (o_lss rfl rfl) ?_
    refine WPl.imp (Imp.bitF 23 (b' := false) rfl (decide_eq_false (by omega))) ?_
    refine WPl.nil (EX.then ?_)
    refine WP.cond rfl (fun h => by cases h) (fun _ => ?_)
    refine WP.skip (EX.then (WP.seq (WP.region ?_)))
    refine WPl.v rfl (o_fldp F79_0 rfl) ?_
    refine WPl.v rfl (o_ldpg G77 rfl rfl rfl) ?_
    refine WPl.l 11 12 rfl rfl rfl (o_alloc Z77) ?_
    refine WPl.s1 (o_stag G77 rfl rfl rfl ⟨rfl, rfl, rfl, trivial⟩ rfl rfl) ?_
    refine WPl.nil (EX.then (WP.seq (WP.region ?_)))
    refine WPl.v rfl (o_fldp F77_2 rfl) ?_
    refine WPl.s1 (o_sta S3 rfl rfl rfl rfl rfl) ?_
    refine WPl.nil (EX.then (WP.seq (WP.seq (WP.region ?_))))
    refine WPl.v rfl (o_ldpa G77 rfl rfl rfl) ?_
    refine WPl.x 12 13 rfl rfl rfl (OpG.settle0 (o_bsl (E := EPl) (l := [(⟨px, py, 1⟩ : Plate)]) R30 rfl rfl (.cons (⟨rfl, rfl, rfl, trivial⟩) rfl (eok_str ⟨rfl, rfl, rfl, trivial⟩) (.nil)) rfl rfl)) ?_
    refine WPl.cs 13 rfl rfl rfl rfl (o_sig 13 (ren [(0, 12)]) (c32 [(⟨px, py, 1⟩ : Plate)] (by simp)) e32 rfl rfl rfl w32 ⟨(lx rfl), trivial⟩ r32) ?_
    refine WPl.nil (EX.then ?_)
    refine WP.cond rfl (fun hc3 => ?_) (fun hc3 => ?_)
    · try simp only [cnd] at hc3
      have hPS := setPls hB.p (show b.set.length ≤ 1000 by omega)
      have hP1 := setPls hc3 (by simp)
      have hl1 := countsR_len b.set
      have hl2 := countsR_len [(⟨px, py, 1⟩ : Plate)]
      refine WP.seq (WP.region ?_)
      refine WPl.v rfl (o_ldpa G33 rfl rfl rfl) ?_
      refine WPl.cs 21 rfl rfl rfl rfl (o_sig 13 (ren [(0, 0), (1, 1), (2, 2), (3, 3), (4, 4), (5, 5), (6, 6), (7, 7)]) (c20 b hm) e20 rfl rfl rfl w20 ⟨(lx rfl), (lx rfl), (lx rfl), (lx rfl), (lx rfl), (lx rfl), (lx rfl), (lx rfl), trivial⟩ r20) ?_
      refine WPl.l 21 22 rfl rfl rfl (o_alloc Z33) ?_
      refine WPl.s1 (o_stag G33 rfl rfl rfl ⟨(.inl ⟨_, (lx rfl), PL.one⟩), (.inl ⟨_, (lx rfl), PL.one⟩), (.inl ⟨_, (lx rfl), PL.one⟩), rfl, (.inl ⟨_, (lx rfl), PL.one⟩), (.inl ⟨_, (lx rfl), PL.one⟩), (.inl ⟨_, (lx rfl), PL.one⟩), (.inl ⟨_, (lx rfl), PL.one⟩), rfl, (.inl ⟨_, (lx rfl), PL.one⟩), trivial⟩ rfl rfl) ?_
      refine WPl.nil (EX.then (WP.seq ?_))
      refine WP.draw (nf := 25) [⟨[35, 36], [23], [], [], []⟩, ⟨[35, 36], [23], [], [], [0]⟩, ⟨[35, 36], [23], [22], [22, 22], [0, 1]⟩, ⟨[32, 33, 34], [22], [], [], []⟩, ⟨[32, 33, 34], [22], [23], [23], [3]⟩, ⟨[], [], [24], [24], [0, 1, 2, 3, 4]⟩, ⟨[], [], [], [], [0, 1, 2, 3, 4, 5]⟩, ⟨[], [], [], [], [0, 1, 2, 3, 4, 5, 6]⟩] (by kernel_rfl) (by kernel_rfl) ?_
      refine DRQ.v rfl rfl rfl (o_fldp F33_1 rfl) ?_
      refine DRQ.v rfl rfl rfl (o_ldp S30 rfl rfl rfl) ?_
      refine DRQ.cL rfl rfl rfl rfl (o_sigo 22 (ren [(0, 5)]) (c36O b.set hPS) e36 rfl rfl SvsOK.rf w36O ⟨(lx rfl), trivial⟩ r36O rfl rfl) ?_
      refine DRQ.v rfl rfl rfl (o_ldpa G77 rfl rfl rfl) ?_
      refine DRQ.x 23 rfl rfl rfl rfl (OpG.settle0 (o_bsl (E := EPl) (l := [(⟨px, py, 1⟩ : Plate)]) R30 rfl rfl (.cons (⟨rfl, rfl, rfl, trivial⟩) rfl (eok_str ⟨rfl, rfl, rfl, trivial⟩) (.nil)) rfl rfl)) ?_
      refine DRQ.cs rfl rfl rfl rfl (o_sig 24 (ren [(0, 23)]) (c36 [(⟨px, py, 1⟩ : Plate)] hP1) e36 rfl rfl rfl w36 ⟨(lx rfl), trivial⟩ r36) ?_
      refine DRQ.v rfl rfl rfl (o_assign rfl) ?_
      refine DRQ.v rfl rfl rfl (o_assign rfl) ?_
      refine DRQ.nil' ?_
      refine EX.then (WP.seq (WP.seq (WP.region ?_)))
      refine WPl.v rfl (o_assign rfl) ?_
      refine WPl.nil (EX.then (WP.block ?_))
      refine WP.loop (Gh := Nat) (fun i => ⟨25, [(2, .e (.a (.p 9 (0)))), (3, .e (.a (.p 10 (0)))), (4, .b (false)), (5, .i (countB b)), (7, .e (.a (.p 21 (0)))), (8, .e (.a (.q 22))), (9, .e (.a (.q 24))), (10, .i ((i : Int)))], [(0, PL ETm (b.hall.machs)), (1, PL EBd (b.hall.buns)), (2, PL EP.int (b.hall.trains)), (3, PL EP.int (b.hall.bores)), (4, PL (EP.sl EP.int) (b.hall.eds)), (5, PL EPl (b.set)), (6, PL EP.int (b.walk)), (7, PL ETa (b.tals)), (8, (Pred.tab 1 tz64)), (13, PL ETm (b.hall.machs)), (14, PL EBd (b.hall.buns)), (15, PL EP.int (b.hall.trains)), (16, PL EP.int (b.hall.bores)), (17, PL (EP.sl EP.int) (b.hall.eds)), (18, PL EPl (b.set)), (19, PL EP.int (b.walk)), (20, PL ETa (b.tals)), (24, PL EP.int (countsR [(⟨px, py, 1⟩ : Plate)]))], [(9, .blk [.q 0, .q 1, .q 2, ai (b.hall.change), .q 3, .q 4, .q 5, .q 6, ai (b.boys), .q 7] 33), (10, .blk [ai (px), ai (py), ai (pz), ai (m), ai (n), ai (t1), ai (t2), ai (t3), ai (t4)] 79), (21, .blk [.q 13, .q 14, .q 15, ai (b.hall.change), .q 16, .q 17, .q 18, .q 19, ai (b.boys), .q 20] 33), (22, .own 3 EP.int.size (addTo (countsR b.set) (countsR [(⟨px, py, 1⟩ : Plate)]) i).length (RP EP.int (addTo (countsR b.set) (countsR [(⟨px, py, 1⟩ : Plate)]) i)))], [], []⟩) (fun i => i ≤ 12) (fun i => 12 - i) (0) id ?_ (LeR.of ⟨rfl, rfl, rfl, rfl, rfl, rfl, rfl, rfl, trivial⟩ ⟨(lx rfl), (lx rfl), (lx rfl), (lx rfl), (lx rfl), (lx rfl), (lx rfl), (lx rfl), (lx rfl), (lx rfl), (lx rfl), (lx rfl), (lx rfl), (lx rfl), (lx rfl), (lx rfl), (lx rfl), (lx rfl), trivial⟩ ⟨rfl, rfl, rfl, rfl, trivial⟩ rfl rfl rfl rfl rfl) ?_
      · first | trivial | omega | (constructor <;> omega) | simp
      intro i hφ
      have hi : i ≤ 12 := hφ
      have hal : (addTo (countsR b.set) (countsR [(⟨px, py, 1⟩ : Plate)]) i).length = 12 := by rw [addTo_len]; exact hl1
      refine WP.seq (WP.seq (WP.region ?_))
      refine WPl.v rfl (o_move rfl) ?_
      refine WPl.v rfl (o_move rfl) ?_
      refine WPl.v rfl (o_leno L24 rfl rfl) ?_
      refine WPl.v rfl (o_lss rfl rfl) ?_
      refine WPl.nil (EX.then ?_)
      refine WP.cond rfl (fun hc4 => ?_) (fun hc4 => ?_)
      · try simp only [cnd] at hc4
        have hab : nth (addTo (countsR b.set) (countsR [(⟨px, py, 1⟩ : Plate)]) i) (i : Int) = nth (countsR b.set) (i : Int) := by rw [addTo_nth _ _ i i (by omega), if_neg (by omega)]
        have hcb : 0 ≤ nth (countsR b.set) (i : Int) ∧ nth (countsR b.set) (i : Int) ≤ 1000000 := cntTo_bnd hPS (i := b.set.length) (Nat.le_refl _) (by omega) (by omega)
        have hcb2 : 0 ≤ nth (countsR [(⟨px, py, 1⟩ : Plate)]) (i : Int) ∧ nth (countsR [(⟨px, py, 1⟩ : Plate)]) (i : Int) ≤ 1000000 := cntTo_bnd hP1 (i := 1) (Nat.le_refl _) (by omega) (by omega)
        refine WP.skip (EX.then (WP.seq (WP.block ?_)))
        refine WP.draw (nf := 26) [⟨[45, 48, 49, 50, 51], [25], [], [], []⟩, ⟨[44, 48, 49, 50, 51], [25], [], [], []⟩, ⟨[48, 49, 50, 51], [25], [], [], [0, 1]⟩, ⟨[48, 49, 50, 51], [25], [], [], [0, 1, 2]⟩, ⟨[44, 45, 46, 47, 49], [], [], [], []⟩, ⟨[44, 45, 46, 47, 48], [], [], [], []⟩, ⟨[44, 45, 46, 47], [], [25], [25], [4, 5]⟩, ⟨[44, 45, 46, 47], [], [], [], [4, 5, 6]⟩, ⟨[], [], [], [], [0, 1, 2, 3, 4, 5, 6, 7]⟩, ⟨[], [], [], [], [0, 1, 2, 3, 4, 5, 6, 7, 8]⟩, ⟨[], [], [], [22], [0, 1, 2, 3, 4, 5, 6, 7, 8, 9]⟩] (by kernel_rfl) (by kernel_rfl) ?_
        refine DRQ.v rfl rfl rfl (o_move rfl) ?_
        refine DRQ.v rfl rfl rfl (o_move rfl) ?_
        refine DRQ.v rfl rfl rfl (o_idxo L24 rfl rfl rfl (by first | omega | (simp; omega)) (by first | omega | (simp; omega))) ?_
        refine DRQ.v rfl rfl rfl (o_ldoi S3 rfl rfl rfl rfl (by first | omega | (simp; omega)) (by first | omega | (simp; omega))) ?_
        refine DRQ.v rfl rfl rfl (o_move rfl) ?_
        refine DRQ.v rfl rfl rfl (o_move rfl) ?_
        refine DRQ.x 25 rfl rfl rfl rfl (o_idx L24 rfl (lx rfl) rfl (by first | omega | (simp; omega)) (by first | omega | (simp; omega))) ?_
        refine DRQ.v rfl rfl rfl (o_ldq S3 rfl (lx rfl) intc) ?_
        refine DRQ.v rfl rfl rfl (o_add rfl rfl (by omega) (by omega)) ?_
        refine DRQ.v rfl rfl rfl (o_idxo L24 rfl rfl rfl (by first | omega | (simp; omega)) (by first | omega | (simp; omega))) ?_
        refine DRQ.s 22 rfl rfl rfl (o_steE2 Tryz.sizeOf3 rfl rfl rfl rfl eok_int rfl rfl rfl (by first | omega | (simp; omega)) (by first | omega | (simp; omega))) ?_
        refine DRQ.nil' ?_
        refine EX.blk (EX.then (WP.region ?_))
        refine WPl.v rfl (o_move rfl) ?_
        refine WPl.v rfl (o_add rfl rfl (by first | omega | (simp; omega)) (by first | omega | (simp; omega))) ?_
        refine WPl.v rfl (o_assign rfl) ?_
        refine WPl.nil ?_
        refine EX.again (i + 1) id (by first | omega | (constructor <;> omega)) (by omega) (LeR.of ⟨rfl, rfl, rfl, rfl, rfl, rfl, rfl, rfl, trivial⟩ ⟨(lx rfl), (lx rfl), (lx rfl), (lx rfl), (lx rfl), (lx rfl), (lx rfl), (lx rfl), (lx rfl), (lx rfl), (lx rfl), (lx rfl), (lx rfl), (lx rfl), (lx rfl), (lx rfl), (lx rfl), (lx rfl), trivial⟩ ⟨rfl, rfl, rfl, rfl, trivial⟩ rfl rfl rfl rfl rfl)
      · try simp only [cnd] at hc4
        have hie : i = 12 := by omega
        have hal : (addTo (countsR b.set) (countsR [(⟨px, py, 1⟩ : Plate)]) 12).length = 12 := by rw [addTo_len]; exact hl1
        refine WP.exit (EX.exit_then (EX.exit_then (EX.exit_blk (EX.then (WP.seq (WP.region ?_))))))
        refine WPl.v rfl (o_move rfl) ?_
        rw [show addTo (countsR b.set) (countsR [(⟨px, py, 1⟩ : Plate)]) i = addTo (countsR b.set) (countsR [(⟨px, py, 1⟩ : Plate)]) 12 from by rw [hie]]
        refine WPl.cs 26 rfl rfl rfl rfl (o_sigbc 25 (ren [(0, 22)]) (c57F (addTo (countsR b.set) (countsR [(⟨px, py, 1⟩ : Plate)]) 12) (by omega)) e57 rfl rfl SvsOK.rf w57F ⟨.own rfl rfl, trivial⟩ r57F) ?_
        refine WPl.v rfl (o_fldp F33_1 rfl) ?_
        refine WPl.s1 (o_sta S30 rfl rfl rfl (.inl ⟨_, (lx rfl), PL.one⟩) rfl) ?_
        refine WPl.nil (EX.then (WP.seq (WP.region ?_)))
        refine WPl.v rfl (o_ldpa G33 rfl rfl rfl) ?_
        refine WPl.cs 26 rfl rfl rfl rfl (o_sig 26 (ren [(0, 13), (1, 14), (2, 15), (3, 16), (4, 17), (5, 25), (6, 19), (7, 20), (8, 8)]) (c52 (b.plus (addTo (countsR b.set) (countsR [(⟨px, py, 1⟩ : Plate)]) 12)) (plus_small hm (by omega))) e52 rfl rfl rfl w52 ⟨(lx rfl), (lx rfl), (lx rfl), (lx rfl), (lx rfl), (lx rfl), (lx rfl), (lx rfl), (lx rfl), trivial⟩ r52) ?_
        refine WPl.v rfl (o_assign rfl) ?_
        refine WPl.nil (EX.then (WP.seq (WP.region ?_)))
        refine WPl.v rfl (o_ldpa G33 rfl rfl rfl) ?_
        refine WPl.cs 26 rfl rfl rfl rfl (o_sig 26 (ren [(0, 13), (1, 14), (2, 15), (3, 16), (4, 17), (5, 25), (6, 19), (7, 20)]) (c24 (b.plus (addTo (countsR b.set) (countsR [(⟨px, py, 1⟩ : Plate)]) 12))) e24 rfl rfl rfl w24 ⟨(lx rfl), (lx rfl), (lx rfl), (lx rfl), (lx rfl), (lx rfl), (lx rfl), (lx rfl), trivial⟩ r24) ?_
        refine WPl.v rfl (o_move rfl) ?_
        refine WPl.bit 26 27 ((b.plus (addTo (countsR b.set) (countsR [(⟨px, py, 1⟩ : Plate)]) 12)).ready) rfl rfl ?_
        refine WPl.gv 26 rfl rfl (.plain rfl Iff.rfl rfl) (fun hb => o_move rfl) ?_
        refine WPl.gv 26 rfl rfl (.plain rfl Iff.rfl rfl) (fun hb => o_lss rfl rfl) ?_
        refine WPl.gv 26 rfl rfl (.plain rfl Iff.rfl rfl) (fun hb => o_move rfl) ?_
        refine WPl.bit 27 28 (((b.plus (addTo (countsR b.set) (countsR [(⟨px, py, 1⟩ : Plate)]) 12)).ready) && !(decide ((countB (b.plus (addTo (countsR b.set) (countsR [(⟨px, py, 1⟩ : Plate)]) 12))) < 0))) rfl rfl ?_
        refine WPl.gv 27 rfl rfl (.nest rfl rfl (by first | (simp; done) | simp only [Bool.and_eq_true, Bool.not_eq_true']) rfl) (fun hb => o_move rfl) ?_
        refine WPl.gv 27 rfl rfl (.nest rfl rfl (by first | (simp; done) | simp only [Bool.and_eq_true, Bool.not_eq_true']) rfl) (fun hb => o_move rfl) ?_
        refine WPl.gv 27 rfl rfl (.nest rfl rfl (by first | (simp; done) | simp only [Bool.and_eq_true, Bool.not_eq_true']) rfl) (fun hb => o_gtr rfl rfl) ?_
        refine WPl.gv 26 rfl rfl (.plain rfl Iff.rfl rfl) (fun hb => o_or rfl rfl rfl (by first | (simp; done) | exact fun h => by rw [h]; rfl | exact fun h => Bool.and_eq_true_iff.2 ⟨hb, by rw [h]; rfl⟩ | simp_all)) ?_
        refine WPl.v rfl (o_and rfl rfl rfl id) ?_
        refine WPl.nil (EX.then ?_)
        refine WP.cond rfl (fun hc5 => ?_) (fun hc5 => ?_)
        · try simp only [cnd] at hc5
          exfalso
          have law := plus_law hc hm6 hc3 (ready_chk hc5.1)
          omega
        · try simp only [cnd] at hc5
          refine WP.skip (EX.then (WP.seq (WP.seq ?_)))
          refine WP.imp (Imp.bit 28 29 (within m 0 ((b.hall.machs.length : Int) - 1)) rfl rfl) ?_
          refine WP.imp (Imp.bit 29 30 ((within m 0 ((b.hall.machs.length : Int) - 1)) && (decide (0 ≤ n))) rfl rfl) ?_
          refine WP.draw (nf := 31) [⟨[71, 72], [], [], [], []⟩, ⟨[70], [], [], [], []⟩, ⟨[70], [], [], [], [1]⟩, ⟨[], [], [], [], [0, 1, 2]⟩, ⟨[], [], [], [], [0, 1, 2, 3]⟩, ⟨[], [], [], [], [0, 1, 2, 3, 4]⟩, ⟨[], [], [], [], [0, 1, 2, 3, 4, 5]⟩, ⟨[], [], [], [], [0, 1, 2, 3, 4, 5, 6]⟩, ⟨[], [], [], [], [0, 1, 2, 3, 4, 5, 6, 7]⟩, ⟨[], [], [], [], [0, 1, 2, 3, 4, 5, 6, 7, 8]⟩, ⟨[82, 83, 84, 85, 86, 87], [30], [], [], [0, 1, 2, 3, 4, 5, 6, 7, 8, 9]⟩, ⟨[82, 83, 84, 85, 86, 87], [30], [], [], [0, 1, 2, 3, 4, 5, 6, 7, 8, 9, 10]⟩, ⟨[80, 81, 84, 85], [], [], [], [0, 1, 2, 3, 4, 5, 6, 7, 8, 9]⟩, ⟨[80, 81, 84, 85], [], [], [], [0, 1, 2, 3, 4, 5, 6, 7, 8, 9, 12]⟩, ⟨[80, 81, 82, 83], [], [], [], [0, 1, 2, 3, 4, 5, 6, 7, 8, 9]⟩, ⟨[80, 81, 82, 83], [], [], [], [0, 1, 2, 3, 4, 5, 6, 7, 8, 9, 14]⟩, ⟨[80, 81], [], [30], [30], [0, 1, 2, 3, 4, 5, 6, 7, 8, 9, 12, 13, 14, 15]⟩, ⟨[80, 81], [], [], [], [0, 1, 2, 3, 4, 5, 6, 7, 8, 9, 12, 13, 14, 15, 16]⟩, ⟨[], [], [], [], [0, 1, 2, 3, 4, 5, 6, 7, 8, 9, 10, 11, 12, 13, 14, 15, 16, 17]⟩, ⟨[], [], [], [], [0, 1, 2, 3, 4, 5, 6, 7, 8, 9, 10, 11, 12, 13, 14, 15, 16, 17, 18]⟩] (by kernel_rfl) (by kernel_rfl) ?_
          refine DRQ.v rfl rfl rfl (o_ldpa G33 rfl rfl rfl) ?_
          refine DRQ.v rfl rfl rfl (o_fldp F79_1 rfl) ?_
          refine DRQ.v rfl rfl rfl (o_ldp S3 rfl rfl rfl) ?_
          refine DRQ.cs rfl rfl rfl rfl (o_sig 30 (ren [(0, 0), (1, 1), (2, 2), (3, 3), (4, 4), (5, 5), (6, 6), (7, 7)]) (c58 b m (by have h := hm.h.m; omega)) e58 rfl rfl rfl w58 ⟨(lx rfl), (lx rfl), (lx rfl), (lx rfl), (lx rfl), (lx rfl), (lx rfl), (lx rfl), trivial⟩ r58) ?_
          refine DRQ.v rfl rfl rfl (o_move rfl) ?_
          refine DRQ.gv 28 rfl rfl (.plain rfl Iff.rfl rfl) rfl (fun hb => o_fldp F79_2 rfl) ?_
          refine DRQ.gv 28 rfl rfl (.plain rfl Iff.rfl rfl) rfl (fun hb => o_ldp S3 rfl rfl rfl) ?_
          refine DRQ.gv 28 rfl rfl (.plain rfl Iff.rfl rfl) rfl (fun hb => o_geq rfl rfl) ?_
          refine DRQ.v rfl rfl rfl (o_and rfl rfl rfl id) ?_
          refine DRQ.v rfl rfl rfl (o_move rfl) ?_
          refine DRQ.gv 29 rfl rfl (.plain rfl Iff.rfl rfl) rfl (fun hb => o_fldp F79_2 rfl) ?_
          refine DRQ.gv 29 rfl rfl (.plain rfl Iff.rfl rfl) rfl (fun hb => o_ldp S3 rfl rfl rfl) ?_
          refine DRQ.gv 29 rfl rfl (.plain rfl Iff.rfl rfl) rfl (fun hb => o_fldp F33_2 rfl) ?_
          refine DRQ.gv 29 rfl rfl (.plain rfl Iff.rfl rfl) rfl (fun hb => o_ldp S24 rfl rfl rfl) ?_
          refine DRQ.gv 29 rfl rfl (.plain rfl Iff.rfl rfl) rfl (fun hb => o_fldp F79_1 rfl) ?_
          refine DRQ.gv 29 rfl rfl (.plain rfl Iff.rfl rfl) rfl (fun hb => o_ldp S3 rfl rfl rfl) ?_
          refine DRQ.gx 29 30 rfl rfl (.plain rfl Iff.rfl rfl) rfl rfl (fun hb => o_idx L24 rfl (lx rfl) rfl (by simp [within] at hb; omega) (by simp [within] at hb; omega)) ?_
          refine DRQ.gv 29 rfl rfl (.plain rfl Iff.rfl rfl) rfl (fun hb => o_ldq S3 rfl (lxi hb rfl) intc) ?_
          refine DRQ.gv 29 rfl rfl (.plain rfl Iff.rfl rfl) rfl (fun hb => o_leq rfl rfl) ?_
          refine DRQ.v rfl rfl rfl (o_and rfl rfl rfl id) ?_
          refine DRQ.nil' ?_
          refine EX.then ?_
          refine WP.cond rfl (fun hc6 => ?_) (fun hc6 => ?_)
          · try simp only [cnd] at hc6
            have hmn : (0 ≤ m ∧ m < b.hall.machs.length) ∧ 0 ≤ n ∧ n ≤ nth b.walk m := by
              have h1 := hc6.1.1
              simp only [within, Bool.and_eq_true, decide_eq_true_eq] at h1
              exact ⟨by omega, hc6.1.2, hc6.2⟩
            have hnl := near_law hc hm6 hmn.1 hmn.2
            have hv := hB.v m.toNat (by omega)
            rw [show ((m.toNat : Nat) : Int) = m by omega] at hv
            have hnw : nth ([] ++ b.walk) m = nth b.walk m := rfl
            refine WP.seq (WP.region ?_)
            refine WPl.v rfl (o_ldpa G33 rfl rfl rfl) ?_
            refine WPl.cL 39 rfl rfl rfl rfl rfl (o_sigo 31 (ren [(0, 0), (1, 1), (2, 2), (3, 3), (4, 4), (5, 5), (6, 6), (7, 7)]) (c20O b hm) e20 rfl rfl SvsOK.rf w20O ⟨(lx rfl), (lx rfl), (lx rfl), (lx rfl), (lx rfl), (lx rfl), (lx rfl), (lx rfl), trivial⟩ r20O rfl rfl) ?_
            refine WPl.l 39 40 rfl rfl rfl (o_alloc Z33) ?_
            refine WPl.s1 (o_stag G33 rfl rfl rfl ⟨(.inl ⟨_, (lx rfl), PL.one⟩), (.inl ⟨_, (lx rfl), PL.one⟩), (.inl ⟨_, (lx rfl), PL.one⟩), rfl, (.inl ⟨_, (lx rfl), PL.one⟩), (.inl ⟨_, (lx rfl), PL.one⟩), (.inl ⟨_, (lx rfl), PL.one⟩), (.inr ⟨_, _, _, _, rfl⟩), rfl, (.inr ⟨_, _, _, _, rfl⟩), trivial⟩ rfl rfl) ?_
            refine WPl.nil (EX.then (WP.seq ?_))
            refine WP.draw (nf := 40) [⟨[94, 95, 98, 99], [], [], [], []⟩, ⟨[94, 95, 98, 99], [], [], [], [0]⟩, ⟨[92, 93, 98, 99], [], [], [], []⟩, ⟨[92, 93, 98, 99], [], [], [], [2]⟩, ⟨[98, 99], [], [], [], [0, 1, 2, 3]⟩, ⟨[98, 99], [], [], [], [0, 1, 2, 3, 4]⟩, ⟨[92, 93, 94, 95, 96, 97], [], [], [], []⟩, ⟨[92, 93, 94, 95, 96, 97], [], [], [], [6]⟩, ⟨[], [], [], [], [0, 1, 2, 3, 4, 5, 6, 7]⟩, ⟨[], [], [], [], [0, 1, 2, 3, 4, 5, 6, 7, 8]⟩, ⟨[], [], [], [37], [0, 1, 2, 3, 4, 5, 6, 7, 8, 9]⟩] (by kernel_rfl) (by kernel_rfl) ?_
            refine DRQ.v rfl rfl rfl (o_fldp F33_2 rfl) ?_
            refine DRQ.v rfl rfl rfl (o_ldp S24 rfl rfl rfl) ?_
            refine DRQ.v rfl rfl rfl (o_fldp F79_1 rfl) ?_
            refine DRQ.v rfl rfl rfl (o_ldp S3 rfl rfl rfl) ?_
            refine DRQ.v rfl rfl rfl (o_idxo L24 rfl rfl rfl (by first | omega | (simp; omega)) (by first | omega | (simp; omega))) ?_
            refine DRQ.v rfl rfl rfl (o_ldoi S3 rfl rfl rfl rfl (by first | omega | (simp; omega)) (by first | omega | (simp; omega))) ?_
            refine DRQ.v rfl rfl rfl (o_fldp F79_2 rfl) ?_
            refine DRQ.v rfl rfl rfl (o_ldp S3 rfl rfl rfl) ?_
            refine DRQ.v rfl rfl rfl (o_sub rfl rfl (by omega) (by omega)) ?_
            refine DRQ.v rfl rfl rfl (o_idxo L24 rfl rfl rfl (by first | omega | (simp; omega)) (by first | omega | (simp; omega))) ?_
            refine DRQ.s 37 rfl rfl rfl (o_steE2 Tryz.sizeOf3 rfl rfl rfl rfl eok_int rfl rfl rfl (by first | omega | (simp; omega)) (by first | omega | (simp; omega))) ?_
            refine DRQ.nil' ?_
            refine EX.then (WP.seq (WP.region ?_))
            refine WPl.v rfl (o_ldpa G33 rfl rfl rfl) ?_
            refine WPl.cs 40 rfl rfl rfl rfl (o_sigbc 40 (ren [(0, 31), (1, 32), (2, 33), (3, 34), (4, 35), (5, 36), (6, 37), (7, 38), (8, 8)]) (Sig.free (c52 (b.near m n) (near_small hm m n))) e52 rfl rfl SvsOK.rf w52 ⟨.x (lx rfl), .x (lx rfl), .x (lx rfl), .x (lx rfl), .x (lx rfl), .x (lx rfl), .own rfl rfl, .own rfl rfl, .x (lx rfl), trivial⟩ r52) ?_
            refine WPl.v rfl (o_assign rfl) ?_
            refine WPl.nil (EX.then (WP.seq (WP.region ?_)))
            refine WPl.v rfl (o_move rfl) ?_
            refine WPl.v rfl (o_lss rfl rfl) ?_
            refine WPl.imp (Imp.bitF 105 (b' := false) rfl (decide_eq_false (by omega))) ?_
            refine WPl.v rfl (o_move rfl) ?_
            refine WPl.on rfl ⟨_, _, rfl, rfl, rfl⟩ (o_move rfl) ?_
            refine WPl.on rfl ⟨_, _, rfl, rfl, rfl⟩ (o_move rfl) ?_
            refine WPl.on rfl ⟨_, _, rfl, rfl, rfl⟩ (o_gtr rfl rfl) ?_
            refine WPl.imp (Imp.bitF 109 (b' := false) rfl (decide_eq_false (by omega))) ?_
            refine WPl.v rfl (o_pickF rfl rfl) ?_
            refine WPl.nil (EX.then ?_)
            refine WP.cond rfl (fun h => by cases h) (fun _ => ?_)
            refine WP.skip (EX.then (WP.seq (WP.region ?_)))
            refine WPl.v rfl (o_ldpa G33 rfl rfl rfl) ?_
            refine WPl.cL 48 rfl rfl rfl rfl rfl (o_sigo 40 (ren [(0, 0), (1, 1), (2, 2), (3, 3), (4, 4), (5, 5), (6, 6), (7, 7)]) (c20O b hm) e20 rfl rfl SvsOK.rf w20O ⟨(lx rfl), (lx rfl), (lx rfl), (lx rfl), (lx rfl), (lx rfl), (lx rfl), (lx rfl), trivial⟩ r20O rfl rfl) ?_
            refine WPl.l 48 49 rfl rfl rfl (o_alloc Z33) ?_
            refine WPl.s1 (o_stag G33 rfl rfl rfl ⟨(.inl ⟨_, (lx rfl), PL.one⟩), (.inl ⟨_, (lx rfl), PL.one⟩), (.inl ⟨_, (lx rfl), PL.one⟩), rfl, (.inl ⟨_, (lx rfl), PL.one⟩), (.inl ⟨_, (lx rfl), PL.one⟩), (.inl ⟨_, (lx rfl), PL.one⟩), (.inr ⟨_, _, _, _, rfl⟩), rfl, (.inr ⟨_, _, _, _, rfl⟩), trivial⟩ rfl rfl) ?_
            refine WPl.nil (EX.then (WP.seq (WP.region ?_)))
            refine WPl.v rfl (o_fldp F33_4 rfl) ?_
            refine WPl.v rfl (o_ldp S31 rfl rfl rfl) ?_
            refine WPl.v rfl (o_fldp F79_3 rfl) ?_
            refine WPl.v rfl (o_ldpg G58 rfl rfl rfl) ?_
            refine WPl.l 49 50 rfl rfl rfl (o_bsl (E := ETa) (l := [(⟨t1, t2, t3, t4⟩ : Tal)]) R31 rfl rfl (.cons (⟨rfl, rfl, rfl, rfl, trivial⟩) rfl (eok_str ⟨rfl, rfl, rfl, rfl, trivial⟩) (.nil)) rfl rfl) ?_
            refine WPl.u1 (k := 50) (m := 51) rfl rfl rfl (o_appo R31 EP.str_one rfl rfl rfl rfl (by simp; omega) (by simp; omega)) ?_
            refine WPl.v rfl (o_fldp F33_4 rfl) ?_
            refine WPl.s1 (o_sta S31 rfl rfl rfl (.inr ⟨_, _, _, _, rfl⟩) rfl) ?_
            refine WPl.nil (EX.then (WP.seq (WP.seq (WP.region ?_))))
            refine WPl.v rfl (o_ldpa G33 rfl rfl rfl) ?_
            refine WPl.cs 51 rfl rfl rfl rfl (o_sigbc 51 (ren [(0, 40), (1, 41), (2, 42), (3, 43), (4, 44), (5, 45), (6, 46), (7, 50)]) (Sig.free (c24 (b.more (⟨t1, t2, t3, t4⟩ : Tal)))) e24 rfl rfl SvsOK.rf w24 ⟨.x (lx rfl), .x (lx rfl), .x (lx rfl), .x (lx rfl), .x (lx rfl), .x (lx rfl), .own rfl rfl, .own rfl rfl, trivial⟩ r24) ?_
            refine WPl.v rfl (o_not rfl) ?_
            refine WPl.nil (EX.then ?_)
            refine WP.cond rfl (fun hc8 => ?_) (fun hc8 => ?_)
            · try simp only [cnd] at hc8
              refine WP.seq (WP.region ?_)
              refine WPl.cs 51 rfl rfl rfl rfl (o_sig 51 (ren [(0, 8)]) c19 e19 rfl rfl rfl w19 ⟨(lx rfl), trivial⟩ r19) ?_
              refine WPl.v rfl (o_assign rfl) ?_
              refine WPl.nil (EX.then (WP.ret (EX.ret_then ?_)))
              exact EX.fin id (.inl rfl) rfl (.tmp rfl .nil) rfl r10 trivial (by simp) (by simp)
            · try simp only [cnd] at hc8
              have hml := more_law hc (by omega) (ready_chk hc8)
              refine WP.skip (EX.then (WP.seq (WP.region ?_)))
              refine WPl.v rfl (o_ldpa G33 rfl rfl rfl) ?_
              refine WPl.cs 51 rfl rfl rfl rfl (o_sigbc 51 (ren [(0, 40), (1, 41), (2, 42), (3, 43), (4, 44), (5, 45), (6, 46), (7, 50), (8, 8)]) (Sig.free (c52 (b.more (⟨t1, t2, t3, t4⟩ : Tal)) (more_small hm ht8 _))) e52 rfl rfl SvsOK.rf w52 ⟨.x (lx rfl), .x (lx rfl), .x (lx rfl), .x (lx rfl), .x (lx rfl), .x (lx rfl), .own rfl rfl, .own rfl rfl, .x (lx rfl), trivial⟩ r52) ?_
              refine WPl.v rfl (o_assign rfl) ?_
              refine WPl.nil (EX.then (WP.seq (WP.region ?_)))
              refine WPl.v rfl (o_move rfl) ?_
              refine WPl.v rfl (o_move rfl) ?_
              refine WPl.v rfl (o_eql rfl rfl) ?_
              refine WPl.v rfl (o_move rfl) ?_
              refine WPl.bit 51 52 (!(decide ((countB (b.more (⟨t1, t2, t3, t4⟩ : Tal))) = (countB b)))) rfl rfl ?_
              refine WPl.gv 51 rfl rfl (.plain rfl (by first | (simp; done) | simp only [Bool.not_eq_true']) rfl) (fun hb => o_move rfl) ?_
              refine WPl.gv 51 rfl rfl (.plain rfl (by first | (simp; done) | simp only [Bool.not_eq_true']) rfl) (fun hb => o_move rfl) ?_
              refine WPl.gv 51 rfl rfl (.plain rfl (by first | (simp; done) | simp only [Bool.not_eq_true']) rfl) (fun hb => o_add rfl rfl (by omega) (by omega)) ?_
              refine WPl.gv 51 rfl rfl (.plain rfl (by first | (simp; done) | simp only [Bool.not_eq_true']) rfl) (fun hb => o_eql rfl rfl) ?_
              refine WPl.v rfl (o_or rfl rfl rfl (by first | (simp; done) | exact fun h => by rw [h]; rfl | exact fun h => Bool.and_eq_true_iff.2 ⟨hb, by rw [h]; rfl⟩ | simp_all)) ?_
              refine WPl.imp (Imp.bitF 134 (b' := true) rfl (by rcases hml with h | h <;> simp [h])) ?_
              refine WPl.v rfl (o_move rfl) ?_
              refine WPl.ung ⟨_, _, rfl, rfl, rfl⟩ ?_
              refine WPl.cs 52 rfl rfl rfl rfl (o_sig 52 (ren [(0, 8)]) c19 e19 rfl rfl rfl w19 ⟨(lx rfl), trivial⟩ r19) ?_
              refine WPl.v rfl (o_pickT rfl rfl) ?_
              refine WPl.v rfl (o_assign rfl) ?_
              refine WPl.nil (EX.then (WP.ret ?_))
              exact EX.fin id (.inl rfl) rfl (.tmp rfl .nil) rfl r10 trivial (by simp) (by simp)
          · try simp only [cnd] at hc6
            refine WP.skip (EX.then (WP.seq (WP.region ?_)))
            refine WPl.v rfl (o_ldpa G33 rfl rfl rfl) ?_
            refine WPl.cL 39 rfl rfl rfl rfl rfl (o_sigo 31 (ren [(0, 0), (1, 1), (2, 2), (3, 3), (4, 4), (5, 5), (6, 6), (7, 7)]) (c20O b hm) e20 rfl rfl SvsOK.rf w20O ⟨(lx rfl), (lx rfl), (lx rfl), (lx rfl), (lx rfl), (lx rfl), (lx rfl), (lx rfl), trivial⟩ r20O rfl rfl) ?_
            refine WPl.l 39 40 rfl rfl rfl (o_alloc Z33) ?_
            refine WPl.s1 (o_stag G33 rfl rfl rfl ⟨(.inl ⟨_, (lx rfl), PL.one⟩), (.inl ⟨_, (lx rfl), PL.one⟩), (.inl ⟨_, (lx rfl), PL.one⟩), rfl, (.inl ⟨_, (lx rfl), PL.one⟩), (.inl ⟨_, (lx rfl), PL.one⟩), (.inl ⟨_, (lx rfl), PL.one⟩), (.inr ⟨_, _, _, _, rfl⟩), rfl, (.inr ⟨_, _, _, _, rfl⟩), trivial⟩ rfl rfl) ?_
            refine WPl.nil (EX.then (WP.seq (WP.region ?_)))
            refine WPl.v rfl (o_fldp F33_4 rfl) ?_
            refine WPl.v rfl (o_ldp S31 rfl rfl rfl) ?_
            refine WPl.v rfl (o_fldp F79_3 rfl) ?_
            refine WPl.v rfl (o_ldpg G58 rfl rfl rfl) ?_
            refine WPl.l 40 41 rfl rfl rfl (o_bsl (E := ETa) (l := [(⟨t1, t2, t3, t4⟩ : Tal)]) R31 rfl rfl (.cons (⟨rfl, rfl, rfl, rfl, trivial⟩) rfl (eok_str ⟨rfl, rfl, rfl, rfl, trivial⟩) (.nil)) rfl rfl) ?_
            refine WPl.u1 (k := 41) (m := 42) rfl rfl rfl (o_appo R31 EP.str_one rfl rfl rfl rfl (by simp; omega) (by simp; omega)) ?_
            refine WPl.v rfl (o_fldp F33_4 rfl) ?_
            refine WPl.s1 (o_sta S31 rfl rfl rfl (.inr ⟨_, _, _, _, rfl⟩) rfl) ?_
            refine WPl.nil (EX.then (WP.seq (WP.seq (WP.region ?_))))
            refine WPl.v rfl (o_ldpa G33 rfl rfl rfl) ?_
            refine WPl.cs 42 rfl rfl rfl rfl (o_sigbc 42 (ren [(0, 31), (1, 32), (2, 33), (3, 34), (4, 35), (5, 36), (6, 37), (7, 41)]) (Sig.free (c24 (b.more (⟨t1, t2, t3, t4⟩ : Tal)))) e24 rfl rfl SvsOK.rf w24 ⟨.x (lx rfl), .x (lx rfl), .x (lx rfl), .x (lx rfl), .x (lx rfl), .x (lx rfl), .own rfl rfl, .own rfl rfl, trivial⟩ r24) ?_
            refine WPl.v rfl (o_not rfl) ?_
            refine WPl.nil (EX.then ?_)
            refine WP.cond rfl (fun hc9 => ?_) (fun hc9 => ?_)
            · try simp only [cnd] at hc9
              refine WP.seq (WP.region ?_)
              refine WPl.cs 42 rfl rfl rfl rfl (o_sig 42 (ren [(0, 8)]) c19 e19 rfl rfl rfl w19 ⟨(lx rfl), trivial⟩ r19) ?_
              refine WPl.v rfl (o_assign rfl) ?_
              refine WPl.nil (EX.then (WP.ret (EX.ret_then ?_)))
              exact EX.fin id (.inl rfl) rfl (.tmp rfl .nil) rfl r10 trivial (by simp) (by simp)
            · try simp only [cnd] at hc9
              have hml := more_law hc (by omega) (ready_chk hc9)
              refine WP.skip (EX.then (WP.seq (WP.region ?_)))
              refine WPl.v rfl (o_ldpa G33 rfl rfl rfl) ?_
              refine WPl.cs 42 rfl rfl rfl rfl (o_sigbc 42 (ren [(0, 31), (1, 32), (2, 33), (3, 34), (4, 35), (5, 36), (6, 37), (7, 41), (8, 8)]) (Sig.free (c52 (b.more (⟨t1, t2, t3, t4⟩ : Tal)) (more_small hm ht8 _))) e52 rfl rfl SvsOK.rf w52 ⟨.x (lx rfl), .x (lx rfl), .x (lx rfl), .x (lx rfl), .x (lx rfl), .x (lx rfl), .own rfl rfl, .own rfl rfl, .x (lx rfl), trivial⟩ r52) ?_
              refine WPl.v rfl (o_assign rfl) ?_
              refine WPl.nil (EX.then (WP.seq (WP.region ?_)))
              refine WPl.v rfl (o_move rfl) ?_
              refine WPl.v rfl (o_move rfl) ?_
              refine WPl.v rfl (o_eql rfl rfl) ?_
              refine WPl.v rfl (o_move rfl) ?_
              refine WPl.bit 42 43 (!(decide ((countB (b.more (⟨t1, t2, t3, t4⟩ : Tal))) = (countB b)))) rfl rfl ?_
              refine WPl.gv 42 rfl rfl (.plain rfl (by first | (simp; done) | simp only [Bool.not_eq_true']) rfl) (fun hb => o_move rfl) ?_
              refine WPl.gv 42 rfl rfl (.plain rfl (by first | (simp; done) | simp only [Bool.not_eq_true']) rfl) (fun hb => o_move rfl) ?_
              refine WPl.gv 42 rfl rfl (.plain rfl (by first | (simp; done) | simp only [Bool.not_eq_true']) rfl) (fun hb => o_add rfl rfl (by omega) (by omega)) ?_
              refine WPl.gv 42 rfl rfl (.plain rfl (by first | (simp; done) | simp only [Bool.not_eq_true']) rfl) (fun hb => o_eql rfl rfl) ?_
              refine WPl.v rfl (o_or rfl rfl rfl (by first | (simp; done) | exact fun h => by rw [h]; rfl | exact fun h => Bool.and_eq_true_iff.2 ⟨hb, by rw [h]; rfl⟩ | simp_all)) ?_
              refine WPl.imp (Imp.bitF 134 (b' := true) rfl (by rcases hml with h | h <;> simp [h])) ?_
              refine WPl.v rfl (o_move rfl) ?_
              refine WPl.ung ⟨_, _, rfl, rfl, rfl⟩ ?_
              refine WPl.cs 43 rfl rfl rfl rfl (o_sig 43 (ren [(0, 8)]) c19 e19 rfl rfl rfl w19 ⟨(lx rfl), trivial⟩ r19) ?_
              refine WPl.v rfl (o_pickT rfl rfl) ?_
              refine WPl.v rfl (o_assign rfl) ?_
              refine WPl.nil (EX.then (WP.ret ?_))
              exact EX.fin id (.inl rfl) rfl (.tmp rfl .nil) rfl r10 trivial (by simp) (by simp)
    · try simp only [cnd] at hc3
      refine WP.skip (EX.then (WP.seq (WP.seq ?_)))
      refine WP.imp (Imp.bit 13 14 (within m 0 ((b.hall.machs.length : Int) - 1)) rfl rfl) ?_
      refine WP.imp (Imp.bit 14 15 ((within m 0 ((b.hall.machs.length : Int) - 1)) && (decide (0 ≤ n))) rfl rfl) ?_
      refine WP.draw (nf := 16) [⟨[71, 72], [], [], [], []⟩, ⟨[70], [], [], [], []⟩, ⟨[70], [], [], [], [1]⟩, ⟨[], [], [], [], [0, 1, 2]⟩, ⟨[], [], [], [], [0, 1, 2, 3]⟩, ⟨[], [], [], [], [0, 1, 2, 3, 4]⟩, ⟨[], [], [], [], [0, 1, 2, 3, 4, 5]⟩, ⟨[], [], [], [], [0, 1, 2, 3, 4, 5, 6]⟩, ⟨[], [], [], [], [0, 1, 2, 3, 4, 5, 6, 7]⟩, ⟨[], [], [], [], [0, 1, 2, 3, 4, 5, 6, 7, 8]⟩, ⟨[82, 83, 84, 85, 86, 87], [15], [], [], [0, 1, 2, 3, 4, 5, 6, 7, 8, 9]⟩, ⟨[82, 83, 84, 85, 86, 87], [15], [], [], [0, 1, 2, 3, 4, 5, 6, 7, 8, 9, 10]⟩, ⟨[80, 81, 84, 85], [], [], [], [0, 1, 2, 3, 4, 5, 6, 7, 8, 9]⟩, ⟨[80, 81, 84, 85], [], [], [], [0, 1, 2, 3, 4, 5, 6, 7, 8, 9, 12]⟩, ⟨[80, 81, 82, 83], [], [], [], [0, 1, 2, 3, 4, 5, 6, 7, 8, 9]⟩, ⟨[80, 81, 82, 83], [], [], [], [0, 1, 2, 3, 4, 5, 6, 7, 8, 9, 14]⟩, ⟨[80, 81], [], [15], [15], [0, 1, 2, 3, 4, 5, 6, 7, 8, 9, 12, 13, 14, 15]⟩, ⟨[80, 81], [], [], [], [0, 1, 2, 3, 4, 5, 6, 7, 8, 9, 12, 13, 14, 15, 16]⟩, ⟨[], [], [], [], [0, 1, 2, 3, 4, 5, 6, 7, 8, 9, 10, 11, 12, 13, 14, 15, 16, 17]⟩, ⟨[], [], [], [], [0, 1, 2, 3, 4, 5, 6, 7, 8, 9, 10, 11, 12, 13, 14, 15, 16, 17, 18]⟩] (by kernel_rfl) (by kernel_rfl) ?_
      refine DRQ.v rfl rfl rfl (o_ldpa G33 rfl rfl rfl) ?_
      refine DRQ.v rfl rfl rfl (o_fldp F79_1 rfl) ?_
      refine DRQ.v rfl rfl rfl (o_ldp S3 rfl rfl rfl) ?_
      refine DRQ.cs rfl rfl rfl rfl (o_sig 15 (ren [(0, 0), (1, 1), (2, 2), (3, 3), (4, 4), (5, 5), (6, 6), (7, 7)]) (c58 b m (by have h := hm.h.m; omega)) e58 rfl rfl rfl w58 ⟨(lx rfl), (lx rfl), (lx rfl), (lx rfl), (lx rfl), (lx rfl), (lx rfl), (lx rfl), trivial⟩ r58) ?_
      refine DRQ.v rfl rfl rfl (o_move rfl) ?_
      refine DRQ.gv 13 rfl rfl (.plain rfl Iff.rfl rfl) rfl (fun hb => o_fldp F79_2 rfl) ?_
      refine DRQ.gv 13 rfl rfl (.plain rfl Iff.rfl rfl) rfl (fun hb => o_ldp S3 rfl rfl rfl) ?_
      refine DRQ.gv 13 rfl rfl (.plain rfl Iff.rfl rfl) rfl (fun hb => o_geq rfl rfl) ?_
      refine DRQ.v rfl rfl rfl (o_and rfl rfl rfl id) ?_
      refine DRQ.v rfl rfl rfl (o_move rfl) ?_
      refine DRQ.gv 14 rfl rfl (.plain rfl Iff.rfl rfl) rfl (fun hb => o_fldp F79_2 rfl) ?_
      refine DRQ.gv 14 rfl rfl (.plain rfl Iff.rfl rfl) rfl (fun hb => o_ldp S3 rfl rfl rfl) ?_
      refine DRQ.gv 14 rfl rfl (.plain rfl Iff.rfl rfl) rfl (fun hb => o_fldp F33_2 rfl) ?_
      refine DRQ.gv 14 rfl rfl (.plain rfl Iff.rfl rfl) rfl (fun hb => o_ldp S24 rfl rfl rfl) ?_
      refine DRQ.gv 14 rfl rfl (.plain rfl Iff.rfl rfl) rfl (fun hb => o_fldp F79_1 rfl) ?_
      refine DRQ.gv 14 rfl rfl (.plain rfl Iff.rfl rfl) rfl (fun hb => o_ldp S3 rfl rfl rfl) ?_
      refine DRQ.gx 14 15 rfl rfl (.plain rfl Iff.rfl rfl) rfl rfl (fun hb => o_idx L24 rfl (lx rfl) rfl (by simp [within] at hb; omega) (by simp [within] at hb; omega)) ?_
      refine DRQ.gv 14 rfl rfl (.plain rfl Iff.rfl rfl) rfl (fun hb => o_ldq S3 rfl (lxi hb rfl) intc) ?_
      refine DRQ.gv 14 rfl rfl (.plain rfl Iff.rfl rfl) rfl (fun hb => o_leq rfl rfl) ?_
      refine DRQ.v rfl rfl rfl (o_and rfl rfl rfl id) ?_
      refine DRQ.nil' ?_
      refine EX.then ?_
      refine WP.cond rfl (fun hc10 => ?_) (fun hc10 => ?_)
      · try simp only [cnd] at hc10
        have hmn : (0 ≤ m ∧ m < b.hall.machs.length) ∧ 0 ≤ n ∧ n ≤ nth b.walk m := by
          have h1 := hc10.1.1
          simp only [within, Bool.and_eq_true, decide_eq_true_eq] at h1
          exact ⟨by omega, hc10.1.2, hc10.2⟩
        have hnl := near_law hc hm6 hmn.1 hmn.2
        have hv := hB.v m.toNat (by omega)
        rw [show ((m.toNat : Nat) : Int) = m by omega] at hv
        have hnw : nth ([] ++ b.walk) m = nth b.walk m := rfl
        refine WP.seq (WP.region ?_)
        refine WPl.v rfl (o_ldpa G33 rfl rfl rfl) ?_
        refine WPl.cL 24 rfl rfl rfl rfl rfl (o_sigo 16 (ren [(0, 0), (1, 1), (2, 2), (3, 3), (4, 4), (5, 5), (6, 6), (7, 7)]) (c20O b hm) e20 rfl rfl SvsOK.rf w20O ⟨(lx rfl), (lx rfl), (lx rfl), (lx rfl), (lx rfl), (lx rfl), (lx rfl), (lx rfl), trivial⟩ r20O rfl rfl) ?_
        refine WPl.l 24 25 rfl rfl rfl (o_alloc Z33) ?_
        refine WPl.s1 (o_stag G33 rfl rfl rfl ⟨(.inl ⟨_, (lx rfl), PL.one⟩), (.inl ⟨_, (lx rfl), PL.one⟩), (.inl ⟨_, (lx rfl), PL.one⟩), rfl, (.inl ⟨_, (lx rfl), PL.one⟩), (.inl ⟨_, (lx rfl), PL.one⟩), (.inl ⟨_, (lx rfl), PL.one⟩), (.inr ⟨_, _, _, _, rfl⟩), rfl, (.inr ⟨_, _, _, _, rfl⟩), trivial⟩ rfl rfl) ?_
        refine WPl.nil (EX.then (WP.seq ?_))
        refine WP.draw (nf := 25) [⟨[94, 95, 98, 99], [], [], [], []⟩, ⟨[94, 95, 98, 99], [], [], [], [0]⟩, ⟨[92, 93, 98, 99], [], [], [], []⟩, ⟨[92, 93, 98, 99], [], [], [], [2]⟩, ⟨[98, 99], [], [], [], [0, 1, 2, 3]⟩, ⟨[98, 99], [], [], [], [0, 1, 2, 3, 4]⟩, ⟨[92, 93, 94, 95, 96, 97], [], [], [], []⟩, ⟨[92, 93, 94, 95, 96, 97], [], [], [], [6]⟩, ⟨[], [], [], [], [0, 1, 2, 3, 4, 5, 6, 7]⟩, ⟨[], [], [], [], [0, 1, 2, 3, 4, 5, 6, 7, 8]⟩, ⟨[], [], [], [22], [0, 1, 2, 3, 4, 5, 6, 7, 8, 9]⟩] (by kernel_rfl) (by kernel_rfl) ?_
        refine DRQ.v rfl rfl rfl (o_fldp F33_2 rfl) ?_
        refine DRQ.v rfl rfl rfl (o_ldp S24 rfl rfl rfl) ?_
        refine DRQ.v rfl rfl rfl (o_fldp F79_1 rfl) ?_
        refine DRQ.v rfl rfl rfl (o_ldp S3 rfl rfl rfl) ?_
        refine DRQ.v rfl rfl rfl (o_idxo L24 rfl rfl rfl (by first | omega | (simp; omega)) (by first | omega | (simp; omega))) ?_
        refine DRQ.v rfl rfl rfl (o_ldoi S3 rfl rfl rfl rfl (by first | omega | (simp; omega)) (by first | omega | (simp; omega))) ?_
        refine DRQ.v rfl rfl rfl (o_fldp F79_2 rfl) ?_
        refine DRQ.v rfl rfl rfl (o_ldp S3 rfl rfl rfl) ?_
        refine DRQ.v rfl rfl rfl (o_sub rfl rfl (by omega) (by omega)) ?_
        refine DRQ.v rfl rfl rfl (o_idxo L24 rfl rfl rfl (by first | omega | (simp; omega)) (by first | omega | (simp; omega))) ?_
        refine DRQ.s 22 rfl rfl rfl (o_steE2 Tryz.sizeOf3 rfl rfl rfl rfl eok_int rfl rfl rfl (by first | omega | (simp; omega)) (by first | omega | (simp; omega))) ?_
        refine DRQ.nil' ?_
        refine EX.then (WP.seq (WP.region ?_))
        refine WPl.v rfl (o_ldpa G33 rfl rfl rfl) ?_
        refine WPl.cs 25 rfl rfl rfl rfl (o_sigbc 25 (ren [(0, 16), (1, 17), (2, 18), (3, 19), (4, 20), (5, 21), (6, 22), (7, 23), (8, 8)]) (Sig.free (c52 (b.near m n) (near_small hm m n))) e52 rfl rfl SvsOK.rf w52 ⟨.x (lx rfl), .x (lx rfl), .x (lx rfl), .x (lx rfl), .x (lx rfl), .x (lx rfl), .own rfl rfl, .own rfl rfl, .x (lx rfl), trivial⟩ r52) ?_
        refine WPl.v rfl (o_assign rfl) ?_
        refine WPl.nil (EX.then (WP.seq (WP.region ?_)))
        refine WPl.v rfl (o_move rfl) ?_
        refine WPl.v rfl (o_lss rfl rfl) ?_
        refine WPl.imp (Imp.bitF 105 (b' := false) rfl (decide_eq_false (by omega))) ?_
        refine WPl.v rfl (o_move rfl) ?_
        refine WPl.on rfl ⟨_, _, rfl, rfl, rfl⟩ (o_move rfl) ?_
        refine WPl.on rfl ⟨_, _, rfl, rfl, rfl⟩ (o_move rfl) ?_
        refine WPl.on rfl ⟨_, _, rfl, rfl, rfl⟩ (o_gtr rfl rfl) ?_
        refine WPl.imp (Imp.bitF 109 (b' := false) rfl (decide_eq_false (by omega))) ?_
        refine WPl.v rfl (o_pickF rfl rfl) ?_
        refine WPl.nil (EX.then ?_)
        refine WP.cond rfl (fun h => by cases h) (fun _ => ?_)
        refine WP.skip (EX.then (WP.seq (WP.region ?_)))
        refine WPl.v rfl (o_ldpa G33 rfl rfl rfl) ?_
        refine WPl.cL 33 rfl rfl rfl rfl rfl (o_sigo 25 (ren [(0, 0), (1, 1), (2, 2), (3, 3), (4, 4), (5, 5), (6, 6), (7, 7)]) (c20O b hm) e20 rfl rfl SvsOK.rf w20O ⟨(lx rfl), (lx rfl), (lx rfl), (lx rfl), (lx rfl), (lx rfl), (lx rfl), (lx rfl), trivial⟩ r20O rfl rfl) ?_
        refine WPl.l 33 34 rfl rfl rfl (o_alloc Z33) ?_
        refine WPl.s1 (o_stag G33 rfl rfl rfl ⟨(.inl ⟨_, (lx rfl), PL.one⟩), (.inl ⟨_, (lx rfl), PL.one⟩), (.inl ⟨_, (lx rfl), PL.one⟩), rfl, (.inl ⟨_, (lx rfl), PL.one⟩), (.inl ⟨_, (lx rfl), PL.one⟩), (.inl ⟨_, (lx rfl), PL.one⟩), (.inr ⟨_, _, _, _, rfl⟩), rfl, (.inr ⟨_, _, _, _, rfl⟩), trivial⟩ rfl rfl) ?_
        refine WPl.nil (EX.then (WP.seq (WP.region ?_)))
        refine WPl.v rfl (o_fldp F33_4 rfl) ?_
        refine WPl.v rfl (o_ldp S31 rfl rfl rfl) ?_
        refine WPl.v rfl (o_fldp F79_3 rfl) ?_
        refine WPl.v rfl (o_ldpg G58 rfl rfl rfl) ?_
        refine WPl.l 34 35 rfl rfl rfl (o_bsl (E := ETa) (l := [(⟨t1, t2, t3, t4⟩ : Tal)]) R31 rfl rfl (.cons (⟨rfl, rfl, rfl, rfl, trivial⟩) rfl (eok_str ⟨rfl, rfl, rfl, rfl, trivial⟩) (.nil)) rfl rfl) ?_
        refine WPl.u1 (k := 35) (m := 36) rfl rfl rfl (o_appo R31 EP.str_one rfl rfl rfl rfl (by simp; omega) (by simp; omega)) ?_
        refine WPl.v rfl (o_fldp F33_4 rfl) ?_
        refine WPl.s1 (o_sta S31 rfl rfl rfl (.inr ⟨_, _, _, _, rfl⟩) rfl) ?_
        refine WPl.nil (EX.then (WP.seq (WP.seq (WP.region ?_))))
        refine WPl.v rfl (o_ldpa G33 rfl rfl rfl) ?_
        refine WPl.cs 36 rfl rfl rfl rfl (o_sigbc 36 (ren [(0, 25), (1, 26), (2, 27), (3, 28), (4, 29), (5, 30), (6, 31), (7, 35)]) (Sig.free (c24 (b.more (⟨t1, t2, t3, t4⟩ : Tal)))) e24 rfl rfl SvsOK.rf w24 ⟨.x (lx rfl), .x (lx rfl), .x (lx rfl), .x (lx rfl), .x (lx rfl), .x (lx rfl), .own rfl rfl, .own rfl rfl, trivial⟩ r24) ?_
        refine WPl.v rfl (o_not rfl) ?_
        refine WPl.nil (EX.then ?_)
        refine WP.cond rfl (fun hc12 => ?_) (fun hc12 => ?_)
        · try simp only [cnd] at hc12
          refine WP.seq (WP.region ?_)
          refine WPl.cs 36 rfl rfl rfl rfl (o_sig 36 (ren [(0, 8)]) c19 e19 rfl rfl rfl w19 ⟨(lx rfl), trivial⟩ r19) ?_
          refine WPl.v rfl (o_assign rfl) ?_
          refine WPl.nil (EX.then (WP.ret (EX.ret_then ?_)))
          exact EX.fin id (.inl rfl) rfl (.tmp rfl .nil) rfl r10 trivial (by simp) (by simp)
        · try simp only [cnd] at hc12
          have hml := more_law hc (by omega) (ready_chk hc12)
          refine WP.skip (EX.then (WP.seq (WP.region ?_)))
          refine WPl.v rfl (o_ldpa G33 rfl rfl rfl) ?_
          refine WPl.cs 36 rfl rfl rfl rfl (o_sigbc 36 (ren [(0, 25), (1, 26), (2, 27), (3, 28), (4, 29), (5, 30), (6, 31), (7, 35), (8, 8)]) (Sig.free (c52 (b.more (⟨t1, t2, t3, t4⟩ : Tal)) (more_small hm ht8 _))) e52 rfl rfl SvsOK.rf w52 ⟨.x (lx rfl), .x (lx rfl), .x (lx rfl), .x (lx rfl), .x (lx rfl), .x (lx rfl), .own rfl rfl, .own rfl rfl, .x (lx rfl), trivial⟩ r52) ?_
          refine WPl.v rfl (o_assign rfl) ?_
          refine WPl.nil (EX.then (WP.seq (WP.region ?_)))
          refine WPl.v rfl (o_move rfl) ?_
          refine WPl.v rfl (o_move rfl) ?_
          refine WPl.v rfl (o_eql rfl rfl) ?_
          refine WPl.v rfl (o_move rfl) ?_
          refine WPl.bit 36 37 (!(decide ((countB (b.more (⟨t1, t2, t3, t4⟩ : Tal))) = (countB b)))) rfl rfl ?_
          refine WPl.gv 36 rfl rfl (.plain rfl (by first | (simp; done) | simp only [Bool.not_eq_true']) rfl) (fun hb => o_move rfl) ?_
          refine WPl.gv 36 rfl rfl (.plain rfl (by first | (simp; done) | simp only [Bool.not_eq_true']) rfl) (fun hb => o_move rfl) ?_
          refine WPl.gv 36 rfl rfl (.plain rfl (by first | (simp; done) | simp only [Bool.not_eq_true']) rfl) (fun hb => o_add rfl rfl (by omega) (by omega)) ?_
          refine WPl.gv 36 rfl rfl (.plain rfl (by first | (simp; done) | simp only [Bool.not_eq_true']) rfl) (fun hb => o_eql rfl rfl) ?_
          refine WPl.v rfl (o_or rfl rfl rfl (by first | (simp; done) | exact fun h => by rw [h]; rfl | exact fun h => Bool.and_eq_true_iff.2 ⟨hb, by rw [h]; rfl⟩ | simp_all)) ?_
          refine WPl.imp (Imp.bitF 134 (b' := true) rfl (by rcases hml with h | h <;> simp [h])) ?_
          refine WPl.v rfl (o_move rfl) ?_
          refine WPl.ung ⟨_, _, rfl, rfl, rfl⟩ ?_
          refine WPl.cs 37 rfl rfl rfl rfl (o_sig 37 (ren [(0, 8)]) c19 e19 rfl rfl rfl w19 ⟨(lx rfl), trivial⟩ r19) ?_
          refine WPl.v rfl (o_pickT rfl rfl) ?_
          refine WPl.v rfl (o_assign rfl) ?_
          refine WPl.nil (EX.then (WP.ret ?_))
          exact EX.fin id (.inl rfl) rfl (.tmp rfl .nil) rfl r10 trivial (by simp) (by simp)
      · try simp only [cnd] at hc10
        refine WP.skip (EX.then (WP.seq (WP.region ?_)))
        refine WPl.v rfl (o_ldpa G33 rfl rfl rfl) ?_
        refine WPl.cL 24 rfl rfl rfl rfl rfl (o_sigo 16 (ren [(0, 0), (1, 1), (2, 2), (3, 3), (4, 4), (5, 5), (6, 6), (7, 7)]) (c20O b hm) e20 rfl rfl SvsOK.rf w20O ⟨(lx rfl), (lx rfl), (lx rfl), (lx rfl), (lx rfl), (lx rfl), (lx rfl), (lx rfl), trivial⟩ r20O rfl rfl) ?_
        refine WPl.l 24 25 rfl rfl rfl (o_alloc Z33) ?_
        refine WPl.s1 (o_stag G33 rfl rfl rfl ⟨(.inl ⟨_, (lx rfl), PL.one⟩), (.inl ⟨_, (lx rfl), PL.one⟩), (.inl ⟨_, (lx rfl), PL.one⟩), rfl, (.inl ⟨_, (lx rfl), PL.one⟩), (.inl ⟨_, (lx rfl), PL.one⟩), (.inl ⟨_, (lx rfl), PL.one⟩), (.inr ⟨_, _, _, _, rfl⟩), rfl, (.inr ⟨_, _, _, _, rfl⟩), trivial⟩ rfl rfl) ?_
        refine WPl.nil (EX.then (WP.seq (WP.region ?_)))
        refine WPl.v rfl (o_fldp F33_4 rfl) ?_
        refine WPl.v rfl (o_ldp S31 rfl rfl rfl) ?_
        refine WPl.v rfl (o_fldp F79_3 rfl) ?_
        refine WPl.v rfl (o_ldpg G58 rfl rfl rfl) ?_
        refine WPl.l 25 26 rfl rfl rfl (o_bsl (E := ETa) (l := [(⟨t1, t2, t3, t4⟩ : Tal)]) R31 rfl rfl (.cons (⟨rfl, rfl, rfl, rfl, trivial⟩) rfl (eok_str ⟨rfl, rfl, rfl, rfl, trivial⟩) (.nil)) rfl rfl) ?_
        refine WPl.u1 (k := 26) (m := 27) rfl rfl rfl (o_appo R31 EP.str_one rfl rfl rfl rfl (by simp; omega) (by simp; omega)) ?_
        refine WPl.v rfl (o_fldp F33_4 rfl) ?_
        refine WPl.s1 (o_sta S31 rfl rfl rfl (.inr ⟨_, _, _, _, rfl⟩) rfl) ?_
        refine WPl.nil (EX.then (WP.seq (WP.seq (WP.region ?_))))
        refine WPl.v rfl (o_ldpa G33 rfl rfl rfl) ?_
        refine WPl.cs 27 rfl rfl rfl rfl (o_sigbc 27 (ren [(0, 16), (1, 17), (2, 18), (3, 19), (4, 20), (5, 21), (6, 22), (7, 26)]) (Sig.free (c24 (b.more (⟨t1, t2, t3, t4⟩ : Tal)))) e24 rfl rfl SvsOK.rf w24 ⟨.x (lx rfl), .x (lx rfl), .x (lx rfl), .x (lx rfl), .x (lx rfl), .x (lx rfl), .own rfl rfl, .own rfl rfl, trivial⟩ r24) ?_
        refine WPl.v rfl (o_not rfl) ?_
        refine WPl.nil (EX.then ?_)
        refine WP.cond rfl (fun hc13 => ?_) (fun hc13 => ?_)
        · try simp only [cnd] at hc13
          refine WP.seq (WP.region ?_)
          refine WPl.cs 27 rfl rfl rfl rfl (o_sig 27 (ren [(0, 8)]) c19 e19 rfl rfl rfl w19 ⟨(lx rfl), trivial⟩ r19) ?_
          refine WPl.v rfl (o_assign rfl) ?_
          refine WPl.nil (EX.then (WP.ret (EX.ret_then ?_)))
          exact EX.fin id (.inl rfl) rfl (.tmp rfl .nil) rfl r10 trivial (by simp) (by simp)
        · try simp only [cnd] at hc13
          have hml := more_law hc (by omega) (ready_chk hc13)
          refine WP.skip (EX.then (WP.seq (WP.region ?_)))
          refine WPl.v rfl (o_ldpa G33 rfl rfl rfl) ?_
          refine WPl.cs 27 rfl rfl rfl rfl (o_sigbc 27 (ren [(0, 16), (1, 17), (2, 18), (3, 19), (4, 20), (5, 21), (6, 22), (7, 26), (8, 8)]) (Sig.free (c52 (b.more (⟨t1, t2, t3, t4⟩ : Tal)) (more_small hm ht8 _))) e52 rfl rfl SvsOK.rf w52 ⟨.x (lx rfl), .x (lx rfl), .x (lx rfl), .x (lx rfl), .x (lx rfl), .x (lx rfl), .own rfl rfl, .own rfl rfl, .x (lx rfl), trivial⟩ r52) ?_
          refine WPl.v rfl (o_assign rfl) ?_
          refine WPl.nil (EX.then (WP.seq (WP.region ?_)))
          refine WPl.v rfl (o_move rfl) ?_
          refine WPl.v rfl (o_move rfl) ?_
          refine WPl.v rfl (o_eql rfl rfl) ?_
          refine WPl.v rfl (o_move rfl) ?_
          refine WPl.bit 27 28 (!(decide ((countB (b.more (⟨t1, t2, t3, t4⟩ : Tal))) = (countB b)))) rfl rfl ?_
          refine WPl.gv 27 rfl rfl (.plain rfl (by first | (simp; done) | simp only [Bool.not_eq_true']) rfl) (fun hb => o_move rfl) ?_
          refine WPl.gv 27 rfl rfl (.plain rfl (by first | (simp; done) | simp only [Bool.not_eq_true']) rfl) (fun hb => o_move rfl) ?_
          refine WPl.gv 27 rfl rfl (.plain rfl (by first | (simp; done) | simp only [Bool.not_eq_true']) rfl) (fun hb => o_add rfl rfl (by omega) (by omega)) ?_
          refine WPl.gv 27 rfl rfl (.plain rfl (by first | (simp; done) | simp only [Bool.not_eq_true']) rfl) (fun hb => o_eql rfl rfl) ?_
          refine WPl.v rfl (o_or rfl rfl rfl (by first | (simp; done) | exact fun h => by rw [h]; rfl | exact fun h => Bool.and_eq_true_iff.2 ⟨hb, by rw [h]; rfl⟩ | simp_all)) ?_
          refine WPl.imp (Imp.bitF 134 (b' := true) rfl (by rcases hml with h | h <;> simp [h])) ?_
          refine WPl.v rfl (o_move rfl) ?_
          refine WPl.ung ⟨_, _, rfl, rfl, rfl⟩ ?_
          refine WPl.cs 28 rfl rfl rfl rfl (o_sig 28 (ren [(0, 8)]) c19 e19 rfl rfl rfl w19 ⟨(lx rfl), trivial⟩ r19) ?_
          refine WPl.v rfl (o_pickT rfl rfl) ?_
          refine WPl.v rfl (o_assign rfl) ?_
          refine WPl.nil (EX.then (WP.ret ?_))
          exact EX.fin id (.inl rfl) rfl (.tmp rfl .nil) rfl r10 trivial (by simp) (by simp)
theorem w12 {b : Book} {f m ed mi : Int} : ∀ x ∈ ([.e (.g [.q 0, .q 1, .q 2, ai (b.hall.change), .q 3, .q 4, .q 5, .q 6, ai (b.boys), .q 7]), .i (f), .e (.g [ai (m), ai (ed), ai (mi)])] : List SV), x.res (keys (α := Pred) [(0, PL ETm (b.hall.machs)), (1, PL EBd (b.hall.buns)), (2, PL EP.int (b.hall.trains)), (3, PL EP.int (b.hall.bores)), (4, PL (EP.sl EP.int) (b.hall.eds)), (5, PL EPl (b.set)), (6, PL EP.int (b.walk)), (7, PL ETa (b.tals)), (8, (Pred.tab 1 tz64))]) := by simp [SV.res, El.res, At.res, keys]
theorem r12  : SV.res (keys (α := Pred) []) (.b (true)) := by simp [SV.res, El.res, At.res, keys]
set_option maxHeartbeats 4000000 in
set_option maxRecDepth 10000 in
theorem c12 (b : Book) (f m ed mi : Int)  : Sig Tryz.prog 12 [.e (.g [.q 0, .q 1, .q 2, ai (b.hall.change), .q 3, .q 4, .q 5, .q 6, ai (b.boys), .q 7]), .i (f), .e (.g [ai (m), ai (ed), ai (mi)])] [(0, PL ETm (b.hall.machs)), (1, PL EBd (b.hall.buns)), (2, PL EP.int (b.hall.trains)), (3, PL EP.int (b.hall.bores)), (4, PL (EP.sl EP.int) (b.hall.eds)), (5, PL EPl (b.set)), (6, PL EP.int (b.walk)), (7, PL ETa (b.tals)), (8, (Pred.tab 1 tz64))] (.b (true)) [] := by
  refine Sig.intro Tryz.func12 rfl 9 [(0, .e (.g [.q 0, .q 1, .q 2, ai (b.hall.change), .q 3, .q 4, .q 5, .q 6, ai (b.boys), .q 7])), (1, .i (f)), (2, .e (.g [ai (m), ai (ed), ai (mi)]))] rfl w12 rfl rfl fun I w => ?_
  refine WP.seq (WP.region ?_)
  refine WPl.l 9 10 rfl rfl rfl (o_boxg rfl) ?_
  refine WPl.l 10 11 rfl rfl rfl (o_boxg rfl) ?_
  refine WPl.v rfl (o_assign rfl) ?_
  refine WPl.nil (EX.then (WP.seq (WP.seq (WP.region ?_))))
  refine WPl.v rfl (o_ldpa G33 rfl rfl rfl) ?_
  refine WPl.cs 11 rfl rfl rfl rfl (o_sig 11 (ren [(0, 0), (1, 1), (2, 2), (3, 3), (4, 4), (5, 5), (6, 6), (7, 7)]) (c24 b) e24 rfl rfl rfl w24 ⟨(lx rfl), (lx rfl), (lx rfl), (lx rfl), (lx rfl), (lx rfl), (lx rfl), (lx rfl), trivial⟩ r24) ?_
  refine WPl.v rfl (o_not rfl) ?_
  refine WPl.v rfl (o_move rfl) ?_
  refine WPl.bit 11 12 (!(!b.ready)) rfl rfl ?_
  refine WPl.gv 11 rfl rfl (.plain rfl (by first | (simp; done) | simp only [Bool.not_eq_true']) rfl) (fun hb => o_move rfl) ?_
  refine WPl.gv 11 rfl rfl (.plain rfl (by first | (simp; done) | simp only [Bool.not_eq_true']) rfl) (fun hb => o_lss rfl rfl) ?_
  refine WPl.v rfl (o_or rfl rfl rfl (by first | (simp; done) | exact fun h => by rw [h]; rfl | exact fun h => Bool.and_eq_true_iff.2 ⟨hb, by rw [h]; rfl⟩ | simp_all)) ?_
  refine WPl.v rfl (o_move rfl) ?_
  refine WPl.bit 12 13 (!((!b.ready) || (decide (f < 0)))) rfl rfl ?_
  refine WPl.gv 12 rfl rfl (.plain rfl (by first | (simp; done) | simp only [Bool.not_eq_true']) rfl) (fun hb => o_move rfl) ?_
  refine WPl.gv 12 rfl rfl (.plain rfl (by first | (simp; done) | simp only [Bool.not_eq_true']) rfl) (fun hb => o_gtr rfl rfl) ?_
  refine WPl.v rfl (o_or rfl rfl rfl (by first | (simp; done) | exact fun h => by rw [h]; rfl | exact fun h => Bool.and_eq_true_iff.2 ⟨hb, by rw [h]; rfl⟩ | simp_all)) ?_
  refine WPl.nil (EX.then ?_)
  refine WP.cond rfl (fun hc1 => ?_) (fun hc1 => ?_)
  · try simp only [cnd] at hc1
    refine WP.seq (WP.region ?_)
    refine WPl.cs 13 rfl rfl rfl rfl (o_sig 13 (ren [(0, 8)]) c19 e19 rfl rfl rfl w19 ⟨(lx rfl), trivial⟩ r19) ?_
    refine WPl.v rfl (o_assign rfl) ?_
    refine WPl.nil (EX.then (WP.ret (EX.ret_then ?_)))
    exact EX.fin id (.inl rfl) rfl (.tmp rfl .nil) rfl r12 trivial (by simp) (by simp)
  · try simp only [cnd] at hc1
    have hc : b.chk = true := ready_chk hc1.1.1
    have hm : b.Small := ready_small hc1.1.1
    have hB := bookB hc
    have ht8 := hB.t
    have hm6 := hm.s
    have hf0 : 0 ≤ f ∧ f ≤ 100 := by omega
    have law := order_law hc (by omega) f m ed mi
    have hrs := rot_small hm f
    refine WP.skip (EX.then (WP.seq (WP.region ?_)))
    refine WPl.v rfl (o_ldpa G33 rfl rfl rfl) ?_
    refine WPl.cL 21 rfl rfl rfl rfl rfl (o_sigo 13 (ren [(0, 0), (1, 1), (2, 2), (3, 3), (4, 4), (5, 5), (6, 6), (7, 7)]) (c20O b hm) e20 rfl rfl SvsOK.rf w20O ⟨(lx rfl), (lx rfl), (lx rfl), (lx rfl), (lx rfl), (lx rfl), (lx rfl), (lx rfl), trivial⟩ r20O rfl rfl) ?_
    refine WPl.l 21 22 rfl rfl rfl (o_alloc Z33) ?_
    refine WPl.s1 (o_stag G33 rfl rfl rfl ⟨(.inl ⟨_, (lx rfl), PL.one⟩), (.inl ⟨_, (lx rfl), PL.one⟩), (.inl ⟨_, (lx rfl), PL.one⟩), rfl, (.inl ⟨_, (lx rfl), PL.one⟩), (.inl ⟨_, (lx rfl), PL.one⟩), (.inl ⟨_, (lx rfl), PL.one⟩), (.inr ⟨_, _, _, _, rfl⟩), rfl, (.inr ⟨_, _, _, _, rfl⟩), trivial⟩ rfl rfl) ?_
    refine WPl.nil (EX.then (WP.seq (WP.seq (WP.region ?_))))
    refine WPl.v rfl (o_assign rfl) ?_
    refine WPl.nil (EX.then (WP.block ?_))
    refine WP.loop (Gh := Nat) (fun i => ⟨22, [(1, .i (f)), (3, .e (.a (.p 9 (0)))), (5, .e (.a (.p 10 (0)))), (6, .b (false)), (7, .e (.a (.p 21 (0)))), (8, .i ((i : Int)))], [(0, PL ETm (b.hall.machs)), (1, PL EBd (b.hall.buns)), (2, PL EP.int (b.hall.trains)), (3, PL EP.int (b.hall.bores)), (4, PL (EP.sl EP.int) (b.hall.eds)), (5, PL EPl (b.set)), (6, PL EP.int (b.walk)), (7, PL ETa (b.tals)), (8, (Pred.tab 1 tz64)), (13, PL ETm (b.hall.machs)), (14, PL EBd (b.hall.buns)), (15, PL EP.int (b.hall.trains)), (16, PL EP.int (b.hall.bores)), (17, PL (EP.sl EP.int) (b.hall.eds)), (18, PL EPl (b.set))], [(9, .blk [.q 0, .q 1, .q 2, ai (b.hall.change), .q 3, .q 4, .q 5, .q 6, ai (b.boys), .q 7] 33), (10, .blk [ai (m), ai (ed), ai (mi)] 35), (19, .own 3 EP.int.size ([] ++ b.walk).length (RP EP.int ([] ++ b.walk))), (20, .own 58 ETa.size (rotTo b f i).length (RP ETa (rotTo b f i))), (21, .blk [.q 13, .q 14, .q 15, ai (b.hall.change), .q 16, .q 17, .q 18, .q 19, ai (b.boys), .q 20] 33)], [], []⟩) (fun i => i ≤ b.tals.length) (fun i => b.tals.length - i) (0) id ?_ (LeR.of ⟨rfl, rfl, rfl, rfl, rfl, rfl, trivial⟩ ⟨(lx rfl), (lx rfl), (lx rfl), (lx rfl), (lx rfl), (lx rfl), (lx rfl), (lx rfl), (lx rfl), (lx rfl), (lx rfl), (lx rfl), (lx rfl), (lx rfl), (lx rfl), trivial⟩ ⟨rfl, rfl, rfl, (congrArg (fun z => some (Ent.own 58 ETa.size (List.length z) (RP ETa z))) (show ([] ++ b.tals) = ((fun i => rotTo b f i) 0) from rfl)), rfl, trivial⟩ rfl rfl rfl rfl rfl) ?_
    · first | trivial | omega | (constructor <;> omega) | simp
    intro i hφ
    have hi : i ≤ b.tals.length := hφ
    have hrl := rotTo_len b f i
    refine WP.seq (WP.seq (WP.region ?_))
    refine WPl.v rfl (o_move rfl) ?_
    refine WPl.v rfl (o_fldp F33_4 rfl) ?_
    refine WPl.v rfl (o_ldp S31 rfl rfl rfl) ?_
    refine WPl.v rfl (o_lenq L31 rfl (lx rfl)) ?_
    refine WPl.v rfl (o_lss rfl rfl) ?_
    refine WPl.nil (EX.then ?_)
    refine WP.cond rfl (fun hc2 => ?_) (fun hc2 => ?_)
    · try simp only [cnd] at hc2
      have hem := Int.emod_nonneg ((i : Int) + f) (show (b.tals.length : Int) ≠ 0 by omega)
      have hel := Int.emod_lt_of_pos ((i : Int) + f) (show 0 < (b.tals.length : Int) by omega)
      refine WP.skip (EX.then (WP.seq (WP.block ?_)))
      refine WP.draw (nf := 23) [⟨[48, 49, 50, 51, 52, 53, 54, 55, 56, 57, 58, 59], [22], [], [], []⟩, ⟨[48, 49, 50, 51, 52, 53, 54, 55, 56, 57, 58, 59], [22], [], [], [0]⟩, ⟨[46, 47, 49, 50, 51, 52, 53, 54, 55, 56, 57, 58, 59], [22], [], [], []⟩, ⟨[46, 47, 48, 51, 52, 53, 54, 55, 56, 57], [], [], [], []⟩, ⟨[46, 47, 48, 51, 52, 53, 54, 55, 56, 57], [], [], [], [3]⟩, ⟨[46, 47, 48, 49, 50, 52, 54, 55, 56], [], [], [], []⟩, ⟨[46, 47, 48, 49, 50, 51, 54, 55, 56], [], [], [], []⟩, ⟨[46, 47, 48, 49, 50, 54, 55, 56], [], [], [], [5, 6]⟩, ⟨[46, 47, 48, 49, 50, 51, 52, 53], [], [], [], []⟩, ⟨[46, 47, 48, 49, 50, 51, 52, 53], [], [], [], [8]⟩, ⟨[46, 47, 48, 49, 50, 51, 52, 53], [], [], [], [8, 9]⟩, ⟨[46, 47, 48, 49, 50], [], [], [], [5, 6, 7, 8, 9, 10]⟩, ⟨[46, 47, 48], [], [22], [22], [3, 4, 5, 6, 7, 8, 9, 10, 11]⟩, ⟨[46, 47, 48], [], [], [], [3, 4, 5, 6, 7, 8, 9, 10, 11, 12]⟩, ⟨[], [], [], [], [0, 1, 2, 3, 4, 5, 6, 7, 8, 9, 10, 11, 12, 13]⟩, ⟨[], [], [], [20], [0, 1, 2, 3, 4, 5, 6, 7, 8, 9, 10, 11, 12, 13, 14]⟩] (by kernel_rfl) (by kernel_rfl) ?_
      refine DRQ.v rfl rfl rfl (o_fldp F33_4 rfl) ?_
      refine DRQ.v rfl rfl rfl (o_ldp S31 rfl rfl rfl) ?_
      refine DRQ.v rfl rfl rfl (o_move rfl) ?_
      refine DRQ.v rfl rfl rfl (o_fldp F33_4 rfl) ?_
      refine DRQ.v rfl rfl rfl (o_ldp S31 rfl rfl rfl) ?_
      refine DRQ.v rfl rfl rfl (o_move rfl) ?_
      refine DRQ.v rfl rfl rfl (o_move rfl) ?_
      refine DRQ.v rfl rfl rfl (o_add rfl rfl (by omega) (by omega)) ?_
      refine DRQ.v rfl rfl rfl (o_fldp F33_4 rfl) ?_
      refine DRQ.v rfl rfl rfl (o_ldp S31 rfl rfl rfl) ?_
      refine DRQ.v rfl rfl rfl (o_lenq L31 rfl (lx rfl)) ?_
      refine DRQ.v rfl rfl rfl (o_rem rfl rfl (by omega) (by omega)) ?_
      refine DRQ.x 22 rfl rfl rfl rfl (o_idx L31 rfl (lx rfl) rfl (by omega) (by omega)) ?_
      refine DRQ.v rfl rfl rfl (o_ldqg G58 rfl (lx rfl) (strG rfl) rfl rfl) ?_
      refine DRQ.v rfl rfl rfl (o_idxo L31 rfl rfl rfl (by first | omega | (simp; omega)) (by first | omega | (simp; omega))) ?_
      refine DRQ.s 20 rfl rfl rfl (o_steE2 (z := (nth b.tals (((i : Int) + f) % (b.tals.length : Int)))) Tryz.sizeOf58 rfl rfl rfl ⟨rfl, rfl, rfl, rfl, trivial⟩ (eok_str ⟨rfl, rfl, rfl, rfl, trivial⟩) rfl rfl rfl (by first | omega | (simp; omega)) (by first | omega | (simp; omega))) ?_
      refine DRQ.nil' ?_
      refine EX.blk (EX.then (WP.region ?_))
      refine WPl.v rfl (o_move rfl) ?_
      refine WPl.v rfl (o_add rfl rfl (by first | omega | (simp; omega)) (by first | omega | (simp; omega))) ?_
      refine WPl.v rfl (o_assign rfl) ?_
      refine WPl.nil ?_
      refine EX.again (i + 1) id (by first | omega | (constructor <;> omega)) (by omega) (LeR.of ⟨rfl, rfl, rfl, rfl, rfl, rfl, trivial⟩ ⟨(lx rfl), (lx rfl), (lx rfl), (lx rfl), (lx rfl), (lx rfl), (lx rfl), (lx rfl), (lx rfl), (lx rfl), (lx rfl), (lx rfl), (lx rfl), (lx rfl), (lx rfl), trivial⟩ ⟨rfl, rfl, rfl, (congrArg (fun z => some (Ent.own 58 ETa.size (List.length z) (RP ETa z))) (show (lset (rotTo b f i) (i : Int) (nth b.tals (((i : Int) + f) % (b.tals.length : Int)))) = ((fun i => rotTo b f i) (i + 1)) from rfl)), rfl, trivial⟩ rfl rfl rfl rfl rfl)
    · try simp only [cnd] at hc2
      refine WP.exit (EX.exit_then (EX.exit_then (EX.exit_blk (EX.then (WP.seq (WP.region ?_))))))
      have hie : i = b.tals.length := by omega
      rw [show rotTo b f i = rotTo b f b.tals.length from by rw [hie]]
      refine WPl.v rfl (o_ldpa G33 rfl rfl rfl) ?_
      refine WPl.cs 22 rfl rfl rfl rfl (o_sig 22 (ren [(0, 0), (1, 1), (2, 2), (3, 3), (4, 4), (5, 5), (6, 6), (7, 7), (8, 8)]) (c52 b hm) e52 rfl rfl rfl w52 ⟨(lx rfl), (lx rfl), (lx rfl), (lx rfl), (lx rfl), (lx rfl), (lx rfl), (lx rfl), (lx rfl), trivial⟩ r52) ?_
      refine WPl.v rfl (o_assign rfl) ?_
      refine WPl.nil (EX.then (WP.seq (WP.region ?_)))
      refine WPl.v rfl (o_ldpa G33 rfl rfl rfl) ?_
      refine WPl.cs 22 rfl rfl rfl rfl (o_sig 22 (ren [(0, 0), (1, 1), (2, 2), (3, 3), (4, 4), (5, 5), (6, 6), (7, 7), (8, 8)]) (c60 b hm) e60 rfl rfl rfl w60 ⟨(lx rfl), (lx rfl), (lx rfl), (lx rfl), (lx rfl), (lx rfl), (lx rfl), (lx rfl), (lx rfl), trivial⟩ r60) ?_
      refine WPl.v rfl (o_move rfl) ?_
      refine WPl.v rfl (o_extract rfl rfl) ?_
      refine WPl.v rfl (o_extract rfl rfl) ?_
      refine WPl.v rfl (o_assign rfl) ?_
      refine WPl.v rfl (o_assign rfl) ?_
      refine WPl.nil (EX.then (WP.seq (WP.region ?_)))
      refine WPl.v rfl (o_ldpa G33 rfl rfl rfl) ?_
      refine WPl.cs 22 rfl rfl rfl rfl (o_sigbc 22 (ren [(0, 13), (1, 14), (2, 15), (3, 16), (4, 17), (5, 18), (6, 19), (7, 20), (8, 8)]) (Sig.free (c60 (b.rot f) hrs)) e60 rfl rfl SvsOK.rf w60 ⟨.x (lx rfl), .x (lx rfl), .x (lx rfl), .x (lx rfl), .x (lx rfl), .x (lx rfl), .own rfl rfl, .own rfl rfl, .x (lx rfl), trivial⟩ r60) ?_
      refine WPl.v rfl (o_move rfl) ?_
      refine WPl.v rfl (o_extract rfl rfl) ?_
      refine WPl.v rfl (o_extract rfl rfl) ?_
      refine WPl.v rfl (o_assign rfl) ?_
      refine WPl.v rfl (o_assign rfl) ?_
      refine WPl.nil (EX.then (WP.seq (WP.region ?_)))
      refine WPl.v rfl (o_ldpa G33 rfl rfl rfl) ?_
      refine WPl.v rfl (o_fldp F35_0 rfl) ?_
      refine WPl.v rfl (o_ldp S3 rfl rfl rfl) ?_
      refine WPl.v rfl (o_fldp F35_1 rfl) ?_
      refine WPl.v rfl (o_ldp S3 rfl rfl rfl) ?_
      refine WPl.v rfl (o_fldp F35_2 rfl) ?_
      refine WPl.v rfl (o_ldp S3 rfl rfl rfl) ?_
      refine WPl.cs 22 rfl rfl rfl rfl (o_sig 22 (ren [(0, 0), (1, 1), (2, 2), (3, 3), (4, 4), (5, 5), (6, 6), (7, 7), (8, 8)]) (c21 b m ed mi hm) e21 rfl rfl rfl w21 ⟨(lx rfl), (lx rfl), (lx rfl), (lx rfl), (lx rfl), (lx rfl), (lx rfl), (lx rfl), (lx rfl), trivial⟩ r21) ?_
      refine WPl.v rfl (o_move rfl) ?_
      refine WPl.v rfl (o_extract rfl rfl) ?_
      refine WPl.v rfl (o_extract rfl rfl) ?_
      refine WPl.v rfl (o_assign rfl) ?_
      refine WPl.v rfl (o_assign rfl) ?_
      refine WPl.nil (EX.then (WP.seq (WP.region ?_)))
      refine WPl.v rfl (o_ldpa G33 rfl rfl rfl) ?_
      refine WPl.v rfl (o_fldp F35_0 rfl) ?_
      refine WPl.v rfl (o_ldp S3 rfl rfl rfl) ?_
      refine WPl.v rfl (o_fldp F35_1 rfl) ?_
      refine WPl.v rfl (o_ldp S3 rfl rfl rfl) ?_
      refine WPl.v rfl (o_fldp F35_2 rfl) ?_
      refine WPl.v rfl (o_ldp S3 rfl rfl rfl) ?_
      refine WPl.cs 22 rfl rfl rfl rfl (o_sigbc 22 (ren [(0, 13), (1, 14), (2, 15), (3, 16), (4, 17), (5, 18), (6, 19), (7, 20), (8, 8)]) (Sig.free (c21 (b.rot f) m ed mi hrs)) e21 rfl rfl SvsOK.rf w21 ⟨.x (lx rfl), .x (lx rfl), .x (lx rfl), .x (lx rfl), .x (lx rfl), .x (lx rfl), .own rfl rfl, .own rfl rfl, .x (lx rfl), trivial⟩ r21) ?_
      refine WPl.v rfl (o_move rfl) ?_
      refine WPl.v rfl (o_extract rfl rfl) ?_
      refine WPl.v rfl (o_extract rfl rfl) ?_
      refine WPl.v rfl (o_assign rfl) ?_
      refine WPl.v rfl (o_assign rfl) ?_
      refine WPl.nil (EX.then (WP.seq (WP.seq (WP.region ?_))))
      refine WPl.v rfl (o_move rfl) ?_
      refine WPl.v rfl (o_lss rfl rfl) ?_
      refine WPl.imp (Imp.bitF 96 (b' := false) rfl (decide_eq_false (by have h := law.n; omega))) ?_
      refine WPl.v rfl (o_move rfl) ?_
      refine WPl.ung ⟨_, _, rfl, rfl, rfl⟩ ?_
      refine WPl.v rfl (o_ldpa G33 rfl rfl rfl) ?_
      refine WPl.ung ⟨_, _, rfl, rfl, rfl⟩ ?_
      refine WPl.cs 22 rfl rfl rfl rfl (o_sigbc 22 (ren [(0, 13), (1, 14), (2, 15), (3, 16), (4, 17), (5, 18), (6, 19), (7, 20), (8, 8)]) (Sig.free (c52 (b.rot f) hrs)) e52 rfl rfl SvsOK.rf w52 ⟨.x (lx rfl), .x (lx rfl), .x (lx rfl), .x (lx rfl), .x (lx rfl), .x (lx rfl), .own rfl rfl, .own rfl rfl, .x (lx rfl), trivial⟩ r52) ?_
      refine WPl.on rfl ⟨_, _, rfl, rfl, rfl⟩ (o_move rfl) ?_
      refine WPl.on rfl ⟨_, _, rfl, rfl, rfl⟩ (o_neq rfl rfl) ?_
      refine WPl.imp (Imp.bitF 101 (b' := false) rfl (decide_eq_false (fun h => h law.e))) ?_
      refine WPl.v rfl (o_pickF rfl rfl) ?_
      refine WPl.v rfl (o_move rfl) ?_
      refine WPl.on rfl ⟨_, _, rfl, rfl, rfl⟩ (o_move rfl) ?_
      refine WPl.on rfl ⟨_, _, rfl, rfl, rfl⟩ (o_neq rfl rfl) ?_
      refine WPl.imp (Imp.bitF 105 (b' := false) rfl (decide_eq_false (fun h => h law.z))) ?_
      refine WPl.v rfl (o_pickF rfl rfl) ?_
      refine WPl.v rfl (o_move rfl) ?_
      refine WPl.on rfl ⟨_, _, rfl, rfl, rfl⟩ (o_move rfl) ?_
      refine WPl.on rfl ⟨_, _, rfl, rfl, rfl⟩ (o_neq rfl rfl) ?_
      refine WPl.imp (Imp.bitF 109 (b' := false) rfl (decide_eq_false (fun h => h law.y))) ?_
      refine WPl.v rfl (o_pickF rfl rfl) ?_
      refine WPl.v rfl (o_move rfl) ?_
      refine WPl.on rfl ⟨_, _, rfl, rfl, rfl⟩ (o_move rfl) ?_
      refine WPl.on rfl ⟨_, _, rfl, rfl, rfl⟩ (o_move rfl) ?_
      refine WPl.on rfl ⟨_, _, rfl, rfl, rfl⟩ (o_neq rfl rfl) ?_
      refine WPl.imp (Imp.bitF 114 (b' := false) rfl (decide_eq_false (fun h => h law.s))) ?_
      refine WPl.v rfl (o_pickF rfl rfl) ?_
      refine WPl.v rfl (o_move rfl) ?_
      refine WPl.on rfl ⟨_, _, rfl, rfl, rfl⟩ (o_move rfl) ?_
      refine WPl.on rfl ⟨_, _, rfl, rfl, rfl⟩ (o_move rfl) ?_
      refine WPl.on rfl ⟨_, _, rfl, rfl, rfl⟩ (o_neq rfl rfl) ?_
      refine WPl.imp (Imp.bitF 119 (b' := false) rfl (decide_eq_false (fun h => h law.r))) ?_
      refine WPl.v rfl (o_pickF rfl rfl) ?_
      refine WPl.v rfl (o_move rfl) ?_
      refine WPl.on rfl ⟨_, _, rfl, rfl, rfl⟩ (o_move rfl) ?_
      refine WPl.on rfl ⟨_, _, rfl, rfl, rfl⟩ (o_move rfl) ?_
      refine WPl.on rfl ⟨_, _, rfl, rfl, rfl⟩ (o_neq rfl rfl) ?_
      refine WPl.imp (Imp.bitF 124 (b' := false) rfl (decide_eq_false (fun h => h law.q))) ?_
      refine WPl.v rfl (o_pickF rfl rfl) ?_
      refine WPl.nil (EX.then ?_)
      refine WP.cond rfl (fun h => by cases h) (fun _ => ?_)
      refine WP.skip (EX.then (WP.seq (WP.seq (WP.region ?_))))
      refine WPl.v rfl (o_assign rfl) ?_
      refine WPl.nil (EX.then (WP.block ?_))
      refine WP.loop (Gh := Nat) (fun j => ⟨22, [(1, .i (f)), (3, .e (.a (.p 9 (0)))), (6, .b (false)), (7, .e (.a (.p 21 (0)))), (18, .i ((j : Int)))], [(0, PL ETm (b.hall.machs)), (1, PL EBd (b.hall.buns)), (2, PL EP.int (b.hall.trains)), (3, PL EP.int (b.hall.bores)), (4, PL (EP.sl EP.int) (b.hall.eds)), (5, PL EPl (b.set)), (6, PL EP.int (b.walk)), (7, PL ETa (b.tals)), (8, (Pred.tab 1 tz64)), (13, PL ETm (b.hall.machs)), (14, PL EBd (b.hall.buns)), (15, PL EP.int (b.hall.trains)), (16, PL EP.int (b.hall.bores)), (17, PL (EP.sl EP.int) (b.hall.eds)), (18, PL EPl (b.set))], [(9, .blk [.q 0, .q 1, .q 2, ai (b.hall.change), .q 3, .q 4, .q 5, .q 6, ai (b.boys), .q 7] 33), (19, .own 3 EP.int.size ([] ++ b.walk).length (RP EP.int ([] ++ b.walk))), (20, .own 58 ETa.size (rotTo b f b.tals.length).length (RP ETa (rotTo b f b.tals.length))), (21, .blk [.q 13, .q 14, .q 15, ai (b.hall.change), .q 16, .q 17, .q 18, .q 19, ai (b.boys), .q 20] 33)], [], []⟩) (fun j => j ≤ 4) (fun j => 4 - j) (0) id ?_ (LeR.of ⟨rfl, rfl, rfl, rfl, rfl, trivial⟩ ⟨(lx rfl), (lx rfl), (lx rfl), (lx rfl), (lx rfl), (lx rfl), (lx rfl), (lx rfl), (lx rfl), (lx rfl), (lx rfl), (lx rfl), (lx rfl), (lx rfl), (lx rfl), trivial⟩ ⟨rfl, rfl, rfl, rfl, trivial⟩ rfl rfl rfl rfl rfl) ?_
      · first | trivial | omega | (constructor <;> omega) | simp
      intro j hφ
      have hj : j ≤ 4 := hφ
      refine WP.seq (WP.seq (WP.region ?_))
      refine WPl.v rfl (o_move rfl) ?_
      refine WPl.v rfl (o_lss rfl rfl) ?_
      refine WPl.nil (EX.then ?_)
      refine WP.cond rfl (fun hc4 => ?_) (fun hc4 => ?_)
      · try simp only [cnd] at hc4
        have hp := law.p (j : Int) (by omega) (by omega)
        refine WP.skip (EX.then (WP.seq (WP.block (WP.seq (WP.region ?_)))))
        refine WPl.v rfl (o_ldpa G33 rfl rfl rfl) ?_
        refine WPl.v rfl (o_move rfl) ?_
        refine WPl.cs 22 rfl rfl rfl rfl (o_sig 22 (ren [(0, 0), (1, 1), (2, 2), (3, 3), (4, 4), (5, 5), (6, 6), (7, 7), (8, 8)]) (c37 b (j : Int) hm) e37 rfl rfl rfl w37 ⟨(lx rfl), (lx rfl), (lx rfl), (lx rfl), (lx rfl), (lx rfl), (lx rfl), (lx rfl), (lx rfl), trivial⟩ r37) ?_
        refine WPl.v rfl (o_move rfl) ?_
        refine WPl.v rfl (o_extract rfl rfl) ?_
        refine WPl.v rfl (o_extract rfl rfl) ?_
        refine WPl.l 22 23 rfl rfl rfl (o_alloc Z60) ?_
        refine WPl.s1 (o_stag G60 rfl rfl rfl ⟨rfl, rfl, trivial⟩ rfl rfl) ?_
        refine WPl.v rfl (o_assign rfl) ?_
        refine WPl.nil (EX.then (WP.seq (WP.region ?_)))
        refine WPl.v rfl (o_ldpa G33 rfl rfl rfl) ?_
        refine WPl.v rfl (o_move rfl) ?_
        refine WPl.cs 23 rfl rfl rfl rfl (o_sigbc 23 (ren [(0, 13), (1, 14), (2, 15), (3, 16), (4, 17), (5, 18), (6, 19), (7, 20), (8, 8)]) (Sig.free (c37 (b.rot f) (j : Int) hrs)) e37 rfl rfl SvsOK.rf w37 ⟨.x (lx rfl), .x (lx rfl), .x (lx rfl), .x (lx rfl), .x (lx rfl), .x (lx rfl), .own rfl rfl, .own rfl rfl, .x (lx rfl), trivial⟩ r37) ?_
        refine WPl.v rfl (o_move rfl) ?_
        refine WPl.v rfl (o_extract rfl rfl) ?_
        refine WPl.v rfl (o_extract rfl rfl) ?_
        refine WPl.l 23 24 rfl rfl rfl (o_alloc Z60) ?_
        refine WPl.s1 (o_stag G60 rfl rfl rfl ⟨rfl, rfl, trivial⟩ rfl rfl) ?_
        refine WPl.v rfl (o_assign rfl) ?_
        refine WPl.nil (EX.then (WP.seq (WP.region ?_)))
        refine WPl.v rfl (o_move rfl) ?_
        refine WPl.v rfl (o_neq rfl rfl) ?_
        refine WPl.imp (Imp.bitF 143 (b' := false) rfl (decide_eq_false (fun h => h hp.1))) ?_
        refine WPl.v rfl (o_move rfl) ?_
        refine WPl.on rfl ⟨_, _, rfl, rfl, rfl⟩ (o_move rfl) ?_
        refine WPl.on rfl ⟨_, _, rfl, rfl, rfl⟩ (o_neq rfl rfl) ?_
        refine WPl.imp (Imp.bitF 146 (b' := false) rfl (decide_eq_false (fun h => h hp.2.1))) ?_
        refine WPl.v rfl (o_pickF rfl rfl) ?_
        refine WPl.v rfl (o_move rfl) ?_
        refine WPl.ung ⟨_, _, rfl, rfl, rfl⟩ ?_
        refine WPl.v rfl (o_ldpa G60 rfl rfl rfl) ?_
        refine WPl.ung ⟨_, _, rfl, rfl, rfl⟩ ?_
        refine WPl.v rfl (o_ldpa G60 rfl rfl rfl) ?_
        refine WPl.on rfl ⟨_, _, rfl, rfl, rfl⟩ (o_nes (a := [(plV b (j : Int)).1, (plV b (j : Int)).2]) (b := [(plV (b.rot f) (j : Int)).1, (plV (b.rot f) (j : Int)).2]) Q60 rfl Tryz.eqGuardType60 rfl rfl rfl rfl) ?_
        refine WPl.imp (Imp.bitF 151 (b' := false) rfl (by rw [hp.2.2]; simp)) ?_
        refine WPl.v rfl (o_pickF rfl rfl) ?_
        refine WPl.nil (EX.then ?_)
        refine WP.cond rfl (fun h => by cases h) (fun _ => ?_)
        refine WP.skip (EX.blk (EX.then (WP.region ?_)))
        refine WPl.v rfl (o_move rfl) ?_
        refine WPl.v rfl (o_add rfl rfl (by first | omega | (simp; omega)) (by first | omega | (simp; omega))) ?_
        refine WPl.v rfl (o_assign rfl) ?_
        refine WPl.nil ?_
        refine EX.again (j + 1) id (by first | omega | (constructor <;> omega)) (by omega) (LeR.of ⟨rfl, rfl, rfl, rfl, rfl, trivial⟩ ⟨(lx rfl), (lx rfl), (lx rfl), (lx rfl), (lx rfl), (lx rfl), (lx rfl), (lx rfl), (lx rfl), (lx rfl), (lx rfl), (lx rfl), (lx rfl), (lx rfl), (lx rfl), trivial⟩ ⟨rfl, rfl, rfl, rfl, trivial⟩ rfl rfl rfl rfl rfl)
      · try simp only [cnd] at hc4
        refine WP.exit (EX.exit_then (EX.exit_then (EX.exit_blk (EX.then (WP.seq (WP.seq (WP.region ?_)))))))
        refine WPl.v rfl (o_assign rfl) ?_
        refine WPl.nil (EX.then (WP.block ?_))
        refine WP.loop (Gh := Nat) (fun k => ⟨22, [(1, .i (f)), (3, .e (.a (.p 9 (0)))), (6, .b (false)), (7, .e (.a (.p 21 (0)))), (23, .i ((k : Int)))], [(0, PL ETm (b.hall.machs)), (1, PL EBd (b.hall.buns)), (2, PL EP.int (b.hall.trains)), (3, PL EP.int (b.hall.bores)), (4, PL (EP.sl EP.int) (b.hall.eds)), (5, PL EPl (b.set)), (6, PL EP.int (b.walk)), (7, PL ETa (b.tals)), (8, (Pred.tab 1 tz64)), (13, PL ETm (b.hall.machs)), (14, PL EBd (b.hall.buns)), (15, PL EP.int (b.hall.trains)), (16, PL EP.int (b.hall.bores)), (17, PL (EP.sl EP.int) (b.hall.eds)), (18, PL EPl (b.set))], [(9, .blk [.q 0, .q 1, .q 2, ai (b.hall.change), .q 3, .q 4, .q 5, .q 6, ai (b.boys), .q 7] 33), (19, .own 3 EP.int.size ([] ++ b.walk).length (RP EP.int ([] ++ b.walk))), (20, .own 58 ETa.size (rotTo b f b.tals.length).length (RP ETa (rotTo b f b.tals.length))), (21, .blk [.q 13, .q 14, .q 15, ai (b.hall.change), .q 16, .q 17, .q 18, .q 19, ai (b.boys), .q 20] 33)], [], []⟩) (fun k => k ≤ b.tals.length) (fun k => b.tals.length - k) (0) id ?_ (LeR.of ⟨rfl, rfl, rfl, rfl, rfl, trivial⟩ ⟨(lx rfl), (lx rfl), (lx rfl), (lx rfl), (lx rfl), (lx rfl), (lx rfl), (lx rfl), (lx rfl), (lx rfl), (lx rfl), (lx rfl), (lx rfl), (lx rfl), (lx rfl), trivial⟩ ⟨rfl, rfl, rfl, rfl, trivial⟩ rfl rfl rfl rfl rfl) ?_
        · first | trivial | omega | (constructor <;> omega) | simp
        intro k hφ
        have hk : k ≤ b.tals.length := hφ
        refine WP.seq (WP.seq (WP.region ?_))
        refine WPl.v rfl (o_move rfl) ?_
        refine WPl.v rfl (o_fldp F33_4 rfl) ?_
        refine WPl.v rfl (o_ldp S31 rfl rfl rfl) ?_
        refine WPl.v rfl (o_lenq L31 rfl (lx rfl)) ?_
        refine WPl.v rfl (o_lss rfl rfl) ?_
        refine WPl.nil (EX.then ?_)
        refine WP.cond rfl (fun hc6 => ?_) (fun hc6 => ?_)
        · try simp only [cnd] at hc6
          have hli := law.l (k : Int) (by omega) (by omega)
          refine WP.skip (EX.then (WP.seq (WP.block (WP.seq (WP.region ?_)))))
          refine WPl.v rfl (o_ldpa G33 rfl rfl rfl) ?_
          refine WPl.v rfl (o_move rfl) ?_
          refine WPl.cs 22 rfl rfl rfl rfl (o_sigbc 22 (ren [(0, 13), (1, 14), (2, 15), (3, 16), (4, 17), (5, 18), (6, 19), (7, 20), (8, 8)]) (Sig.free (c59 (b.rot f) (k : Int) hrs)) e59 rfl rfl SvsOK.rf w59 ⟨.x (lx rfl), .x (lx rfl), .x (lx rfl), .x (lx rfl), .x (lx rfl), .x (lx rfl), .own rfl rfl, .own rfl rfl, .x (lx rfl), trivial⟩ r59) ?_
          refine WPl.v rfl (o_assign rfl) ?_
          refine WPl.nil (EX.then (WP.seq ?_))
          refine WP.imp (Imp.bit 22 23 (!(decide ((lieB (b.rot f) (k : Int)) < 0))) rfl rfl) ?_
          refine WP.draw (nf := 23) [⟨[], [], [], [], []⟩, ⟨[], [], [], [], [0]⟩, ⟨[], [], [], [], [0, 1]⟩, ⟨[167, 168, 169, 170, 171, 172, 173, 174, 175], [], [], [], [0, 1, 2]⟩, ⟨[166, 168, 169, 170, 171, 172, 173, 174], [], [], [], [0, 1, 2]⟩, ⟨[166, 167, 169, 171, 172, 173], [], [], [], [0, 1, 2]⟩, ⟨[166, 167, 168, 171, 172, 173], [], [], [], [0, 1, 2]⟩, ⟨[166, 167, 171, 172, 173], [], [], [], [0, 1, 2, 5, 6]⟩, ⟨[166, 167, 168, 169, 170], [], [], [], [0, 1, 2]⟩, ⟨[166, 167, 168, 169, 170], [], [], [], [0, 1, 2, 8]⟩, ⟨[166, 167, 168, 169, 170], [], [], [], [0, 1, 2, 8, 9]⟩, ⟨[166, 167], [], [], [], [0, 1, 2, 5, 6, 7, 8, 9, 10]⟩, ⟨[166], [], [], [], [0, 1, 2, 4, 5, 6, 7, 8, 9, 10, 11]⟩, ⟨[], [], [], [], [0, 1, 2, 3, 4, 5, 6, 7, 8, 9, 10, 11, 12]⟩, ⟨[], [], [], [], [0, 1, 2, 3, 4, 5, 6, 7, 8, 9, 10, 11, 12, 13]⟩] (by kernel_rfl) (by kernel_rfl) ?_
          refine DRQ.v rfl rfl rfl (o_move rfl) ?_
          refine DRQ.v rfl rfl rfl (o_lss rfl rfl) ?_
          refine DRQ.v rfl rfl rfl (o_move rfl) ?_
          refine DRQ.gv 22 rfl rfl (.plain rfl (by first | (simp; done) | simp only [Bool.not_eq_true']) rfl) rfl (fun hb => o_move rfl) ?_
          refine DRQ.gv 22 rfl rfl (.plain rfl (by first | (simp; done) | simp only [Bool.not_eq_true']) rfl) rfl (fun hb => o_ldpa G33 rfl rfl rfl) ?_
          refine DRQ.gv 22 rfl rfl (.plain rfl (by first | (simp; done) | simp only [Bool.not_eq_true']) rfl) rfl (fun hb => o_move rfl) ?_
          refine DRQ.gv 22 rfl rfl (.plain rfl (by first | (simp; done) | simp only [Bool.not_eq_true']) rfl) rfl (fun hb => o_move rfl) ?_
          refine DRQ.gv 22 rfl rfl (.plain rfl (by first | (simp; done) | simp only [Bool.not_eq_true']) rfl) rfl (fun hb => o_add rfl rfl (by omega) (by omega)) ?_
          refine DRQ.gv 22 rfl rfl (.plain rfl (by first | (simp; done) | simp only [Bool.not_eq_true']) rfl) rfl (fun hb => o_fldp F33_4 rfl) ?_
          refine DRQ.gv 22 rfl rfl (.plain rfl (by first | (simp; done) | simp only [Bool.not_eq_true']) rfl) rfl (fun hb => o_ldp S31 rfl rfl rfl) ?_
          refine DRQ.gv 22 rfl rfl (.plain rfl (by first | (simp; done) | simp only [Bool.not_eq_true']) rfl) rfl (fun hb => o_lenq L31 rfl (lx rfl)) ?_
          refine DRQ.gv 22 rfl rfl (.plain rfl (by first | (simp; done) | simp only [Bool.not_eq_true']) rfl) rfl (fun hb => o_rem rfl rfl (by omega) (by omega)) ?_
          refine DRQ.gv 22 rfl rfl (.plain rfl (by first | (simp; done) | simp only [Bool.not_eq_true']) rfl) rfl (fun hb => o_sig 23 (ren [(0, 0), (1, 1), (2, 2), (3, 3), (4, 4), (5, 5), (6, 6), (7, 7), (8, 8)]) (c59 b (((k : Int) + f) % (b.tals.length : Int)) hm) e59 rfl rfl rfl w59 ⟨(lx rfl), (lx rfl), (lx rfl), (lx rfl), (lx rfl), (lx rfl), (lx rfl), (lx rfl), (lx rfl), trivial⟩ r59) ?_
          refine DRQ.gv 22 rfl rfl (.plain rfl (by first | (simp; done) | simp only [Bool.not_eq_true']) rfl) rfl (fun hb => o_neq rfl rfl) ?_
          refine DRQ.v rfl rfl rfl (o_or rfl rfl rfl (by first | (simp; done) | exact fun h => by rw [h]; rfl | exact fun h => Bool.and_eq_true_iff.2 ⟨hb, by rw [h]; rfl⟩ | simp_all)) ?_
          refine DRQ.nil' ?_
          refine EX.then ?_
          refine WP.cond rfl (fun hc7 => ?_) (fun hc7 => ?_)
          · try simp only [cnd] at hc7
            exfalso
            rcases hc7 with h | h
            · omega
            · exact h hli.2
          · try simp only [cnd] at hc7
            refine WP.skip (EX.blk (EX.then (WP.region ?_)))
            refine WPl.v rfl (o_move rfl) ?_
            refine WPl.v rfl (o_add rfl rfl (by first | omega | (simp; omega)) (by first | omega | (simp; omega))) ?_
            refine WPl.v rfl (o_assign rfl) ?_
            refine WPl.nil ?_
            refine EX.again (k + 1) id (by first | omega | (constructor <;> omega)) (by omega) (LeR.of ⟨rfl, rfl, rfl, rfl, rfl, trivial⟩ ⟨(lx rfl), (lx rfl), (lx rfl), (lx rfl), (lx rfl), (lx rfl), (lx rfl), (lx rfl), (lx rfl), (lx rfl), (lx rfl), (lx rfl), (lx rfl), (lx rfl), (lx rfl), trivial⟩ ⟨rfl, rfl, rfl, rfl, trivial⟩ rfl rfl rfl rfl rfl)
        · try simp only [cnd] at hc6
          refine WP.exit (EX.exit_then (EX.exit_then (EX.exit_blk (EX.then (WP.seq (WP.region ?_))))))
          refine WPl.cs 22 rfl rfl rfl rfl (o_sig 22 (ren [(0, 8)]) c19 e19 rfl rfl rfl w19 ⟨(lx rfl), trivial⟩ r19) ?_
          refine WPl.v rfl (o_assign rfl) ?_
          refine WPl.nil (EX.then (WP.ret ?_))
          exact EX.fin id (.inl rfl) rfl (.tmp rfl .nil) rfl r12 trivial (by simp) (by simp)
end Go.Flong
