/- Part 5 of the texts behind the claim: GCTW13 EngTi GCTS1 GCTS5 GCLT1 TL1 TL2 TL3 TL4 TL5. -/
import Derived.Test.YtapgiededfphfaaGreatDoorVC4
set_option linter.unusedSimpArgs false
set_option linter.unusedVariables false
namespace Go.Flong
open Go Go.Eng Go.Proofs
theorem Z60 : Zero Tryz.prog 60 [ai (0), ai (0)] := .mk Tryz.zeroValue60 rfl rfl
theorem B60 : BldT Tryz.prog 60 [(0, 1), (1, 1)] [.int .i64 0, .int .i64 0] := BldT.mk (ns := [1, 1]) Tryz.underlying60 ⟨Tryz.sizeOf3, Tryz.sizeOf3, trivial⟩ rfl Tryz.zeroValue60 rfl
theorem G60 : TyG Tryz.prog 60 2 := ⟨Tryz.isAgg60, Tryz.sizeOf60⟩
theorem F60_0 : Fld Tryz.prog 60 0 0 := .mk Tryz.underlying60 rfl rfl rfl Tryz.sizeOf3 rfl
theorem F60_1 : Fld Tryz.prog 60 1 1 := .mk Tryz.underlying60 rfl rfl rfl Tryz.sizeOf3 rfl
theorem R30 : RowT Tryz.prog 30 77 3 24 [.int .i64 0, .int .i64 0, .int .i64 0] := ⟨Tryz.underlying30, ⟨Tryz.t77, _, by kernel_rfl, rfl, rfl, rfl, rfl⟩, rfl, by decide⟩
theorem S99 : TyS Tryz.prog 99 := ⟨Tryz.isAgg99, Tryz.sizeOf99⟩
theorem e84 : Enters' Tryz.prog 84 := Tryz.call84
theorem Z99 : Zero Tryz.prog 99 [.v (.pointer none)] := .mk Tryz.zeroValue99 rfl rfl
theorem e82 : Enters' Tryz.prog 82 := Tryz.call82
theorem w37 {b : Book} {n : Int} : ∀ x ∈ ([.e (.g [.q 0, .q 1, .q 2, ai (b.hall.change), .q 3, .q 4, .q 5, .q 6, ai (b.boys), .q 7]), .i (n)] : List SV), x.res (keys (α := Pred) [(0, PL ETm (b.hall.machs)), (1, PL EBd (b.hall.buns)), (2, PL EP.int (b.hall.trains)), (3, PL EP.int (b.hall.bores)), (4, PL (EP.sl EP.int) (b.hall.eds)), (5, PL EPl (b.set)), (6, PL EP.int (b.walk)), (7, PL ETa (b.tals)), (8, (Pred.tab 1 tz64))]) := by simp [SV.res, El.res, At.res, keys]
theorem r37 {b : Book} {n : Int} : SV.res (keys (α := Pred) []) (.t [.g [ai ((plV b n).1), ai ((plV b n).2)], .a (ai (plE b n))]) := by simp [SV.res, El.res, At.res, keys]
set_option maxHeartbeats 4000000 in
theorem c37 (b : Book) (n : Int) (hm : b.Small) : Sig Tryz.prog 37 [.e (.g [.q 0, .q 1, .q 2, ai (b.hall.change), .q 3, .q 4, .q 5, .q 6, ai (b.boys), .q 7]), .i (n)] [(0, PL ETm (b.hall.machs)), (1, PL EBd (b.hall.buns)), (2, PL EP.int (b.hall.trains)), (3, PL EP.int (b.hall.bores)), (4, PL (EP.sl EP.int) (b.hall.eds)), (5, PL EPl (b.set)), (6, PL EP.int (b.walk)), (7, PL ETa (b.tals)), (8, (Pred.tab 1 tz64))] (.t [.g [ai ((plV b n).1), ai ((plV b n).2)], .a (ai (plE b n))]) [] := by
  by_cases hf : plE b n = 0
  · have hcv := (askE_eq.1 hf).1; have hB := bookB hcv; have hsl := stS_len hB.t; have hst := stS_lt hB.t; have hdm := stS_dom hB.t; have hpo := (pow_ok hB.t).2.2.2.2; have ht8 := hB.t; have hrv := (askE_eq.1 hf).2
    refine Sig.intro Tryz.func37 rfl 9 [(0, .e (.g [.q 0, .q 1, .q 2, ai (b.hall.change), .q 3, .q 4, .q 5, .q 6, ai (b.boys), .q 7])), (1, .i (n))] rfl w37 rfl rfl fun I w => ?_
    refine WP.seq (WP.region ?_)
    refine WPl.l 9 10 rfl rfl rfl (o_boxg rfl) ?_
    refine WPl.l 10 11 rfl rfl rfl (o_alloc Z60) ?_
    refine WPl.v rfl (o_assign rfl) ?_
    refine WPl.nil (EX.then (WP.seq ?_))
    refine WP.draw (nf := 12) [⟨[16, 17], [], [], [], []⟩, ⟨[15], [], [], [], []⟩, ⟨[15], [], [], [], [1]⟩, ⟨[], [], [11], [11], [0, 1, 2]⟩, ⟨[], [], [], [], [0, 1, 2, 3]⟩, ⟨[20], [], [], [], [0, 1, 2, 3, 4]⟩, ⟨[19, 6], [], [], [], [0, 1, 2, 3, 4]⟩, ⟨[20], [], [], [], [0, 1, 2, 3, 4, 5]⟩, ⟨[], [], [], [], [0, 1, 2, 3, 4, 5, 6, 7]⟩] (by kernel_rfl) (by kernel_rfl) ?_
    refine DRQ.v rfl rfl rfl (o_ldpa G33 rfl rfl rfl) ?_
    refine DRQ.v rfl rfl rfl (o_move rfl) ?_
    refine DRQ.cs rfl rfl rfl rfl (o_sig 11 id (c103 n) e103 rfl rfl rfl w103 trivial r103) ?_
    refine DRQ.cs rfl rfl rfl rfl (o_sig 11 (ren [(0, 0), (1, 1), (2, 2), (3, 3), (4, 4), (5, 5), (6, 6), (7, 7), (8, 8)]) (c77 b (within n 0 3) hm hcv hrv) e77 rfl rfl rfl w77 ⟨(lx rfl), (lx rfl), (lx rfl), (lx rfl), (lx rfl), (lx rfl), (lx rfl), (lx rfl), (lx rfl), trivial⟩ r77) ?_
    refine DRQ.v rfl rfl rfl (o_move rfl) ?_
    refine DRQ.v rfl rfl rfl (o_extract rfl rfl) ?_
    refine DRQ.v rfl rfl rfl (o_extract rfl rfl) ?_
    refine DRQ.v rfl rfl rfl (o_assign rfl) ?_
    refine DRQ.v rfl rfl rfl (o_assign rfl) ?_
    refine DRQ.nil' ?_
    refine EX.then (WP.seq (WP.seq (WP.region ?_)))
    refine WPl.v rfl (o_move rfl) ?_
    refine WPl.v rfl (o_neq rfl rfl) ?_
    refine WPl.nil (EX.then ?_)
    refine WP.cond rfl (fun hc1 => ?_) (fun hc1 => ?_)
    · try simp only [cnd] at hc1
      simp at hc1
    · try simp only [cnd] at hc1
      refine WP.skip (EX.then (WP.seq (WP.region ?_)))
      refine WPl.v rfl (o_move rfl) ?_
      refine WPl.v rfl (o_nilq rfl (lx rfl)) ?_
      refine WPl.v rfl (o_fldq F109_0 rfl (lx rfl)) ?_
      refine WPl.v rfl (o_flde F33_4 rfl (lx rfl)) ?_
      refine WPl.x 12 13 rfl rfl rfl (o_ldex S31 rfl (lx rfl) (strS rfl)) ?_
      refine WPl.v rfl (o_lenq L31 rfl (lx rfl)) ?_
      refine WPl.v rfl (o_build B60 rfl ⟨rfl, trivial⟩ rfl rfl) ?_
      refine WPl.l 13 14 rfl rfl rfl (o_alloc Z60) ?_
      refine WPl.s1 (o_stag G60 rfl rfl rfl ⟨rfl, rfl, trivial⟩ rfl rfl) ?_
      refine WPl.nil (EX.then (WP.seq (WP.seq (WP.region ?_))))
      refine WPl.v rfl (o_move rfl) ?_
      refine WPl.v rfl (o_nilq rfl (lx rfl)) ?_
      refine WPl.v rfl (o_fldq F109_1 rfl (lx rfl)) ?_
      refine WPl.x 14 15 rfl rfl rfl (o_ldex S107 rfl (lx rfl) (strS rfl)) ?_
      refine WPl.v rfl (o_lenq L107 rfl (lx rfl)) ?_
      refine WPl.v rfl (o_move rfl) ?_
      refine WPl.nil (EX.then (WP.block ?_))
      refine WP.loop (Gh := Nat) (fun i => ⟨15, [(1, .i (n)), (4, .e (.a (.p 10 (0)))), (5, .i (0)), (6, .e (.a (.q 11))), (8, .e (.a (.p 13 (0)))), (35, .e (.a (.q 14))), (36, .i (((((⟨b, stS b⟩ : BookS)).sts).length : Int))), (37, .i ((i : Int)))], [(8, (Pred.tab 1 tz64)), (11, PP EBs ((⟨b, stS b⟩ : BookS))), (14, PL EP.u64 (((⟨b, stS b⟩ : BookS)).sts))], [(10, .blk [ai (0), ai (0)] 60), (13, .blk [ai ((plTo b n i).1), ai ((plTo b n i).2)] 60)], [], []⟩) (fun i => i ≤ (stS b).length) (fun i => (stS b).length - i) (0) id ?_ (LeR.of ⟨rfl, rfl, rfl, rfl, rfl, rfl, rfl, rfl, trivial⟩ ⟨(lx rfl), (lx rfl), (lx rfl), trivial⟩ ⟨rfl, (congrArg (fun z => some (Ent.blk z 60)) (List.cons_eq_cons.2 ⟨(congrArg (fun z => ai z) (show (((((⟨b, stS b⟩ : BookS)).bk.tals).length : Int)) = ((fun i => (plTo b n i).1) 0) from rfl)), (List.cons_eq_cons.2 ⟨(congrArg (fun z => ai z) (show (0) = ((fun i => (plTo b n i).2) 0) from rfl)), (Eq.refl [])⟩)⟩)), trivial⟩ rfl rfl rfl rfl rfl) ?_
      · first | trivial | omega | (constructor <;> omega) | simp
      intro i hφ
      have hi : i ≤ (stS b).length := hφ
      refine WP.seq (WP.region ?_)
      refine WPl.v rfl (o_lss rfl rfl) ?_
      refine WPl.nil (EX.then (WP.seq ?_))
      refine WP.cond rfl (fun hc2 => ?_) (fun hc2 => ?_)
      · try simp only [cnd] at hc2
        refine WP.skip (EX.then (WP.seq (WP.block (WP.seq (WP.region ?_)))))
        refine WPl.x 15 16 rfl rfl rfl (o_idx L107 rfl (lx rfl) rfl (by first | omega | (simp; omega)) (by first | omega | (simp; omega))) ?_
        refine WPl.v rfl (o_ldq S105 rfl (lx rfl) u64c) ?_
        refine WPl.v rfl (o_assign rfl) ?_
        refine WPl.nil (EX.then (WP.seq (WP.region ?_)))
        refine WPl.v rfl (o_assign rfl) ?_
        refine WPl.nil (EX.then (WP.seq (WP.seq (WP.region ?_))))
        refine WPl.v rfl (o_move rfl) ?_
        refine WPl.v rfl (o_nilq rfl (lx rfl)) ?_
        refine WPl.v rfl (o_fldq F109_0 rfl (lx rfl)) ?_
        refine WPl.v rfl (o_flde F33_4 rfl (lx rfl)) ?_
        refine WPl.x 16 17 rfl rfl rfl (o_ldex S31 rfl (lx rfl) (strS rfl)) ?_
        refine WPl.v rfl (o_lenq L31 rfl (lx rfl)) ?_
        refine WPl.v rfl (o_move rfl) ?_
        refine WPl.nil (EX.then (WP.block ?_))
        refine WP.loop (Gh := Nat) (fun j => ⟨17, [(1, .i (n)), (4, .e (.a (.p 10 (0)))), (5, .i (0)), (6, .e (.a (.q 11))), (8, .e (.a (.p 13 (0)))), (35, .e (.a (.q 14))), (36, .i (((((⟨b, stS b⟩ : BookS)).sts).length : Int))), (37, .i ((i : Int))), (38, .b (decide ((i : Int) < ((((⟨b, stS b⟩ : BookS)).sts).length : Int)))), (39, .e (.a (.q 15))), (40, .e (.a (.v (.int .u64 (((nth (((⟨b, stS b⟩ : BookS)).sts) (i : Int)) : Nat) : Int))))), (10, .e (.a (.v (.int .u64 (((nth (((⟨b, stS b⟩ : BookS)).sts) (i : Int)) : Nat) : Int))))), (11, .i (pgTo b n (nth (stS b) (i : Int)) j)), (41, .e (.a (.q 11))), (42, .e (.a (.q 11))), (43, .e (.a (.e 11 (0)))), (44, .e (.a (.e 11 (9)))), (45, .e (.a (.q 16))), (46, .i (((((⟨b, stS b⟩ : BookS)).bk.tals).length : Int))), (47, .i ((j : Int)))], [(8, (Pred.tab 1 tz64)), (11, PP EBs ((⟨b, stS b⟩ : BookS))), (14, PL EP.u64 (((⟨b, stS b⟩ : BookS)).sts)), (15, PP EP.u64 (nth (((⟨b, stS b⟩ : BookS)).sts) (i : Int))), (16, PL ETa (((⟨b, stS b⟩ : BookS)).bk.tals))], [(10, .blk [ai (0), ai (0)] 60), (13, .blk [ai ((plTo b n i).1), ai ((plTo b n i).2)] 60)], [], []⟩) (fun j => j ≤ b.tals.length) (fun j => b.tals.length - j) (0) id ?_ (LeR.of ⟨rfl, rfl, rfl, rfl, rfl, rfl, rfl, rfl, rfl, rfl, rfl, rfl, (congrArg (fun z => some (SV.i z)) (show (0) = ((fun j => pgTo b n (nth (stS b) (i : Int)) j) 0) from rfl)), rfl, rfl, rfl, rfl, rfl, rfl, rfl, trivial⟩ ⟨(lx rfl), (lx rfl), (lx rfl), (lx rfl), (lx rfl), trivial⟩ ⟨rfl, rfl, trivial⟩ rfl rfl rfl rfl rfl) ?_
        · first | trivial | omega | (constructor <;> omega) | simp
        intro j hφ
        have hj : j ≤ b.tals.length := hφ
        have hpb := pgTo_bnd b n (nth (stS b) (i : Int)) j
        refine WP.seq (WP.region ?_)
        refine WPl.v rfl (o_lss rfl rfl) ?_
        refine WPl.nil (EX.then (WP.seq ?_))
        refine WP.cond rfl (fun hc3 => ?_) (fun hc3 => ?_)
        · try simp only [cnd] at hc3
          refine WP.skip (EX.then (WP.seq (WP.block (WP.seq (WP.region ?_)))))
          refine WPl.v rfl (o_move rfl) ?_
          refine WPl.x 17 18 rfl rfl rfl (o_idx L31 rfl (lx rfl) rfl (by first | omega | (simp; omega)) (by first | omega | (simp; omega))) ?_
          refine WPl.v rfl (o_ldqg G58 rfl (lx rfl) (strG rfl) rfl rfl) ?_
          refine WPl.l 18 19 rfl rfl rfl (o_alloc Z58) ?_
          refine WPl.v rfl (o_assign rfl) ?_
          refine WPl.s1 (o_stag G58 rfl rfl rfl ⟨rfl, rfl, rfl, rfl, trivial⟩ rfl rfl) ?_
          refine WPl.nil (EX.then (WP.seq (WP.region ?_)))
          refine WPl.v rfl (o_fldp F58_1 rfl) ?_
          refine WPl.v rfl (o_ldp S3 rfl rfl rfl) ?_
          refine WPl.v rfl (o_move rfl) ?_
          refine WPl.v rfl (o_eql rfl rfl) ?_
          refine WPl.v rfl (o_move rfl) ?_
          refine WPl.bit 19 20 (decide (((nth (((⟨b, stS b⟩ : BookS)).bk.tals) (j : Int)).page) = n)) rfl rfl ?_
          refine WPl.gv 19 rfl rfl (.plain rfl Iff.rfl rfl) (fun hb => o_move rfl) ?_
          refine WPl.gv 19 rfl rfl (.plain rfl Iff.rfl rfl) (fun hb => o_move rfl) ?_
          refine WPl.gc0 19 rfl rfl (.plain rfl Iff.rfl rfl) (fun hb => o_sig 20 id (c85 (nth (stS b) (i : Int)) (j : Int) (hst i (by omega)) (by omega) (by omega)) e85 rfl rfl rfl w85 trivial r85) ?_
          refine WPl.gv 19 rfl rfl (.plain rfl Iff.rfl rfl) (fun hb => o_not rfl) ?_
          refine WPl.v rfl (o_and rfl rfl rfl id) ?_
          refine WPl.nil (EX.then ?_)
          refine WP.cond rfl (fun hc4 => ?_) (fun hc4 => ?_)
          · try simp only [cnd] at hc4
            refine WP.region ?_
            refine WPl.v rfl (o_move rfl) ?_
            refine WPl.v rfl (o_add rfl rfl (by first | omega | (simp; omega)) (by first | omega | (simp; omega))) ?_
            refine WPl.v rfl (o_assign rfl) ?_
            refine WPl.nil (EX.blk (EX.then (WP.region ?_)))
            refine WPl.v rfl (o_add rfl rfl (by first | omega | (simp; omega)) (by first | omega | (simp; omega))) ?_
            refine WPl.v rfl (o_move rfl) ?_
            refine WPl.nil ?_
            refine EX.again (j + 1) id (by first | omega | (constructor <;> omega)) (by omega) (LeR.of ⟨rfl, rfl, rfl, rfl, rfl, rfl, rfl, rfl, rfl, rfl, rfl, rfl, (congrArg (fun z => some (SV.i z)) (show ((pgTo b n (nth (stS b) (i : Int)) j) + 1) = ((fun j => pgTo b n (nth (stS b) (i : Int)) j) (j + 1)) from by dsimp only; simp only [pgTo]; rw [if_pos (by unfold pgAt; simpa using hc4)])), rfl, rfl, rfl, rfl, rfl, rfl, rfl, trivial⟩ ⟨(lx rfl), (lx rfl), (lx rfl), (lx rfl), (lx rfl), trivial⟩ ⟨rfl, rfl, trivial⟩ rfl rfl rfl rfl rfl)
          · try simp only [cnd] at hc4
            refine WP.skip (EX.blk (EX.then (WP.region ?_)))
            refine WPl.v rfl (o_add rfl rfl (by first | omega | (simp; omega)) (by first | omega | (simp; omega))) ?_
            refine WPl.v rfl (o_move rfl) ?_
            refine WPl.nil ?_
            refine EX.again (j + 1) id (by first | omega | (constructor <;> omega)) (by omega) (LeR.of ⟨rfl, rfl, rfl, rfl, rfl, rfl, rfl, rfl, rfl, rfl, rfl, rfl, (congrArg (fun z => some (SV.i z)) (show (pgTo b n (nth (stS b) (i : Int)) j) = ((fun j => pgTo b n (nth (stS b) (i : Int)) j) (j + 1)) from by dsimp only; simp only [pgTo]; rw [if_neg (by unfold pgAt; rcases hc4 with h | h; (simp [h]); (rw [Int.toNat_natCast] at h; simp [h]))])), rfl, rfl, rfl, rfl, rfl, rfl, rfl, trivial⟩ ⟨(lx rfl), (lx rfl), (lx rfl), (lx rfl), (lx rfl), trivial⟩ ⟨rfl, rfl, trivial⟩ rfl rfl rfl rfl rfl)
        · try simp only [cnd] at hc3
          refine WP.exit (EX.exit_then (EX.exit_then (EX.exit_blk (EX.then (WP.region ?_)))))
          refine WPl.v rfl (o_fldp F60_0 rfl) ?_
          refine WPl.v rfl (o_ldp S3 rfl rfl rfl) ?_
          refine WPl.v rfl (o_move rfl) ?_
          refine WPl.v rfl (o_min rfl rfl) ?_
          refine WPl.v rfl (o_fldp F60_1 rfl) ?_
          refine WPl.v rfl (o_ldp S3 rfl rfl rfl) ?_
          refine WPl.v rfl (o_move rfl) ?_
          refine WPl.v rfl (o_max rfl rfl) ?_
          refine WPl.v rfl (o_build B60 rfl ⟨rfl, rfl, trivial⟩ rfl rfl) ?_
          refine WPl.s1 (o_stag G60 rfl rfl rfl ⟨rfl, rfl, trivial⟩ rfl rfl) ?_
          refine WPl.nil (EX.blk (EX.then (WP.region ?_)))
          refine WPl.v rfl (o_add rfl rfl (by first | omega | (simp; omega)) (by first | omega | (simp; omega))) ?_
          refine WPl.v rfl (o_move rfl) ?_
          refine WPl.nil ?_
          have hje : j = b.tals.length := by omega
          refine EX.again (i + 1) id (by first | omega | (constructor <;> omega)) (by omega) (LeR.of ⟨rfl, rfl, rfl, rfl, rfl, rfl, rfl, rfl, trivial⟩ ⟨(lx rfl), (lx rfl), (lx rfl), trivial⟩ ⟨rfl, (congrArg (fun z => some (Ent.blk z 60)) (List.cons_eq_cons.2 ⟨(congrArg (fun z => ai z) (show (min ((plTo b n i).1) (pgTo b n (nth (stS b) (i : Int)) j)) = ((fun i => (plTo b n i).1) (i + 1)) from by rw [hje]; rfl)), (List.cons_eq_cons.2 ⟨(congrArg (fun z => ai z) (show (max ((plTo b n i).2) (pgTo b n (nth (stS b) (i : Int)) j)) = ((fun i => (plTo b n i).2) (i + 1)) from by rw [hje]; rfl)), (Eq.refl [])⟩)⟩)), trivial⟩ rfl rfl rfl rfl rfl)
      · try simp only [cnd] at hc2
        refine WP.exit (EX.exit_then (EX.exit_then (EX.exit_blk (EX.then (WP.seq (WP.region ?_))))))
        refine WPl.v rfl (o_ldpa G60 rfl rfl rfl) ?_
        refine WPl.s1 (o_stag G60 rfl rfl rfl ⟨rfl, rfl, trivial⟩ rfl rfl) ?_
        refine WPl.v rfl (o_assign rfl) ?_
        refine WPl.nil (EX.then (WP.ret ?_))
        have hie : i = (stS b).length := by omega
        subst hie
        rw [hf, show plV b n = plTo b n (stS b).length from if_pos hf]
        exact EX.fin id (.inl rfl) rfl (.cellg G60 rfl rfl rfl (.tmp rfl .nil)) rfl (by simp [SV.res, El.res, At.res, keys]) trivial (by simp) (by simp)
  · skip
    refine Sig.intro Tryz.func37 rfl 9 [(0, .e (.g [.q 0, .q 1, .q 2, ai (b.hall.change), .q 3, .q 4, .q 5, .q 6, ai (b.boys), .q 7])), (1, .i (n))] rfl w37 rfl rfl fun I w => ?_
    refine WP.seq (WP.region ?_)
    refine WPl.l 9 10 rfl rfl rfl (o_boxg rfl) ?_
    refine WPl.l 10 11 rfl rfl rfl (o_alloc Z60) ?_
    refine WPl.v rfl (o_assign rfl) ?_
    refine WPl.nil (EX.then (WP.seq ?_))
    refine WP.draw (nf := 11) [⟨[16, 17], [], [], [], []⟩, ⟨[15], [], [], [], []⟩, ⟨[15], [], [], [], [1]⟩, ⟨[], [], [], [], [0, 1, 2]⟩, ⟨[], [], [], [], [0, 1, 2, 3]⟩, ⟨[20], [], [], [], [0, 1, 2, 3, 4]⟩, ⟨[19, 6], [], [], [], [0, 1, 2, 3, 4]⟩, ⟨[20], [], [], [], [0, 1, 2, 3, 4, 5]⟩, ⟨[], [], [], [], [0, 1, 2, 3, 4, 5, 6, 7]⟩] (by kernel_rfl) (by kernel_rfl) ?_
    refine DRQ.v rfl rfl rfl (o_ldpa G33 rfl rfl rfl) ?_
    refine DRQ.v rfl rfl rfl (o_move rfl) ?_
    refine DRQ.cs rfl rfl rfl rfl (o_sig 11 id (c103 n) e103 rfl rfl rfl w103 trivial r103) ?_
    refine DRQ.cs rfl rfl rfl rfl (o_sig 11 (ren [(0, 0), (1, 1), (2, 2), (3, 3), (4, 4), (5, 5), (6, 6), (7, 7)]) (c77E b (within n 0 3) hm hf) e77 rfl rfl rfl w77E ⟨(lx rfl), (lx rfl), (lx rfl), (lx rfl), (lx rfl), (lx rfl), (lx rfl), (lx rfl), trivial⟩ r77E) ?_
    refine DRQ.v rfl rfl rfl (o_move rfl) ?_
    refine DRQ.v rfl rfl rfl (o_extract rfl rfl) ?_
    refine DRQ.v rfl rfl rfl (o_extract rfl rfl) ?_
    refine DRQ.v rfl rfl rfl (o_assign rfl) ?_
    refine DRQ.v rfl rfl rfl (o_assign rfl) ?_
    refine DRQ.nil' ?_
    refine EX.then (WP.seq (WP.seq (WP.region ?_)))
    refine WPl.v rfl (o_move rfl) ?_
    refine WPl.v rfl (o_neq rfl rfl) ?_
    refine WPl.nil (EX.then ?_)
    refine WP.cond rfl (fun hc1 => ?_) (fun hc1 => ?_)
    · try simp only [cnd] at hc1
      refine WP.seq (WP.region ?_)
      refine WPl.v rfl (o_build B60 rfl trivial rfl rfl) ?_
      refine WPl.v rfl (o_move rfl) ?_
      refine WPl.s1 (o_stag G60 rfl rfl rfl ⟨rfl, rfl, trivial⟩ rfl rfl) ?_
      refine WPl.v rfl (o_assign rfl) ?_
      refine WPl.nil (EX.then (WP.ret (EX.ret_then ?_)))
      rw [show plV b n = (0, 0) from if_neg hf, show plE b n = askE b (within n 0 3) from rfl]
      exact EX.fin id (.inl rfl) rfl (.cellg G60 rfl rfl rfl (.tmp rfl .nil)) rfl (by simp [SV.res, El.res, At.res, keys]) trivial (by simp) (by simp)
    · try simp only [cnd] at hc1
      exact absurd hc1 hf
theorem w30 {b : Book} : ∀ x ∈ ([.e (.g [.q 0, .q 1, .q 2, ai (b.hall.change), .q 3, .q 4, .q 5, .q 6, ai (b.boys), .q 7])] : List SV), x.res (keys (α := Pred) [(0, PL ETm (b.hall.machs)), (1, PL EBd (b.hall.buns)), (2, PL EP.int (b.hall.trains)), (3, PL EP.int (b.hall.bores)), (4, PL (EP.sl EP.int) (b.hall.eds)), (5, PL EPl (b.set)), (6, PL EP.int (b.walk)), (7, PL ETa (b.tals)), (8, (Pred.tab 1 tz64))]) := by simp [SV.res, El.res, At.res, keys]
theorem r30 {b : Book} : SV.res (keys (α := Pred) [(0, PL EPl (lfV b))]) (.t [.a (.q 0), .a (ai (askE b true))]) := by simp [SV.res, El.res, At.res, keys]
set_option maxHeartbeats 4000000 in
theorem c30 (b : Book) (hm : b.Small) : Sig Tryz.prog 30 [.e (.g [.q 0, .q 1, .q 2, ai (b.hall.change), .q 3, .q 4, .q 5, .q 6, ai (b.boys), .q 7])] [(0, PL ETm (b.hall.machs)), (1, PL EBd (b.hall.buns)), (2, PL EP.int (b.hall.trains)), (3, PL EP.int (b.hall.bores)), (4, PL (EP.sl EP.int) (b.hall.eds)), (5, PL EPl (b.set)), (6, PL EP.int (b.walk)), (7, PL ETa (b.tals)), (8, (Pred.tab 1 tz64))] (.t [.a (.q 0), .a (ai (askE b true))]) [(0, PL EPl (lfV b))] := by
  have hm1 := hm.h.m
  have hm2 := hm.h.b
  have hm3 := hm.h.t
  have hm4 := hm.h.o
  have hm5 := hm.h.e
  have hm6 := hm.s
  have hm7 := hm.w
  have hm8 := hm.t
  by_cases hf : askE b true = 0
  · have hcv := (askE_eq.1 hf).1; have hB := bookB hcv; have hsl := stS_len hB.t; have hst := stS_lt hB.t; have hdm := stS_dom hB.t; have hpo := (pow_ok hB.t).2.2.2.2; have ht8 := hB.t
    refine Sig.intro Tryz.func30 rfl 9 [(0, .e (.g [.q 0, .q 1, .q 2, ai (b.hall.change), .q 3, .q 4, .q 5, .q 6, ai (b.boys), .q 7]))] rfl w30 rfl rfl fun I w => ?_
    refine WP.seq (WP.region ?_)
    refine WPl.l 9 10 rfl rfl rfl (o_boxg rfl) ?_
    refine WPl.v rfl (o_assign rfl) ?_
    refine WPl.v rfl (o_assign rfl) ?_
    refine WPl.nil (EX.then (WP.seq (WP.region ?_)))
    refine WPl.v rfl (o_ldpa G33 rfl rfl rfl) ?_
    refine WPl.cs 11 rfl rfl rfl rfl (o_sig 10 (ren [(0, 0), (1, 1), (2, 2), (3, 3), (4, 4), (5, 5), (6, 6), (7, 7), (8, 8)]) (c77 b true hm hcv rfl) e77 rfl rfl rfl w77 ⟨(lx rfl), (lx rfl), (lx rfl), (lx rfl), (lx rfl), (lx rfl), (lx rfl), (lx rfl), (lx rfl), trivial⟩ r77) ?_
    refine WPl.v rfl (o_move rfl) ?_
    refine WPl.v rfl (o_extract rfl rfl) ?_
    refine WPl.v rfl (o_extract rfl rfl) ?_
    refine WPl.v rfl (o_assign rfl) ?_
    refine WPl.v rfl (o_assign rfl) ?_
    refine WPl.nil (EX.then (WP.seq (WP.seq (WP.region ?_))))
    refine WPl.v rfl (o_move rfl) ?_
    refine WPl.v rfl (o_neq rfl rfl) ?_
    refine WPl.nil (EX.then ?_)
    refine WP.cond rfl (fun hc1 => ?_) (fun hc1 => ?_)
    · try simp only [cnd] at hc1
      simp at hc1
    · try simp only [cnd] at hc1
      refine WP.skip (EX.then (WP.seq (WP.region ?_)))
      refine WPl.mkmapS true 2 11 12 rfl rfl rfl fun b20 => ?_
      refine WPl.v rfl (o_assign rfl) ?_
      refine WPl.nil (EX.then (WP.seq (WP.seq (WP.region ?_))))
      refine WPl.v rfl (o_move rfl) ?_
      refine WPl.v rfl (o_nilq rfl (lx rfl)) ?_
      refine WPl.v rfl (o_fldq F109_0 rfl (lx rfl)) ?_
      refine WPl.v rfl (o_flde F33_4 rfl (lx rfl)) ?_
      refine WPl.x 12 13 rfl rfl rfl (o_ldex S31 rfl (lx rfl) (strS rfl)) ?_
      refine WPl.v rfl (o_lenq L31 rfl (lx rfl)) ?_
      refine WPl.v rfl (o_move rfl) ?_
      refine WPl.nil (EX.then (WP.block ?_))
      refine WP.loop (Gh := Nat) (fun i => ⟨13, [(2, .e (.a (.v (.slice none 0 0)))), (3, .i (0)), (4, .e (.a (.q 10))), (6, .e (.a (.v (.map (some b20))))), (25, .e (.a (.q 12))), (26, .i (((((⟨b, stS b⟩ : BookS)).bk.tals).length : Int))), (27, .i ((i : Int)))], [(8, (Pred.tab 1 tz64)), (10, PP EBs ((⟨b, stS b⟩ : BookS))), (12, PL ETa (((⟨b, stS b⟩ : BookS)).bk.tals))], [(11, .ext (mapSP true 2 b20 (brTo b (nth (stS b) 0) i)))], [], []⟩) (fun i => i ≤ b.tals.length) (fun i => b.tals.length - i) (0) id ?_ (LeR.of ⟨rfl, rfl, rfl, rfl, rfl, rfl, rfl, trivial⟩ ⟨(lx rfl), (lx rfl), (lx rfl), trivial⟩ ⟨(congrArg (fun z => some (Ent.ext (mapSP true 2 b20 z))) (show ([]) = ((fun i => brTo b (nth (stS b) 0) i) 0) from rfl)), trivial⟩ rfl rfl rfl rfl rfl) ?_
      · first | trivial | omega | (constructor <;> omega) | simp
      intro i hφ
      have hi : i ≤ b.tals.length := hφ
      refine WP.seq (WP.region ?_)
      refine WPl.v rfl (o_lss rfl rfl) ?_
      refine WPl.nil (EX.then (WP.seq ?_))
      refine WP.cond rfl (fun hc2 => ?_) (fun hc2 => ?_)
      · try simp only [cnd] at hc2
        have hai := hB.a (i : Int) (by omega) (by omega)
        have hbr := br_le b (nth (stS b) 0) i (b.key (i : Int))
        refine WP.skip (EX.then (WP.seq (WP.block (WP.seq (WP.region ?_)))))
        refine WPl.v rfl (o_move rfl) ?_
        refine WPl.x 13 14 rfl rfl rfl (o_idx L31 rfl (lx rfl) rfl (by first | omega | (simp; omega)) (by first | omega | (simp; omega))) ?_
        refine WPl.v rfl (o_ldqg G58 rfl (lx rfl) (strG rfl) rfl rfl) ?_
        refine WPl.l 14 15 rfl rfl rfl (o_alloc Z58) ?_
        refine WPl.v rfl (o_assign rfl) ?_
        refine WPl.s1 (o_stag G58 rfl rfl rfl ⟨rfl, rfl, rfl, rfl, trivial⟩ rfl rfl) ?_
        refine WPl.nil (EX.then (WP.seq (WP.region ?_)))
        refine WPl.v rfl (o_move rfl) ?_
        refine WPl.v rfl (o_nilq rfl (lx rfl)) ?_
        refine WPl.v rfl (o_fldq F109_1 rfl (lx rfl)) ?_
        refine WPl.x 15 16 rfl rfl rfl (o_ldex S107 rfl (lx rfl) (strS rfl)) ?_
        refine WPl.x 16 17 rfl rfl rfl (o_idx L107 rfl (lx rfl) rfl (by first | omega | (simp; omega)) (by first | omega | (simp; omega))) ?_
        refine WPl.v rfl (o_ldq S105 rfl (lx rfl) u64c) ?_
        refine WPl.v rfl (o_move rfl) ?_
        refine WPl.cs 17 rfl rfl rfl rfl (o_sig 17 id (c85 (nth (stS b) 0) (i : Int) (hst 0 hsl.1) (by omega) (by omega)) e85 rfl rfl rfl w85 trivial r85) ?_
        refine WPl.v rfl (o_not rfl) ?_
        refine WPl.nil (EX.then ?_)
        refine WP.cond rfl (fun hc3 => ?_) (fun hc3 => ?_)
        · try simp only [cnd] at hc3
          refine WP.tree (S' := ⟨17, [(2, .e (.a (.v (.slice none 0 0)))), (3, .i (0)), (4, .e (.a (.q 10))), (6, .e (.a (.v (.map (some b20))))), (25, .e (.a (.q 12))), (26, .i (((((⟨b, stS b⟩ : BookS)).bk.tals).length : Int))), (27, .i ((i : Int))), (28, .b (decide ((i : Int) < ((((⟨b, stS b⟩ : BookS)).bk.tals).length : Int)))), (29, .i ((i : Int))), (30, .e (.a (.q 13))), (31, .e (.g [ai ((nth (((⟨b, stS b⟩ : BookS)).bk.tals) (i : Int)).boy), ai ((nth (((⟨b, stS b⟩ : BookS)).bk.tals) (i : Int)).page), ai ((nth (((⟨b, stS b⟩ : BookS)).bk.tals) (i : Int)).mach), ai ((nth (((⟨b, stS b⟩ : BookS)).bk.tals) (i : Int)).min)])), (8, .e (.a (.p 14 (0)))), (7, .i ((i : Int))), (32, .e (.a (.q 10))), (33, .e (.a (.q 10))), (34, .e (.a (.e 10 (10)))), (35, .e (.a (.q 15))), (36, .e (.a (.q 16))), (37, .e (.a (.v (.int .u64 (((nth (((⟨b, stS b⟩ : BookS)).sts) 0) : Nat) : Int))))), (38, .i ((i : Int))), (39, .b ((nth (stS b) 0).testBit (i : Int).toNat)), (40, .b (!((nth (stS b) 0).testBit (i : Int).toNat))), (41, .e (.a (.v (.map (some b20))))), (42, .e (.a (.q 10))), (43, .e (.g [ai ((nth (((⟨b, stS b⟩ : BookS)).bk.tals) (i : Int)).boy), ai ((nth (((⟨b, stS b⟩ : BookS)).bk.tals) (i : Int)).page), ai ((nth (((⟨b, stS b⟩ : BookS)).bk.tals) (i : Int)).mach), ai ((nth (((⟨b, stS b⟩ : BookS)).bk.tals) (i : Int)).min)])), (44, .e (.g [ai ((nth b.tals (i : Int)).page), ai (nth b.hall.bores (nth b.tals (i : Int)).mach)])), (45, .i ((mget (brTo b (nth (stS b) 0) i) [(nth b.tals (i : Int)).page, nth b.hall.bores (nth b.tals (i : Int)).mach]).getD 0)), (46, .i (((mget (brTo b (nth (stS b) 0) i) [(nth b.tals (i : Int)).page, nth b.hall.bores (nth b.tals (i : Int)).mach]).getD 0) + 1)), (47, .t [.a (ai ((mget (brTo b (nth (stS b) 0) i) [(nth b.tals (i : Int)).page, nth b.hall.bores (nth b.tals (i : Int)).mach]).getD 0)), .a (ai ((midx (brTo b (nth (stS b) 0) i) [(nth b.tals (i : Int)).page, nth b.hall.bores (nth b.tals (i : Int)).mach] : Int)))]), (48, .i ((midx (brTo b (nth (stS b) 0) i) [(nth b.tals (i : Int)).page, nth b.hall.bores (nth b.tals (i : Int)).mach] : Int)))], [(8, (Pred.tab 1 tz64)), (10, PP EBs ((⟨b, stS b⟩ : BookS))), (12, PL ETa (((⟨b, stS b⟩ : BookS)).bk.tals)), (13, PP ETa (nth (((⟨b, stS b⟩ : BookS)).bk.tals) (i : Int))), (15, PL EP.u64 (((⟨b, stS b⟩ : BookS)).sts)), (16, PP EP.u64 (nth (((⟨b, stS b⟩ : BookS)).sts) 0))], [(11, .ext (mapSP true 2 b20 (mset (brTo b (nth (stS b) 0) i) [(nth b.tals (i : Int)).page, nth b.hall.bores (nth b.tals (i : Int)).mach] (((mget (brTo b (nth (stS b) 0) i) [(nth b.tals (i : Int)).page, nth b.hall.bores (nth b.tals (i : Int)).mach]).getD 0) + 1)))), (14, .blk [ai ((nth (((⟨b, stS b⟩ : BookS)).bk.tals) (i : Int)).boy), ai ((nth (((⟨b, stS b⟩ : BookS)).bk.tals) (i : Int)).page), ai ((nth (((⟨b, stS b⟩ : BookS)).bk.tals) (i : Int)).mach), ai ((nth (((⟨b, stS b⟩ : BookS)).bk.tals) (i : Int)).min)] 58)], [], []⟩) (by kernel_rfl) (fun Q hQ => ?_) ?_
          · skip
            refine AnyS.cut 5 #[true, true, true, true, false, false, false, false, false] ⟨17, [(2, .e (.a (.v (.slice none 0 0)))), (3, .i (0)), (4, .e (.a (.q 10))), (6, .e (.a (.v (.map (some b20))))), (25, .e (.a (.q 12))), (26, .i (((((⟨b, stS b⟩ : BookS)).bk.tals).length : Int))), (27, .i ((i : Int))), (28, .b (decide ((i : Int) < ((((⟨b, stS b⟩ : BookS)).bk.tals).length : Int)))), (29, .i ((i : Int))), (30, .e (.a (.q 13))), (31, .e (.g [ai ((nth (((⟨b, stS b⟩ : BookS)).bk.tals) (i : Int)).boy), ai ((nth (((⟨b, stS b⟩ : BookS)).bk.tals) (i : Int)).page), ai ((nth (((⟨b, stS b⟩ : BookS)).bk.tals) (i : Int)).mach), ai ((nth (((⟨b, stS b⟩ : BookS)).bk.tals) (i : Int)).min)])), (8, .e (.a (.p 14 (0)))), (7, .i ((i : Int))), (32, .e (.a (.q 10))), (33, .e (.a (.q 10))), (34, .e (.a (.e 10 (10)))), (35, .e (.a (.q 15))), (36, .e (.a (.q 16))), (37, .e (.a (.v (.int .u64 (((nth (((⟨b, stS b⟩ : BookS)).sts) 0) : Nat) : Int))))), (38, .i ((i : Int))), (39, .b ((nth (stS b) 0).testBit (i : Int).toNat)), (40, .b (!((nth (stS b) 0).testBit (i : Int).toNat))), (41, .e (.a (.v (.map (some b20))))), (42, .e (.a (.q 10))), (43, .e (.g [ai ((nth (((⟨b, stS b⟩ : BookS)).bk.tals) (i : Int)).boy), ai ((nth (((⟨b, stS b⟩ : BookS)).bk.tals) (i : Int)).page), ai ((nth (((⟨b, stS b⟩ : BookS)).bk.tals) (i : Int)).mach), ai ((nth (((⟨b, stS b⟩ : BookS)).bk.tals) (i : Int)).min)])), (44, .e (.g [ai ((nth b.tals (i : Int)).page), ai (nth b.hall.bores (nth b.tals (i : Int)).mach)]))], [(8, (Pred.tab 1 tz64)), (10, PP EBs ((⟨b, stS b⟩ : BookS))), (12, PL ETa (((⟨b, stS b⟩ : BookS)).bk.tals)), (13, PP ETa (nth (((⟨b, stS b⟩ : BookS)).bk.tals) (i : Int))), (15, PL EP.u64 (((⟨b, stS b⟩ : BookS)).sts)), (16, PP EP.u64 (nth (((⟨b, stS b⟩ : BookS)).sts) 0))], [(11, .ext (mapSP true 2 b20 (brTo b (nth (stS b) 0) i))), (14, .blk [ai ((nth (((⟨b, stS b⟩ : BookS)).bk.tals) (i : Int)).boy), ai ((nth (((⟨b, stS b⟩ : BookS)).bk.tals) (i : Int)).page), ai ((nth (((⟨b, stS b⟩ : BookS)).bk.tals) (i : Int)).mach), ai ((nth (((⟨b, stS b⟩ : BookS)).bk.tals) (i : Int)).min)] 58)], [], []⟩ ?_ fun hcut4 => ?_
            · skip
              refine AnyS.step 4 [6] (by kernel_rfl) ⟨?_, ?_, trivial⟩
              · refine StepS.v rfl rfl (o_lookSv (v := (mget (brTo b (nth (stS b) 0) i) [(nth b.tals (i : Int)).page, nth b.hall.bores (nth b.tals (i : Int)).mach]).getD 0) (km := 11) (a := [(nth b.tals (i : Int)).page, nth b.hall.bores (nth b.tals (i : Int)).mach]) M125 rfl rfl isKey.g rfl rfl rfl) ?_
                refine AnyS.step 5 [6] (by kernel_rfl) ⟨?_, ?_, trivial⟩
                · refine StepS.v rfl rfl (o_add rfl rfl (by unfold Book.key at hbr; omega) (by unfold Book.key at hbr; omega)) ?_
                  refine AnyS.step 6 [] (by kernel_rfl) ⟨?_, trivial⟩
                  refine StepS.vl rfl rfl (o_entry (km := 11) (a := [(nth b.tals (i : Int)).page, nth b.hall.bores (nth b.tals (i : Int)).mach]) M125 rfl rfl isKey.g rfl rfl) ?_
                  refine AnyS.step 7 [] (by kernel_rfl) ⟨?_, trivial⟩
                  refine StepS.v rfl rfl (o_extract rfl rfl) ?_
                  refine AnyS.step 8 [] (by kernel_rfl) ⟨?_, trivial⟩
                  refine StepS.s rfl (o_estore (km := 11) (a := [(nth b.tals (i : Int)).page, nth b.hall.bores (nth b.tals (i : Int)).mach]) (u := (mget (brTo b (nth (stS b) 0) i) [(nth b.tals (i : Int)).page, nth b.hall.bores (nth b.tals (i : Int)).mach]).getD 0) rfl rfl rfl rfl) ?_
                  exact AnyS.done (by kernel_rfl) (EX.sub hQ (AllLk.c rfl (AllLk.c rfl (AllLk.c rfl (AllLk.c rfl (AllLk.c rfl (AllLk.c rfl (AllLk.c rfl (AllLk.c rfl (AllLk.c rfl (AllLk.c rfl (AllLk.c rfl (AllLk.c rfl (AllLk.c rfl (AllLk.c rfl (AllLk.c rfl (AllLk.c rfl (AllLk.c rfl (AllLk.c rfl (AllLk.c rfl (AllLk.c rfl (AllLk.c rfl (AllLk.c rfl (AllLk.c rfl (AllLk.c rfl (AllLk.c rfl (AllLk.c rfl (AllLk.c rfl (AllLk.c rfl (AllLk.c rfl (AllLk.c rfl AllLk.n)))))))))))))))))))))))))))))) (AllLk.c rfl (AllLk.c rfl (AllLk.c rfl (AllLk.c rfl (AllLk.c rfl (AllLk.c rfl AllLk.n)))))) (AllLk.c rfl (AllLk.c rfl AllLk.n)) rfl rfl AllLk.n)
                · refine StepS.vl rfl rfl (o_entry (km := 11) (a := [(nth b.tals (i : Int)).page, nth b.hall.bores (nth b.tals (i : Int)).mach]) M125 rfl rfl isKey.g rfl rfl) ?_
                  refine AnyS.step 5 [7] (by kernel_rfl) ⟨?_, ?_, trivial⟩
                  · refine StepS.v rfl rfl (o_add rfl rfl (by unfold Book.key at hbr; omega) (by unfold Book.key at hbr; omega)) ?_
                    refine AnyS.step 7 [] (by kernel_rfl) ⟨?_, trivial⟩
                    refine StepS.v rfl rfl (o_extract rfl rfl) ?_
                    refine AnyS.step 8 [] (by kernel_rfl) ⟨?_, trivial⟩
                    refine StepS.s rfl (o_estore (km := 11) (a := [(nth b.tals (i : Int)).page, nth b.hall.bores (nth b.tals (i : Int)).mach]) (u := (mget (brTo b (nth (stS b) 0) i) [(nth b.tals (i : Int)).page, nth b.hall.bores (nth b.tals (i : Int)).mach]).getD 0) rfl rfl rfl rfl) ?_
                    exact AnyS.done (by kernel_rfl) (EX.sub hQ (AllLk.c rfl (AllLk.c rfl (AllLk.c rfl (AllLk.c rfl (AllLk.c rfl (AllLk.c rfl (AllLk.c rfl (AllLk.c rfl (AllLk.c rfl (AllLk.c rfl (AllLk.c rfl (AllLk.c rfl (AllLk.c rfl (AllLk.c rfl (AllLk.c rfl (AllLk.c rfl (AllLk.c rfl (AllLk.c rfl (AllLk.c rfl (AllLk.c rfl (AllLk.c rfl (AllLk.c rfl (AllLk.c rfl (AllLk.c rfl (AllLk.c rfl (AllLk.c rfl (AllLk.c rfl (AllLk.c rfl (AllLk.c rfl (AllLk.c rfl AllLk.n)))))))))))))))))))))))))))))) (AllLk.c rfl (AllLk.c rfl (AllLk.c rfl (AllLk.c rfl (AllLk.c rfl (AllLk.c rfl AllLk.n)))))) (AllLk.c rfl (AllLk.c rfl AllLk.n)) rfl rfl AllLk.n)
                  · refine StepS.v rfl rfl (o_extract rfl rfl) ?_
                    refine AnyS.step 5 [] (by kernel_rfl) ⟨?_, trivial⟩
                    refine StepS.v rfl rfl (o_add rfl rfl (by unfold Book.key at hbr; omega) (by unfold Book.key at hbr; omega)) ?_
                    refine AnyS.step 8 [] (by kernel_rfl) ⟨?_, trivial⟩
                    refine StepS.s rfl (o_estore (km := 11) (a := [(nth b.tals (i : Int)).page, nth b.hall.bores (nth b.tals (i : Int)).mach]) (u := (mget (brTo b (nth (stS b) 0) i) [(nth b.tals (i : Int)).page, nth b.hall.bores (nth b.tals (i : Int)).mach]).getD 0) rfl rfl rfl rfl) ?_
                    exact AnyS.done (by kernel_rfl) (EX.sub hQ (AllLk.c rfl (AllLk.c rfl (AllLk.c rfl (AllLk.c rfl (AllLk.c rfl (AllLk.c rfl (AllLk.c rfl (AllLk.c rfl (AllLk.c rfl (AllLk.c rfl (AllLk.c rfl (AllLk.c rfl (AllLk.c rfl (AllLk.c rfl (AllLk.c rfl (AllLk.c rfl (AllLk.c rfl (AllLk.c rfl (AllLk.c rfl (AllLk.c rfl (AllLk.c rfl (AllLk.c rfl (AllLk.c rfl (AllLk.c rfl (AllLk.c rfl (AllLk.c rfl (AllLk.c rfl (AllLk.c rfl (AllLk.c rfl (AllLk.c rfl AllLk.n)))))))))))))))))))))))))))))) (AllLk.c rfl (AllLk.c rfl (AllLk.c rfl (AllLk.c rfl (AllLk.c rfl (AllLk.c rfl AllLk.n)))))) (AllLk.c rfl (AllLk.c rfl AllLk.n)) rfl rfl AllLk.n)
              · refine StepS.vl rfl rfl (o_entry (km := 11) (a := [(nth b.tals (i : Int)).page, nth b.hall.bores (nth b.tals (i : Int)).mach]) M125 rfl rfl isKey.g rfl rfl) ?_
                refine AnyS.step 4 [7] (by kernel_rfl) ⟨?_, ?_, trivial⟩
                · refine StepS.v rfl rfl (o_lookSv (v := (mget (brTo b (nth (stS b) 0) i) [(nth b.tals (i : Int)).page, nth b.hall.bores (nth b.tals (i : Int)).mach]).getD 0) (km := 11) (a := [(nth b.tals (i : Int)).page, nth b.hall.bores (nth b.tals (i : Int)).mach]) M125 rfl rfl isKey.g rfl rfl (mget_self _ _ _)) ?_
                  refine AnyS.step 5 [7] (by kernel_rfl) ⟨?_, ?_, trivial⟩
                  · refine StepS.v rfl rfl (o_add rfl rfl (by unfold Book.key at hbr; omega) (by unfold Book.key at hbr; omega)) ?_
                    refine AnyS.step 7 [] (by kernel_rfl) ⟨?_, trivial⟩
                    refine StepS.v rfl rfl (o_extract rfl rfl) ?_
                    refine AnyS.step 8 [] (by kernel_rfl) ⟨?_, trivial⟩
                    refine StepS.s rfl (o_estore (km := 11) (a := [(nth b.tals (i : Int)).page, nth b.hall.bores (nth b.tals (i : Int)).mach]) (u := (mget (brTo b (nth (stS b) 0) i) [(nth b.tals (i : Int)).page, nth b.hall.bores (nth b.tals (i : Int)).mach]).getD 0) rfl rfl rfl rfl) ?_
                    exact AnyS.done (by kernel_rfl) (EX.sub hQ (AllLk.c rfl (AllLk.c rfl (AllLk.c rfl (AllLk.c rfl (AllLk.c rfl (AllLk.c rfl (AllLk.c rfl (AllLk.c rfl (AllLk.c rfl (AllLk.c rfl (AllLk.c rfl (AllLk.c rfl (AllLk.c rfl (AllLk.c rfl (AllLk.c rfl (AllLk.c rfl (AllLk.c rfl (AllLk.c rfl (AllLk.c rfl (AllLk.c rfl (AllLk.c rfl (AllLk.c rfl (AllLk.c rfl (AllLk.c rfl (AllLk.c rfl (AllLk.c rfl (AllLk.c rfl (AllLk.c rfl (AllLk.c rfl (AllLk.c rfl AllLk.n)))))))))))))))))))))))))))))) (AllLk.c rfl (AllLk.c rfl (AllLk.c rfl (AllLk.c rfl (AllLk.c rfl (AllLk.c rfl AllLk.n)))))) (AllLk.c rfl (AllLk.c rfl AllLk.n)) rfl rfl AllLk.n)
                  · refine StepS.v rfl rfl (o_extract rfl rfl) ?_
                    refine AnyS.step 5 [] (by kernel_rfl) ⟨?_, trivial⟩
                    refine StepS.v rfl rfl (o_add rfl rfl (by unfold Book.key at hbr; omega) (by unfold Book.key at hbr; omega)) ?_
                    refine AnyS.step 8 [] (by kernel_rfl) ⟨?_, trivial⟩
                    refine StepS.s rfl (o_estore (km := 11) (a := [(nth b.tals (i : Int)).page, nth b.hall.bores (nth b.tals (i : Int)).mach]) (u := (mget (brTo b (nth (stS b) 0) i) [(nth b.tals (i : Int)).page, nth b.hall.bores (nth b.tals (i : Int)).mach]).getD 0) rfl rfl rfl rfl) ?_
                    exact AnyS.done (by kernel_rfl) (EX.sub hQ (AllLk.c rfl (AllLk.c rfl (AllLk.c rfl (AllLk.c rfl (AllLk.c rfl (AllLk.c rfl (AllLk.c rfl (AllLk.c rfl (AllLk.c rfl (AllLk.c rfl (AllLk.c rfl (AllLk.c rfl (AllLk.c rfl (AllLk.c rfl (AllLk.c rfl (AllLk.c rfl (AllLk.c rfl (AllLk.c rfl (AllLk.c rfl (AllLk.c rfl (AllLk.c rfl (AllLk.c rfl (AllLk.c rfl (AllLk.c rfl (AllLk.c rfl (AllLk.c rfl (AllLk.c rfl (AllLk.c rfl (AllLk.c rfl (AllLk.c rfl AllLk.n)))))))))))))))))))))))))))))) (AllLk.c rfl (AllLk.c rfl (AllLk.c rfl (AllLk.c rfl (AllLk.c rfl (AllLk.c rfl AllLk.n)))))) (AllLk.c rfl (AllLk.c rfl AllLk.n)) rfl rfl AllLk.n)
                · refine StepS.v rfl rfl (o_extract rfl rfl) ?_
                  refine AnyS.step 4 [] (by kernel_rfl) ⟨?_, trivial⟩
                  refine StepS.v rfl rfl (o_lookSv (v := (mget (brTo b (nth (stS b) 0) i) [(nth b.tals (i : Int)).page, nth b.hall.bores (nth b.tals (i : Int)).mach]).getD 0) (km := 11) (a := [(nth b.tals (i : Int)).page, nth b.hall.bores (nth b.tals (i : Int)).mach]) M125 rfl rfl isKey.g rfl rfl (mget_self _ _ _)) ?_
                  refine AnyS.step 5 [] (by kernel_rfl) ⟨?_, trivial⟩
                  refine StepS.v rfl rfl (o_add rfl rfl (by unfold Book.key at hbr; omega) (by unfold Book.key at hbr; omega)) ?_
                  refine AnyS.step 8 [] (by kernel_rfl) ⟨?_, trivial⟩
                  refine StepS.s rfl (o_estore (km := 11) (a := [(nth b.tals (i : Int)).page, nth b.hall.bores (nth b.tals (i : Int)).mach]) (u := (mget (brTo b (nth (stS b) 0) i) [(nth b.tals (i : Int)).page, nth b.hall.bores (nth b.tals (i : Int)).mach]).getD 0) rfl rfl rfl rfl) ?_
                  exact AnyS.done (by kernel_rfl) (EX.sub hQ (AllLk.c rfl (AllLk.c rfl (AllLk.c rfl (AllLk.c rfl (AllLk.c rfl (AllLk.c rfl (AllLk.c rfl (AllLk.c rfl (AllLk.c rfl (AllLk.c rfl (AllLk.c rfl (AllLk.c rfl (AllLk.c rfl (AllLk.c rfl (AllLk.c rfl (AllLk.c rfl (AllLk.c rfl (AllLk.c rfl (AllLk.c rfl (AllLk.c rfl (AllLk.c rfl (AllLk.c rfl (AllLk.c rfl (AllLk.c rfl (AllLk.c rfl (AllLk.c rfl (AllLk.c rfl (AllLk.c rfl (AllLk.c rfl (AllLk.c rfl AllLk.n)))))))))))))))))))))))))))))) (AllLk.c rfl (AllLk.c rfl (AllLk.c rfl (AllLk.c rfl (AllLk.c rfl (AllLk.c rfl AllLk.n)))))) (AllLk.c rfl (AllLk.c rfl AllLk.n)) rfl rfl AllLk.n)
            · skip
              refine AnyS.step 0 [1, 2] (by kernel_rfl) ⟨?_, ?_, ?_, trivial⟩
              · refine StepS.v rfl rfl (o_move rfl) ?_
                refine AnyS.step 1 [2] (by kernel_rfl) ⟨?_, ?_, trivial⟩
                · refine StepS.v rfl rfl (o_move rfl) ?_
                  refine AnyS.step 2 [] (by kernel_rfl) ⟨?_, trivial⟩
                  refine StepS.v rfl rfl (o_ldpa G58 rfl rfl rfl) ?_
                  refine AnyS.step 3 [] (by kernel_rfl) ⟨?_, trivial⟩
                  refine StepS.v rfl rfl (o_sig 17 (ren [(0, 10)]) (c98 b (nth b.tals (i : Int)) ⟨hai.1, hai.2.1⟩) e98 rfl rfl rfl w98 ⟨(Has.of (lx rfl) bs_bk), trivial⟩ r98) ?_
                  exact AnyS.sub hcut4 rfl (by kernel_rfl) (AllLk.c rfl (AllLk.c rfl (AllLk.c rfl (AllLk.c rfl (AllLk.c rfl (AllLk.c rfl (AllLk.c rfl (AllLk.c rfl (AllLk.c rfl (AllLk.c rfl (AllLk.c rfl (AllLk.c rfl (AllLk.c rfl (AllLk.c rfl (AllLk.c rfl (AllLk.c rfl (AllLk.c rfl (AllLk.c rfl (AllLk.c rfl (AllLk.c rfl (AllLk.c rfl (AllLk.c rfl (AllLk.c rfl (AllLk.c rfl (AllLk.c rfl (AllLk.c rfl AllLk.n)))))))))))))))))))))))))) (AllLk.c rfl (AllLk.c rfl (AllLk.c rfl (AllLk.c rfl (AllLk.c rfl (AllLk.c rfl AllLk.n)))))) (AllLk.c rfl (AllLk.c rfl AllLk.n)) rfl rfl AllLk.n
                · refine StepS.v rfl rfl (o_ldpa G58 rfl rfl rfl) ?_
                  refine AnyS.step 1 [] (by kernel_rfl) ⟨?_, trivial⟩
                  refine StepS.v rfl rfl (o_move rfl) ?_
                  refine AnyS.step 3 [] (by kernel_rfl) ⟨?_, trivial⟩
                  refine StepS.v rfl rfl (o_sig 17 (ren [(0, 10)]) (c98 b (nth b.tals (i : Int)) ⟨hai.1, hai.2.1⟩) e98 rfl rfl rfl w98 ⟨(Has.of (lx rfl) bs_bk), trivial⟩ r98) ?_
                  exact AnyS.sub hcut4 rfl (by kernel_rfl) (AllLk.c rfl (AllLk.c rfl (AllLk.c rfl (AllLk.c rfl (AllLk.c rfl (AllLk.c rfl (AllLk.c rfl (AllLk.c rfl (AllLk.c rfl (AllLk.c rfl (AllLk.c rfl (AllLk.c rfl (AllLk.c rfl (AllLk.c rfl (AllLk.c rfl (AllLk.c rfl (AllLk.c rfl (AllLk.c rfl (AllLk.c rfl (AllLk.c rfl (AllLk.c rfl (AllLk.c rfl (AllLk.c rfl (AllLk.c rfl (AllLk.c rfl (AllLk.c rfl AllLk.n)))))))))))))))))))))))))) (AllLk.c rfl (AllLk.c rfl (AllLk.c rfl (AllLk.c rfl (AllLk.c rfl (AllLk.c rfl AllLk.n)))))) (AllLk.c rfl (AllLk.c rfl AllLk.n)) rfl rfl AllLk.n
              · refine StepS.v rfl rfl (o_move rfl) ?_
                refine AnyS.step 0 [2] (by kernel_rfl) ⟨?_, ?_, trivial⟩
                · refine StepS.v rfl rfl (o_move rfl) ?_
                  refine AnyS.step 2 [] (by kernel_rfl) ⟨?_, trivial⟩
                  refine StepS.v rfl rfl (o_ldpa G58 rfl rfl rfl) ?_
                  refine AnyS.step 3 [] (by kernel_rfl) ⟨?_, trivial⟩
                  refine StepS.v rfl rfl (o_sig 17 (ren [(0, 10)]) (c98 b (nth b.tals (i : Int)) ⟨hai.1, hai.2.1⟩) e98 rfl rfl rfl w98 ⟨(Has.of (lx rfl) bs_bk), trivial⟩ r98) ?_
                  exact AnyS.sub hcut4 rfl (by kernel_rfl) (AllLk.c rfl (AllLk.c rfl (AllLk.c rfl (AllLk.c rfl (AllLk.c rfl (AllLk.c rfl (AllLk.c rfl (AllLk.c rfl (AllLk.c rfl (AllLk.c rfl (AllLk.c rfl (AllLk.c rfl (AllLk.c rfl (AllLk.c rfl (AllLk.c rfl (AllLk.c rfl (AllLk.c rfl (AllLk.c rfl (AllLk.c rfl (AllLk.c rfl (AllLk.c rfl (AllLk.c rfl (AllLk.c rfl (AllLk.c rfl (AllLk.c rfl (AllLk.c rfl AllLk.n)))))))))))))))))))))))))) (AllLk.c rfl (AllLk.c rfl (AllLk.c rfl (AllLk.c rfl (AllLk.c rfl (AllLk.c rfl AllLk.n)))))) (AllLk.c rfl (AllLk.c rfl AllLk.n)) rfl rfl AllLk.n
                · refine StepS.v rfl rfl (o_ldpa G58 rfl rfl rfl) ?_
                  refine AnyS.step 0 [3] (by kernel_rfl) ⟨?_, ?_, trivial⟩
                  · refine StepS.v rfl rfl (o_move rfl) ?_
                    refine AnyS.step 3 [] (by kernel_rfl) ⟨?_, trivial⟩
                    refine StepS.v rfl rfl (o_sig 17 (ren [(0, 10)]) (c98 b (nth b.tals (i : Int)) ⟨hai.1, hai.2.1⟩) e98 rfl rfl rfl w98 ⟨(Has.of (lx rfl) bs_bk), trivial⟩ r98) ?_
                    exact AnyS.sub hcut4 rfl (by kernel_rfl) (AllLk.c rfl (AllLk.c rfl (AllLk.c rfl (AllLk.c rfl (AllLk.c rfl (AllLk.c rfl (AllLk.c rfl (AllLk.c rfl (AllLk.c rfl (AllLk.c rfl (AllLk.c rfl (AllLk.c rfl (AllLk.c rfl (AllLk.c rfl (AllLk.c rfl (AllLk.c rfl (AllLk.c rfl (AllLk.c rfl (AllLk.c rfl (AllLk.c rfl (AllLk.c rfl (AllLk.c rfl (AllLk.c rfl (AllLk.c rfl (AllLk.c rfl (AllLk.c rfl AllLk.n)))))))))))))))))))))))))) (AllLk.c rfl (AllLk.c rfl (AllLk.c rfl (AllLk.c rfl (AllLk.c rfl (AllLk.c rfl AllLk.n)))))) (AllLk.c rfl (AllLk.c rfl AllLk.n)) rfl rfl AllLk.n
                  · refine StepS.v rfl rfl (o_sig 17 (ren [(0, 10)]) (c98 b (nth b.tals (i : Int)) ⟨hai.1, hai.2.1⟩) e98 rfl rfl rfl w98 ⟨(Has.of (lx rfl) bs_bk), trivial⟩ r98) ?_
                    refine AnyS.step 0 [] (by kernel_rfl) ⟨?_, trivial⟩
                    refine StepS.v rfl rfl (o_move rfl) ?_
                    exact AnyS.sub hcut4 rfl (by kernel_rfl) (AllLk.c rfl (AllLk.c rfl (AllLk.c rfl (AllLk.c rfl (AllLk.c rfl (AllLk.c rfl (AllLk.c rfl (AllLk.c rfl (AllLk.c rfl (AllLk.c rfl (AllLk.c rfl (AllLk.c rfl (AllLk.c rfl (AllLk.c rfl (AllLk.c rfl (AllLk.c rfl (AllLk.c rfl (AllLk.c rfl (AllLk.c rfl (AllLk.c rfl (AllLk.c rfl (AllLk.c rfl (AllLk.c rfl (AllLk.c rfl (AllLk.c rfl (AllLk.c rfl AllLk.n)))))))))))))))))))))))))) (AllLk.c rfl (AllLk.c rfl (AllLk.c rfl (AllLk.c rfl (AllLk.c rfl (AllLk.c rfl AllLk.n)))))) (AllLk.c rfl (AllLk.c rfl AllLk.n)) rfl rfl AllLk.n
              · refine StepS.v rfl rfl (o_ldpa G58 rfl rfl rfl) ?_
                refine AnyS.step 0 [1] (by kernel_rfl) ⟨?_, ?_, trivial⟩
                · refine StepS.v rfl rfl (o_move rfl) ?_
                  refine AnyS.step 1 [] (by kernel_rfl) ⟨?_, trivial⟩
                  refine StepS.v rfl rfl (o_move rfl) ?_
                  refine AnyS.step 3 [] (by kernel_rfl) ⟨?_, trivial⟩
                  refine StepS.v rfl rfl (o_sig 17 (ren [(0, 10)]) (c98 b (nth b.tals (i : Int)) ⟨hai.1, hai.2.1⟩) e98 rfl rfl rfl w98 ⟨(Has.of (lx rfl) bs_bk), trivial⟩ r98) ?_
                  exact AnyS.sub hcut4 rfl (by kernel_rfl) (AllLk.c rfl (AllLk.c rfl (AllLk.c rfl (AllLk.c rfl (AllLk.c rfl (AllLk.c rfl (AllLk.c rfl (AllLk.c rfl (AllLk.c rfl (AllLk.c rfl (AllLk.c rfl (AllLk.c rfl (AllLk.c rfl (AllLk.c rfl (AllLk.c rfl (AllLk.c rfl (AllLk.c rfl (AllLk.c rfl (AllLk.c rfl (AllLk.c rfl (AllLk.c rfl (AllLk.c rfl (AllLk.c rfl (AllLk.c rfl (AllLk.c rfl (AllLk.c rfl AllLk.n)))))))))))))))))))))))))) (AllLk.c rfl (AllLk.c rfl (AllLk.c rfl (AllLk.c rfl (AllLk.c rfl (AllLk.c rfl AllLk.n)))))) (AllLk.c rfl (AllLk.c rfl AllLk.n)) rfl rfl AllLk.n
                · refine StepS.v rfl rfl (o_move rfl) ?_
                  refine AnyS.step 0 [3] (by kernel_rfl) ⟨?_, ?_, trivial⟩
                  · refine StepS.v rfl rfl (o_move rfl) ?_
                    refine AnyS.step 3 [] (by kernel_rfl) ⟨?_, trivial⟩
                    refine StepS.v rfl rfl (o_sig 17 (ren [(0, 10)]) (c98 b (nth b.tals (i : Int)) ⟨hai.1, hai.2.1⟩) e98 rfl rfl rfl w98 ⟨(Has.of (lx rfl) bs_bk), trivial⟩ r98) ?_
                    exact AnyS.sub hcut4 rfl (by kernel_rfl) (AllLk.c rfl (AllLk.c rfl (AllLk.c rfl (AllLk.c rfl (AllLk.c rfl (AllLk.c rfl (AllLk.c rfl (AllLk.c rfl (AllLk.c rfl (AllLk.c rfl (AllLk.c rfl (AllLk.c rfl (AllLk.c rfl (AllLk.c rfl (AllLk.c rfl (AllLk.c rfl (AllLk.c rfl (AllLk.c rfl (AllLk.c rfl (AllLk.c rfl (AllLk.c rfl (AllLk.c rfl (AllLk.c rfl (AllLk.c rfl (AllLk.c rfl (AllLk.c rfl AllLk.n)))))))))))))))))))))))))) (AllLk.c rfl (AllLk.c rfl (AllLk.c rfl (AllLk.c rfl (AllLk.c rfl (AllLk.c rfl AllLk.n)))))) (AllLk.c rfl (AllLk.c rfl AllLk.n)) rfl rfl AllLk.n
                  · refine StepS.v rfl rfl (o_sig 17 (ren [(0, 10)]) (c98 b (nth b.tals (i : Int)) ⟨hai.1, hai.2.1⟩) e98 rfl rfl rfl w98 ⟨(Has.of (lx rfl) bs_bk), trivial⟩ r98) ?_
                    refine AnyS.step 0 [] (by kernel_rfl) ⟨?_, trivial⟩
                    refine StepS.v rfl rfl (o_move rfl) ?_
                    exact AnyS.sub hcut4 rfl (by kernel_rfl) (AllLk.c rfl (AllLk.c rfl (AllLk.c rfl (AllLk.c rfl (AllLk.c rfl (AllLk.c rfl (AllLk.c rfl (AllLk.c rfl (AllLk.c rfl (AllLk.c rfl (AllLk.c rfl (AllLk.c rfl (AllLk.c rfl (AllLk.c rfl (AllLk.c rfl (AllLk.c rfl (AllLk.c rfl (AllLk.c rfl (AllLk.c rfl (AllLk.c rfl (AllLk.c rfl (AllLk.c rfl (AllLk.c rfl (AllLk.c rfl (AllLk.c rfl (AllLk.c rfl AllLk.n)))))))))))))))))))))))))) (AllLk.c rfl (AllLk.c rfl (AllLk.c rfl (AllLk.c rfl (AllLk.c rfl (AllLk.c rfl AllLk.n)))))) (AllLk.c rfl (AllLk.c rfl AllLk.n)) rfl rfl AllLk.n
          refine EX.blk (EX.then (WP.region ?_))
          refine WPl.v rfl (o_add rfl rfl (by first | omega | (simp; omega)) (by first | omega | (simp; omega))) ?_
          refine WPl.v rfl (o_move rfl) ?_
          refine WPl.nil ?_
          refine EX.again (i + 1) id (by first | omega | (constructor <;> omega)) (by omega) (LeR.of ⟨rfl, rfl, rfl, rfl, rfl, rfl, rfl, trivial⟩ ⟨(lx rfl), (lx rfl), (lx rfl), trivial⟩ ⟨(congrArg (fun z => some (Ent.ext (mapSP true 2 b20 z))) (show (mset (brTo b (nth (stS b) 0) i) [(nth b.tals (i : Int)).page, nth b.hall.bores (nth b.tals (i : Int)).mach] (((mget (brTo b (nth (stS b) 0) i) [(nth b.tals (i : Int)).page, nth b.hall.bores (nth b.tals (i : Int)).mach]).getD 0) + 1)) = ((fun i => brTo b (nth (stS b) 0) i) (i + 1)) from by dsimp only; simp only [brTo]; rw [if_neg (by have h := hc3; simpa using h)]; try rfl)), trivial⟩ rfl rfl rfl rfl rfl)
        · try simp only [cnd] at hc3
          refine WP.skip (EX.blk (EX.then (WP.region ?_)))
          refine WPl.v rfl (o_add rfl rfl (by first | omega | (simp; omega)) (by first | omega | (simp; omega))) ?_
          refine WPl.v rfl (o_move rfl) ?_
          refine WPl.nil ?_
          refine EX.again (i + 1) id (by first | omega | (constructor <;> omega)) (by omega) (LeR.of ⟨rfl, rfl, rfl, rfl, rfl, rfl, rfl, trivial⟩ ⟨(lx rfl), (lx rfl), (lx rfl), trivial⟩ ⟨(congrArg (fun z => some (Ent.ext (mapSP true 2 b20 z))) (show (brTo b (nth (stS b) 0) i) = ((fun i => brTo b (nth (stS b) 0) i) (i + 1)) from by dsimp only; simp only [brTo]; rw [if_pos (by have h := hc3; simpa using h)]; try rfl)), trivial⟩ rfl rfl rfl rfl rfl)
      · try simp only [cnd] at hc2
        refine WP.exit (EX.exit_then (EX.exit_then (EX.exit_blk (EX.then (WP.seq (WP.region ?_))))))
        refine WPl.v rfl (o_assign rfl) ?_
        refine WPl.imp (Imp.namo EPl 13 14 77 rfl rfl) ?_
        refine WPl.imp (Imp.swF 9 13 rfl (lx rfl)) ?_
        refine WPl.nil (EX.then (WP.seq (WP.seq (WP.region ?_))))
        refine WPl.v rfl (o_move rfl) ?_
        refine WPl.v rfl (o_nilq rfl (lx rfl)) ?_
        refine WPl.v rfl (o_fldq F109_0 rfl (lx rfl)) ?_
        refine WPl.v rfl (o_flde F33_1 rfl (lx rfl)) ?_
        refine WPl.x 14 15 rfl rfl rfl (o_ldex S30 rfl (lx rfl) (strS rfl)) ?_
        refine WPl.v rfl (o_lenq L30 rfl (lx rfl)) ?_
        refine WPl.v rfl (o_move rfl) ?_
        refine WPl.nil (EX.then (WP.block ?_))
        refine WP.loop (Gh := Nat) (fun i => ⟨15, [(2, .e (.a (.v (.slice none 0 0)))), (3, .i (0)), (6, .e (.a (.v (.map (some b20))))), (9, .e (.a (.q 13))), (54, .e (.a (.q 14))), (55, .i (((((⟨b, stS b⟩ : BookS)).bk.set).length : Int))), (56, .i ((i : Int)))], [(8, (Pred.tab 1 tz64)), (14, PL EPl (((⟨b, stS b⟩ : BookS)).bk.set))], [(11, .ext (mapSP true 2 b20 (brS b))), (13, .own 77 EPl.size (lfTo b i).length (RP EPl (lfTo b i)))], [], []⟩) (fun i => i ≤ b.set.length) (fun i => b.set.length - i) (0) id ?_ (LeR.of ⟨rfl, rfl, rfl, rfl, rfl, rfl, rfl, trivial⟩ ⟨(lx rfl), (lx rfl), trivial⟩ ⟨(congrArg (fun z => some (Ent.ext (mapSP true 2 b20 z))) (show (brTo b (nth (stS b) 0) i) = ((fun i => brS b) 0) from by rw [show i = b.tals.length by omega]; rfl)), (congrArg (fun z => some (Ent.own 77 EPl.size (List.length z) (RP EPl z))) (show ([]) = ((fun i => lfTo b i) 0) from rfl)), trivial⟩ rfl rfl rfl rfl rfl) ?_
        · first | trivial | omega | (constructor <;> omega) | simp
        intro i hφ
        have hi : i ≤ b.set.length := hφ
        have hpl : 0 ≤ (mget (brS b) [(nth b.set (i : Int)).page, (nth b.set (i : Int)).bore]).getD 0 ∧ (mget (brS b) [(nth b.set (i : Int)).page, (nth b.set (i : Int)).bore]).getD 0 ≤ b.tals.length := br_le b (nth (stS b) 0) b.tals.length _
        refine WP.seq (WP.region ?_)
        refine WPl.v rfl (o_lss rfl rfl) ?_
        refine WPl.nil (EX.then (WP.seq ?_))
        refine WP.cond rfl (fun hc4 => ?_) (fun hc4 => ?_)
        · try simp only [cnd] at hc4
          have hsb := isSetB hB.p (show i < b.set.length by omega)
          refine WP.skip (EX.then (WP.seq (WP.block (WP.seq (WP.region ?_)))))
          refine WPl.x 15 16 rfl rfl rfl (o_idx L30 rfl (lx rfl) rfl (by first | omega | (simp; omega)) (by first | omega | (simp; omega))) ?_
          refine WPl.v rfl (o_ldqg G77 rfl (lx rfl) (strG rfl) rfl rfl) ?_
          refine WPl.l 16 17 rfl rfl rfl (o_alloc Z77) ?_
          refine WPl.s1 (o_stag G77 rfl rfl rfl ⟨rfl, rfl, rfl, trivial⟩ rfl rfl) ?_
          refine WPl.nil (EX.then (WP.seq ?_))
          refine WP.draw (nf := 17) [⟨[62, 63, 64, 65, 66, 67, 68], [], [], [], []⟩, ⟨[62, 63, 64, 65, 66, 67, 68], [], [], [], [0]⟩, ⟨[60, 61, 63, 64, 65, 66, 67], [], [], [], []⟩, ⟨[60, 61, 62, 65, 66], [], [], [], []⟩, ⟨[60, 61, 62, 65, 66], [], [], [], [3]⟩, ⟨[60, 61, 62, 63, 64], [], [], [], []⟩, ⟨[60, 61, 62, 63, 64], [], [], [], [5]⟩, ⟨[60, 61, 62], [], [], [], [3, 4, 5, 6]⟩, ⟨[60, 61], [], [], [], [2, 3, 4, 5, 6, 7]⟩, ⟨[], [], [], [], [0, 1, 2, 3, 4, 5, 6, 7, 8]⟩, ⟨[], [], [], [], [0, 1, 2, 3, 4, 5, 6, 7, 8, 9]⟩, ⟨[], [], [], [16], [0, 1, 2, 3, 4, 5, 6, 7, 8, 9, 10]⟩] (by kernel_rfl) (by kernel_rfl) ?_
          refine DRQ.v rfl rfl rfl (o_fldp F77_2 rfl) ?_
          refine DRQ.v rfl rfl rfl (o_ldp S3 rfl rfl rfl) ?_
          refine DRQ.v rfl rfl rfl (o_move rfl) ?_
          refine DRQ.v rfl rfl rfl (o_fldp F77_0 rfl) ?_
          refine DRQ.v rfl rfl rfl (o_ldp S3 rfl rfl rfl) ?_
          refine DRQ.v rfl rfl rfl (o_fldp F77_1 rfl) ?_
          refine DRQ.v rfl rfl rfl (o_ldp S3 rfl rfl rfl) ?_
          refine DRQ.v rfl rfl rfl (o_build B127 rfl ⟨rfl, rfl, trivial⟩ rfl rfl) ?_
          refine DRQ.v rfl rfl rfl (o_lookS (km := 11) (a := [(nth (((⟨b, stS b⟩ : BookS)).bk.set) (i : Int)).page, (nth (((⟨b, stS b⟩ : BookS)).bk.set) (i : Int)).bore]) M125 rfl rfl isKey.g rfl rfl) ?_
          refine DRQ.v rfl rfl rfl (o_sub rfl rfl (by dsimp only; omega) (by dsimp only; omega)) ?_
          refine DRQ.v rfl rfl rfl (o_fldp F77_2 rfl) ?_
          refine DRQ.s 16 rfl rfl rfl (o_sta S3 rfl rfl rfl rfl rfl) ?_
          refine DRQ.nil' ?_
          refine EX.then (WP.seq (WP.region ?_))
          refine WPl.v rfl (o_fldp F77_2 rfl) ?_
          refine WPl.v rfl (o_ldp S3 rfl rfl rfl) ?_
          refine WPl.v rfl (o_gtr rfl rfl) ?_
          refine WPl.nil (EX.then ?_)
          refine WP.cond rfl (fun hc5 => ?_) (fun hc5 => ?_)
          · try simp only [cnd] at hc5
            refine WP.region ?_
            refine WPl.v rfl (o_move rfl) ?_
            refine WPl.v rfl (o_ldpa G77 rfl rfl rfl) ?_
            refine WPl.l 17 18 rfl rfl rfl (o_bsl (E := EPl) (l := [(⟨(nth b.set (i : Int)).page, (nth b.set (i : Int)).bore, remN b i⟩ : Plate)]) R30 rfl rfl (.cons (⟨rfl, rfl, rfl, trivial⟩) rfl (eok_str ⟨rfl, rfl, rfl, trivial⟩) (.nil)) rfl rfl) ?_
            refine WPl.u1 (k := 18) (m := 19) rfl rfl rfl (o_appo R30 EP.str_one rfl rfl rfl rfl (by have := lfTo_len b i; first | omega | (simp; omega)) (by have := lfTo_len b i; first | omega | (simp; omega))) ?_
            refine WPl.v rfl (o_assign rfl) ?_
            refine WPl.nil (EX.blk (EX.then (WP.region ?_)))
            refine WPl.v rfl (o_add rfl rfl (by first | omega | (simp; omega)) (by first | omega | (simp; omega))) ?_
            refine WPl.v rfl (o_move rfl) ?_
            refine WPl.nil ?_
            refine EX.again (i + 1) (ren [(13, 18)]) (by first | omega | (constructor <;> omega)) (by omega) (LeR.of ⟨rfl, rfl, rfl, rfl, rfl, rfl, rfl, trivial⟩ ⟨(lx rfl), (lx rfl), trivial⟩ ⟨(congrArg (fun z => some (Ent.ext (mapSP true 2 b20 z))) (show (brS b) = ((fun i => brS b) (i + 1)) from rfl)), (congrArg (fun z => some (Ent.own 77 EPl.size (List.length z) (RP EPl z))) (show ((lfTo b i) ++ [(⟨(nth b.set (i : Int)).page, (nth b.set (i : Int)).bore, remN b i⟩ : Plate)]) = ((fun i => lfTo b i) (i + 1)) from by dsimp only; simp only [lfTo]; rw [if_pos (show 0 < remN b i from hc5)])), trivial⟩ rfl rfl rfl rfl rfl)
          · try simp only [cnd] at hc5
            refine WP.skip (EX.blk (EX.then (WP.region ?_)))
            refine WPl.v rfl (o_add rfl rfl (by first | omega | (simp; omega)) (by first | omega | (simp; omega))) ?_
            refine WPl.v rfl (o_move rfl) ?_
            refine WPl.nil ?_
            refine EX.again (i + 1) id (by first | omega | (constructor <;> omega)) (by omega) (LeR.of ⟨rfl, rfl, rfl, rfl, rfl, rfl, rfl, trivial⟩ ⟨(lx rfl), (lx rfl), trivial⟩ ⟨(congrArg (fun z => some (Ent.ext (mapSP true 2 b20 z))) (show (brS b) = ((fun i => brS b) (i + 1)) from rfl)), (congrArg (fun z => some (Ent.own 77 EPl.size (List.length z) (RP EPl z))) (show (lfTo b i) = ((fun i => lfTo b i) (i + 1)) from by dsimp only; simp only [lfTo]; rw [if_neg (show ¬ 0 < remN b i from hc5)])), trivial⟩ rfl rfl rfl rfl rfl)
        · try simp only [cnd] at hc4
          refine WP.exit (EX.exit_then (EX.exit_then (EX.exit_blk (EX.then (WP.seq (WP.region ?_))))))
          refine WPl.v rfl (o_move rfl) ?_
          refine WPl.v rfl (o_assign rfl) ?_
          refine WPl.v rfl (o_assign rfl) ?_
          refine WPl.nil (EX.then (WP.ret ?_))
          refine EX.imp (Imp.frz (E := EPl) (l := lfTo b i) 13 rfl rfl) ?_
          have hie : i = b.set.length := by omega
          subst hie
          rw [hf, show lfV b = lfTo b b.set.length from if_pos hf]
          exact EX.fin (ren [(0, 13)]) (.inl rfl) rfl (.tmp rfl (.tmp rfl .nil)) rfl (by simp [SV.res, El.res, At.res, keys]) ⟨(lx rfl), trivial⟩ (by simp) (by simp)
  · skip
    refine Sig.intro Tryz.func30 rfl 9 [(0, .e (.g [.q 0, .q 1, .q 2, ai (b.hall.change), .q 3, .q 4, .q 5, .q 6, ai (b.boys), .q 7]))] rfl w30 rfl rfl fun I w => ?_
    refine WP.seq (WP.region ?_)
    refine WPl.l 9 10 rfl rfl rfl (o_boxg rfl) ?_
    refine WPl.v rfl (o_assign rfl) ?_
    refine WPl.v rfl (o_assign rfl) ?_
    refine WPl.nil (EX.then (WP.seq (WP.region ?_)))
    refine WPl.v rfl (o_ldpa G33 rfl rfl rfl) ?_
    refine WPl.cs 10 rfl rfl rfl rfl (o_sig 10 (ren [(0, 0), (1, 1), (2, 2), (3, 3), (4, 4), (5, 5), (6, 6), (7, 7)]) (c77E b true hm hf) e77 rfl rfl rfl w77E ⟨(lx rfl), (lx rfl), (lx rfl), (lx rfl), (lx rfl), (lx rfl), (lx rfl), (lx rfl), trivial⟩ r77E) ?_
    refine WPl.v rfl (o_move rfl) ?_
    refine WPl.v rfl (o_extract rfl rfl) ?_
    refine WPl.v rfl (o_extract rfl rfl) ?_
    refine WPl.v rfl (o_assign rfl) ?_
    refine WPl.v rfl (o_assign rfl) ?_
    refine WPl.nil (EX.then (WP.seq (WP.seq (WP.region ?_))))
    refine WPl.v rfl (o_move rfl) ?_
    refine WPl.v rfl (o_neq rfl rfl) ?_
    refine WPl.nil (EX.then ?_)
    refine WP.cond rfl (fun hc1 => ?_) (fun hc1 => ?_)
    · try simp only [cnd] at hc1
      refine WP.seq (WP.region ?_)
      refine WPl.v rfl (o_move rfl) ?_
      refine WPl.v rfl (o_assign rfl) ?_
      refine WPl.v rfl (o_assign rfl) ?_
      refine WPl.nil (EX.then (WP.ret (EX.ret_then ?_)))
      refine EX.imp (Imp.nam 10 11 (.slice none 0 0) (R := PN EPl) pn_ok rfl rfl) ?_
      refine EX.imp (Imp.swF 2 10 rfl (lxr rfl)) ?_
      rw [show lfV b = [] from if_neg hf]
      exact EX.fin (ren [(0, 10)]) (.inl rfl) rfl (.tmp rfl (.tmp rfl .nil)) rfl (by simp [SV.res, El.res, At.res, keys]) ⟨lxl rfl, trivial⟩ (by simp) (by simp)
    · try simp only [cnd] at hc1
      exact absurd hc1 hf
theorem w84 {pg : Int} {b : Book} {m mi : Int} {s : Nat} : ∀ x ∈ ([.i (pg), .e (.a (.q 0)), .e (.a (.q 1)), .e (.a (.q 2)), .e (.a (.q 3))] : List SV), x.res (keys (α := Pred) [(0, PP (EP.box (PP EBs ((⟨b, stS b⟩ : BookS)))) ()), (1, PP EP.int (m)), (2, PP EP.int (mi)), (3, PP EP.u64 (s))]) := by simp [SV.res, El.res, At.res, keys]
set_option maxHeartbeats 4000000 in
theorem c84 (pg : Int) (b : Book) (m mi : Int) (s : Nat) (h : s < 256) (h8 : b.tals.length ≤ 8) : Sig Tryz.prog 84 [.i (pg), .e (.a (.q 0)), .e (.a (.q 1)), .e (.a (.q 2)), .e (.a (.q 3))] [(0, PP (EP.box (PP EBs ((⟨b, stS b⟩ : BookS)))) ()), (1, PP EP.int (m)), (2, PP EP.int (mi)), (3, PP EP.u64 (s))] (.b (lackS b m mi s pg)) [] := by
  refine Sig.intro Tryz.func84 rfl 4 [(0, .i (pg)), (1, .e (.a (.q 0))), (2, .e (.a (.q 1))), (3, .e (.a (.q 2))), (4, .e (.a (.q 3)))] rfl w84 rfl rfl fun I w => ?_
  refine WP.seq (WP.region ?_)
  refine WPl.v rfl (o_assign rfl) ?_
  refine WPl.nil (EX.then (WP.seq (WP.seq (WP.region ?_))))
  refine WPl.x 4 5 rfl rfl rfl (o_ldqx S99 rfl (lx rfl) boxx) ?_
  refine WPl.v rfl (o_nilq rfl (lx rfl)) ?_
  refine WPl.v rfl (o_fldq F109_0 rfl (lx rfl)) ?_
  refine WPl.v rfl (o_flde F33_4 rfl (lx rfl)) ?_
  refine WPl.x 5 6 rfl rfl rfl (o_ldex S31 rfl (lx rfl) (strS rfl)) ?_
  refine WPl.v rfl (o_lenq L31 rfl (lx rfl)) ?_
  refine WPl.v rfl (o_move rfl) ?_
  refine WPl.nil (EX.then (WP.block ?_))
  refine WP.loop (Gh := Nat) (fun i => ⟨6, [(0, .i (pg)), (2, .e (.a (.q 1))), (3, .e (.a (.q 2))), (4, .e (.a (.q 3))), (6, .b (false)), (13, .e (.a (.q 5))), (14, .i (((((⟨b, stS b⟩ : BookS)).bk.tals).length : Int))), (15, .i ((i : Int)))], [(1, PP EP.int (m)), (2, PP EP.int (mi)), (3, PP EP.u64 (s)), (5, PL ETa (((⟨b, stS b⟩ : BookS)).bk.tals))], [], [], []⟩) (fun i => i ≤ b.tals.length ∧ allI (rdAt b m mi s pg) i = true) (fun i => b.tals.length - i) (0) id ?_ (LeR.of ⟨rfl, rfl, rfl, rfl, rfl, rfl, rfl, rfl, trivial⟩ ⟨(lx rfl), (lx rfl), (lx rfl), (lx rfl), trivial⟩ trivial rfl rfl rfl rfl rfl) ?_
  · exact ⟨by omega, rfl⟩
  intro i hφ
  have hi : i ≤ b.tals.length := hφ.1
  have hall := hφ.2
  refine WP.seq (WP.region ?_)
  refine WPl.v rfl (o_lss rfl rfl) ?_
  refine WPl.nil (EX.then (WP.seq ?_))
  refine WP.cond rfl (fun hc1 => ?_) (fun hc1 => ?_)
  · try simp only [cnd] at hc1
    refine WP.skip (EX.then (WP.seq (WP.block (WP.seq (WP.region ?_)))))
    refine WPl.v rfl (o_move rfl) ?_
    refine WPl.x 6 7 rfl rfl rfl (o_idx L31 rfl (lx rfl) rfl (by first | omega | (simp; omega)) (by first | omega | (simp; omega))) ?_
    refine WPl.v rfl (o_ldqg G58 rfl (lx rfl) (strG rfl) rfl rfl) ?_
    refine WPl.l 7 8 rfl rfl rfl (o_alloc Z58) ?_
    refine WPl.v rfl (o_assign rfl) ?_
    refine WPl.s1 (o_stag G58 rfl rfl rfl ⟨rfl, rfl, rfl, rfl, trivial⟩ rfl rfl) ?_
    refine WPl.nil (EX.then (WP.seq (WP.region ?_)))
    refine WPl.v rfl (o_fldp F58_1 rfl) ?_
    refine WPl.v rfl (o_ldp S3 rfl rfl rfl) ?_
    refine WPl.v rfl (o_move rfl) ?_
    refine WPl.v rfl (o_eql rfl rfl) ?_
    refine WPl.v rfl (o_move rfl) ?_
    refine WPl.bit 8 9 (decide (((nth (((⟨b, stS b⟩ : BookS)).bk.tals) (i : Int)).page) = pg)) rfl rfl ?_
    refine WPl.gv 8 rfl rfl (.plain rfl Iff.rfl rfl) (fun hb => o_fldp F58_2 rfl) ?_
    refine WPl.gv 8 rfl rfl (.plain rfl Iff.rfl rfl) (fun hb => o_ldp S3 rfl rfl rfl) ?_
    refine WPl.gv 8 rfl rfl (.plain rfl Iff.rfl rfl) (fun hb => o_ldq S3 rfl (lx rfl) intc) ?_
    refine WPl.gv 8 rfl rfl (.plain rfl Iff.rfl rfl) (fun hb => o_eql rfl rfl) ?_
    refine WPl.v rfl (o_and rfl rfl rfl id) ?_
    refine WPl.v rfl (o_move rfl) ?_
    refine WPl.bit 9 10 ((decide (((nth (((⟨b, stS b⟩ : BookS)).bk.tals) (i : Int)).page) = pg)) && (decide (((nth (((⟨b, stS b⟩ : BookS)).bk.tals) (i : Int)).mach) = m))) rfl rfl ?_
    refine WPl.gv 9 rfl rfl (.plain rfl Iff.rfl rfl) (fun hb => o_fldp F58_3 rfl) ?_
    refine WPl.gv 9 rfl rfl (.plain rfl Iff.rfl rfl) (fun hb => o_ldp S3 rfl rfl rfl) ?_
    refine WPl.gv 9 rfl rfl (.plain rfl Iff.rfl rfl) (fun hb => o_ldq S3 rfl (lx rfl) intc) ?_
    refine WPl.gv 9 rfl rfl (.plain rfl Iff.rfl rfl) (fun hb => o_leq rfl rfl) ?_
    refine WPl.v rfl (o_and rfl rfl rfl id) ?_
    refine WPl.v rfl (o_move rfl) ?_
    refine WPl.bit 10 11 (((decide (((nth (((⟨b, stS b⟩ : BookS)).bk.tals) (i : Int)).page) = pg)) && (decide (((nth (((⟨b, stS b⟩ : BookS)).bk.tals) (i : Int)).mach) = m))) && (decide (((nth (((⟨b, stS b⟩ : BookS)).bk.tals) (i : Int)).min) ≤ mi))) rfl rfl ?_
    refine WPl.gv 10 rfl rfl (.plain rfl Iff.rfl rfl) (fun hb => o_ldq S105 rfl (lx rfl) u64c) ?_
    refine WPl.gv 10 rfl rfl (.plain rfl Iff.rfl rfl) (fun hb => o_move rfl) ?_
    refine WPl.gc0 10 rfl rfl (.plain rfl Iff.rfl rfl) (fun hb => o_sig 11 id (c85 s (i : Int) h (by omega) (by omega)) e85 rfl rfl rfl w85 trivial r85) ?_
    refine WPl.gv 10 rfl rfl (.plain rfl Iff.rfl rfl) (fun hb => o_not rfl) ?_
    refine WPl.v rfl (o_and rfl rfl rfl id) ?_
    refine WPl.nil (EX.then ?_)
    refine WP.cond rfl (fun hc2 => ?_) (fun hc2 => ?_)
    · try simp only [cnd] at hc2
      refine WP.seq (WP.region ?_)
      refine WPl.v rfl (o_assign rfl) ?_
      refine WPl.nil (EX.then (WP.ret (EX.ret_blk (EX.ret_then (EX.ret_then (EX.ret_blk (EX.ret_then ?_)))))))
      rw [show lackS b m mi s pg = false from not_allI (show i < b.tals.length by omega) (by unfold rdAt; simpa using hc2)]
      exact EX.fin id (.inl rfl) rfl (.tmp rfl .nil) rfl (by simp [SV.res, El.res, At.res, keys]) trivial (by simp) (by simp)
    · try simp only [cnd] at hc2
      refine WP.skip (EX.blk (EX.then (WP.region ?_)))
      refine WPl.v rfl (o_add rfl rfl (by first | omega | (simp; omega)) (by first | omega | (simp; omega))) ?_
      refine WPl.v rfl (o_move rfl) ?_
      refine WPl.nil ?_
      refine EX.again (i + 1) id (by exact ⟨by omega, by simp only [allI, hall, Bool.true_and]; unfold rdAt; simpa using hc2⟩) (by omega) (LeR.of ⟨rfl, rfl, rfl, rfl, rfl, rfl, rfl, rfl, trivial⟩ ⟨(lx rfl), (lx rfl), (lx rfl), (lx rfl), trivial⟩ trivial rfl rfl rfl rfl rfl)
  · try simp only [cnd] at hc1
    refine WP.exit (EX.exit_then (EX.exit_then (EX.exit_blk (EX.then (WP.seq (WP.region ?_))))))
    refine WPl.v rfl (o_assign rfl) ?_
    refine WPl.nil (EX.then (WP.ret ?_))
    have he : i = b.tals.length := by omega
    subst he
    rw [show lackS b m mi s pg = true from hall]
    exact EX.fin id (.inl rfl) rfl (.tmp rfl .nil) rfl (by simp [SV.res, El.res, At.res, keys]) trivial (by simp) (by simp)
theorem w82 {s : Nat} {b : Book} {m ed mi : Int} : ∀ x ∈ ([.e (.a (.v (.int .u64 (s : Int)))), .e (.a (.q 0)), .e (.a (.q 1)), .e (.a (.q 2)), .e (.a (.q 3)), .e (.a (.q 4))] : List SV), x.res (keys (α := Pred) [(0, PP EBk (b)), (1, PP EP.int (ed)), (2, PP (EP.box (PP EBs ((⟨b, stS b⟩ : BookS)))) ()), (3, PP EP.int (m)), (4, PP EP.int (mi))]) := by simp [SV.res, El.res, At.res, keys]
set_option maxHeartbeats 4000000 in
theorem c82 (s : Nat) (b : Book) (m ed mi : Int) (h : s < 256) (h8 : b.tals.length ≤ 8) (hed : 0 ≤ ed ∧ ed < b.hall.eds.length) (hm : b.Small) : Sig Tryz.prog 82 [.e (.a (.v (.int .u64 (s : Int)))), .e (.a (.q 0)), .e (.a (.q 1)), .e (.a (.q 2)), .e (.a (.q 3)), .e (.a (.q 4))] [(0, PP EBk (b)), (1, PP EP.int (ed)), (2, PP (EP.box (PP EBs ((⟨b, stS b⟩ : BookS)))) ()), (3, PP EP.int (m)), (4, PP EP.int (mi))] (.b (rdS b m ed mi s)) [] := by
  have hpl := hm.h.p ed.toNat (by omega)
  rw [show ((ed.toNat : Nat) : Int) = ed by omega] at hpl
  refine Sig.intro Tryz.func82 rfl 5 [(0, .e (.a (.v (.int .u64 (s : Int))))), (1, .e (.a (.q 0))), (2, .e (.a (.q 1))), (3, .e (.a (.q 2))), (4, .e (.a (.q 3))), (5, .e (.a (.q 4)))] rfl w82 rfl rfl fun I w => ?_
  refine WP.seq (WP.region ?_)
  refine WPl.l 5 6 rfl rfl rfl (o_boxa rfl rfl) ?_
  refine WPl.v rfl (o_assign rfl) ?_
  refine WPl.nil (EX.then (WP.seq (WP.region ?_)))
  refine WPl.v rfl (o_fldq F33_0 rfl (lx rfl)) ?_
  refine WPl.v rfl (o_flde F29_2 rfl (lx rfl)) ?_
  refine WPl.x 6 7 rfl rfl rfl (o_ldex S27 rfl (lx rfl) (strS rfl)) ?_
  refine WPl.v rfl (o_ldq S3 rfl (lx rfl) intc) ?_
  refine WPl.x 7 8 rfl rfl rfl (o_idx L27 rfl (lx rfl) rfl (by first | omega | (simp; omega)) (by first | omega | (simp; omega))) ?_
  refine WPl.x 8 9 rfl rfl rfl (o_ldqx S24 rfl (lx rfl) slx) ?_
  refine WPl.imp (Imp.frzb (E := EP.u64) (y := s) 5 9 10 rfl rfl (fun _ _ _ _ _ _ => rfl) rfl rfl rfl) ?_
  refine WPl.x 10 11 rfl rfl rfl (o_mkfve (svs := fun (o : Dom.all.T) => [.i (o.1)]) (X0 := fun (o : Dom.all.T) => []) (sv := fun (o : Dom.all.T) => .b ((lackS b m mi s) o.1)) (X := fun (o : Dom.all.T) => []) (cs := [.e (.a (.q 0)), .e (.a (.q 1)), .e (.a (.q 2)), .e (.a (.q 3))]) (Xc := [(0, PP (EP.box (PP EBs ((⟨b, stS b⟩ : BookS)))) ()), (1, PP EP.int (m)), (2, PP EP.int (mi)), (3, PP EP.u64 (s))]) 10 (ren [(0, 2), (1, 3), (2, 4), (3, 9)]) (fun (o : Dom.all.T) => (c84 o.1 b m mi s h h8)) e84 (fun _ => rfl) rfl SvsOK.rf (fun _ => (by simp [SV.res, El.res, At.res, keys])) (by simp [SV.res, El.res, At.res, keys]) ⟨(lx rfl), (lx rfl), (lx rfl), (lx rfl), trivial⟩) ?_
  refine WPl.cs 11 rfl rfl rfl rfl (o_sig 11 (ren [(0, 8), (1, 10)]) (c83 (nth b.hall.eds ed) Dom.all (lackS b m mi s) (by omega) (fun _ _ => trivial)) e83 rfl rfl rfl w83 ⟨(lx rfl), (lx rfl), trivial⟩ r83) ?_
  refine WPl.v rfl (o_not rfl) ?_
  refine WPl.v rfl (o_assign rfl) ?_
  refine WPl.nil (EX.then (WP.ret ?_))
  rw [show rdS b m ed mi s = !anyG (lackS b m mi s) (nth b.hall.eds ed) from rfl]
  exact EX.fin id (.inl rfl) rfl (.tmp rfl .nil) rfl (by simp [SV.res, El.res, At.res, keys]) trivial (by simp) (by simp)
theorem w21 {b : Book} {m ed mi : Int} : ∀ x ∈ ([.e (.g [.q 0, .q 1, .q 2, ai (b.hall.change), .q 3, .q 4, .q 5, .q 6, ai (b.boys), .q 7]), .i (m), .i (ed), .i (mi)] : List SV), x.res (keys (α := Pred) [(0, PL ETm (b.hall.machs)), (1, PL EBd (b.hall.buns)), (2, PL EP.int (b.hall.trains)), (3, PL EP.int (b.hall.bores)), (4, PL (EP.sl EP.int) (b.hall.eds)), (5, PL EPl (b.set)), (6, PL EP.int (b.walk)), (7, PL ETa (b.tals)), (8, (Pred.tab 1 tz64))]) := by simp [SV.res, El.res, At.res, keys]
theorem r21 {b : Book} {m ed mi : Int} : SV.res (keys (α := Pred) []) (.t [.a (ai (rdV b m ed mi)), .a (ai (rdE b m ed mi))]) := by simp [SV.res, El.res, At.res, keys]
set_option maxHeartbeats 4000000 in
theorem c21 (b : Book) (m ed mi : Int) (hm : b.Small) : Sig Tryz.prog 21 [.e (.g [.q 0, .q 1, .q 2, ai (b.hall.change), .q 3, .q 4, .q 5, .q 6, ai (b.boys), .q 7]), .i (m), .i (ed), .i (mi)] [(0, PL ETm (b.hall.machs)), (1, PL EBd (b.hall.buns)), (2, PL EP.int (b.hall.trains)), (3, PL EP.int (b.hall.bores)), (4, PL (EP.sl EP.int) (b.hall.eds)), (5, PL EPl (b.set)), (6, PL EP.int (b.walk)), (7, PL ETa (b.tals)), (8, (Pred.tab 1 tz64))] (.t [.a (ai (rdV b m ed mi)), .a (ai (rdE b m ed mi))]) [] := by
  have hm1 := hm.h.m
  have hm2 := hm.h.b
  have hm3 := hm.h.t
  have hm4 := hm.h.o
  have hm5 := hm.h.e
  have hm6 := hm.s
  have hm7 := hm.w
  have hm8 := hm.t
  by_cases hf : rdE b m ed mi = 0
  · have hcv := (askE_eq.1 hf).1; have hB := bookB hcv; have hsl := stS_len hB.t; have hst := stS_lt hB.t; have hdm := stS_dom hB.t; have hpo := (pow_ok hB.t).2.2.2.2; have ht8 := hB.t; have hrv := (askE_eq.1 hf).2; have hre := hrv; simp only [rdOK, within, Bool.and_eq_true, decide_eq_true_eq] at hre
    refine Sig.intro Tryz.func21 rfl 9 [(0, .e (.g [.q 0, .q 1, .q 2, ai (b.hall.change), .q 3, .q 4, .q 5, .q 6, ai (b.boys), .q 7])), (1, .i (m)), (2, .i (ed)), (3, .i (mi))] rfl w21 rfl rfl fun I w => ?_
    refine WP.seq (WP.region ?_)
    refine WPl.l 9 10 rfl rfl rfl (o_boxg rfl) ?_
    refine WPl.l 10 11 rfl rfl rfl (o_boxa rfl rfl) ?_
    refine WPl.l 11 12 rfl rfl rfl (o_boxa rfl rfl) ?_
    refine WPl.l 12 13 rfl rfl rfl (o_boxa rfl rfl) ?_
    refine WPl.v rfl (o_assign rfl) ?_
    refine WPl.v rfl (o_assign rfl) ?_
    refine WPl.nil (EX.then (WP.seq ?_))
    refine WP.imp (Imp.bit 13 14 (within m 0 ((b.hall.bores.length : Int) - 1)) rfl rfl) ?_
    refine WP.imp (Imp.bit 14 15 ((within m 0 ((b.hall.bores.length : Int) - 1)) && (within ed 0 ((b.hall.eds.length : Int) - 1))) rfl rfl) ?_
    refine WP.draw (nf := 17) [⟨[14, 15, 16, 17, 18, 19, 20, 21, 22, 23, 24, 25, 26, 27, 28, 29, 10], [16], [], [], []⟩, ⟨[13, 15, 10], [16], [], [], []⟩, ⟨[13, 14, 10], [16], [], [], []⟩, ⟨[13, 10], [16], [], [], [1, 2]⟩, ⟨[13, 10], [16], [], [], [1, 2, 3]⟩, ⟨[13, 19, 20, 21, 22, 23, 10], [16], [], [], [1, 2, 3, 4]⟩, ⟨[13, 18, 10], [16], [], [], [1, 2, 3, 4]⟩, ⟨[13, 18, 10], [16], [], [], [1, 2, 3, 4, 6]⟩, ⟨[13, 18, 10], [16], [], [], [1, 2, 3, 4, 6, 7]⟩, ⟨[13, 18, 10], [16], [], [], [1, 2, 3, 4, 6, 7, 8]⟩, ⟨[13, 18, 10], [16], [], [], [1, 2, 3, 4, 6, 7, 8, 9]⟩, ⟨[13, 10], [16], [], [], [1, 2, 3, 4, 5, 6, 7, 8, 9, 10]⟩, ⟨[13, 10], [16], [], [], [1, 2, 3, 4, 5, 6, 7, 8, 9, 10, 11]⟩, ⟨[13, 10], [16], [], [], [1, 2, 3, 4, 5, 6, 7, 8, 9, 10, 11, 12]⟩, ⟨[13, 10], [16], [], [], [1, 2, 3, 4, 5, 6, 7, 8, 9, 10, 11, 12, 13]⟩, ⟨[13, 10], [16], [], [], [1, 2, 3, 4, 5, 6, 7, 8, 9, 10, 11, 12, 13, 14]⟩, ⟨[13, 10], [16], [], [], [1, 2, 3, 4, 5, 6, 7, 8, 9, 10, 11, 12, 13, 14, 15]⟩, ⟨[10], [16], [15], [15], [0, 1, 2, 3, 4, 5, 6, 7, 8, 9, 10, 11, 12, 13, 14, 15, 16]⟩, ⟨[10], [16], [], [], [0, 1, 2, 3, 4, 5, 6, 7, 8, 9, 10, 11, 12, 13, 14, 15, 16, 17]⟩, ⟨[32, 10], [16], [], [], [0, 1, 2, 3, 4, 5, 6, 7, 8, 9, 10, 11, 12, 13, 14, 15, 16, 17, 18]⟩, ⟨[31, 10], [16], [], [], [0, 1, 2, 3, 4, 5, 6, 7, 8, 9, 10, 11, 12, 13, 14, 15, 16, 17, 18]⟩, ⟨[13, 14, 15, 16, 17, 18, 19, 20, 21, 22, 23, 24, 25, 26, 27, 28, 29, 30, 12, 31, 32], [15], [16], [16], []⟩, ⟨[32], [], [], [16], [0, 1, 2, 3, 4, 5, 6, 7, 8, 9, 10, 11, 12, 13, 14, 15, 16, 17, 18, 19, 21]⟩, ⟨[], [], [], [], [0, 1, 2, 3, 4, 5, 6, 7, 8, 9, 10, 11, 12, 13, 14, 15, 16, 17, 18, 19, 20, 21, 22]⟩] (by kernel_rfl) (by kernel_rfl) ?_
    refine DRQ.v rfl rfl rfl (o_ldpa G33 rfl rfl rfl) ?_
    refine DRQ.v rfl rfl rfl (o_ldpa G33 rfl rfl rfl) ?_
    refine DRQ.v rfl rfl rfl (o_ldp S3 rfl rfl rfl) ?_
    refine DRQ.cs rfl rfl rfl rfl (o_sig 15 (ren [(0, 0), (1, 1), (2, 2), (3, 3), (4, 4), (5, 5), (6, 6), (7, 7)]) (c78 b m (by omega)) e78 rfl rfl rfl w78 ⟨(lx rfl), (lx rfl), (lx rfl), (lx rfl), (lx rfl), (lx rfl), (lx rfl), (lx rfl), trivial⟩ r78) ?_
    refine DRQ.v rfl rfl rfl (o_move rfl) ?_
    refine DRQ.gv 13 rfl rfl (.plain rfl Iff.rfl rfl) rfl (fun hb => o_ldp S3 rfl rfl rfl) ?_
    refine DRQ.gv 13 rfl rfl (.plain rfl Iff.rfl rfl) rfl (fun hb => o_fldp F33_0 rfl) ?_
    refine DRQ.gv 13 rfl rfl (.plain rfl Iff.rfl rfl) rfl (fun hb => o_fldp F29_2 rfl) ?_
    refine DRQ.gv 13 rfl rfl (.plain rfl Iff.rfl rfl) rfl (fun hb => o_ldp S27 rfl rfl rfl) ?_
    refine DRQ.gv 13 rfl rfl (.plain rfl Iff.rfl rfl) rfl (fun hb => o_lenq L27 rfl (lx rfl)) ?_
    refine DRQ.gv 13 rfl rfl (.plain rfl Iff.rfl rfl) rfl (fun hb => o_sub rfl rfl (by first | omega | (simp; omega)) (by first | omega | (simp; omega))) ?_
    refine DRQ.gv 13 rfl rfl (.plain rfl Iff.rfl rfl) rfl (fun hb => o_sig 15 id (c79 ed 0 ((b.hall.eds.length : Int) - 1)) e79 rfl rfl rfl w79 trivial r79) ?_
    refine DRQ.v rfl rfl rfl (o_and rfl rfl rfl id) ?_
    refine DRQ.v rfl rfl rfl (o_move rfl) ?_
    refine DRQ.gv 14 rfl rfl (.plain rfl Iff.rfl rfl) rfl (fun hb => o_ldp S3 rfl rfl rfl) ?_
    refine DRQ.gv 14 rfl rfl (.plain rfl Iff.rfl rfl) rfl (fun hb => o_sig 15 id (c80 mi) e80 rfl rfl rfl w80 trivial r80) ?_
    refine DRQ.v rfl rfl rfl (o_and rfl rfl rfl id) ?_
    refine DRQ.cs rfl rfl rfl rfl (o_sig 15 (ren [(0, 0), (1, 1), (2, 2), (3, 3), (4, 4), (5, 5), (6, 6), (7, 7), (8, 8)]) (c77 b (((within m 0 ((b.hall.bores.length : Int) - 1)) && (within ed 0 ((b.hall.eds.length : Int) - 1))) && (within mi 0 99)) hm hcv hrv) e77 rfl rfl rfl w77 ⟨(lx rfl), (lx rfl), (lx rfl), (lx rfl), (lx rfl), (lx rfl), (lx rfl), (lx rfl), (lx rfl), trivial⟩ r77) ?_
    refine DRQ.v rfl rfl rfl (o_move rfl) ?_
    refine DRQ.v rfl rfl rfl (o_extract rfl rfl) ?_
    refine DRQ.v rfl rfl rfl (o_extract rfl rfl) ?_
    refine DRQ.l 16 rfl rfl rfl rfl (o_alloc Z99) ?_
    refine DRQ.s 16 rfl rfl rfl (o_sta S99 rfl rfl rfl (.inl ⟨_, (lx rfl), PP.one⟩) rfl) ?_
    refine DRQ.v rfl rfl rfl (o_assign rfl) ?_
    refine DRQ.nil' ?_
    refine EX.then (WP.seq (WP.seq (WP.region ?_)))
    refine WPl.v rfl (o_move rfl) ?_
    refine WPl.v rfl (o_neq rfl rfl) ?_
    refine WPl.nil (EX.then ?_)
    refine WP.cond rfl (fun hc1 => ?_) (fun hc1 => ?_)
    · try simp only [cnd] at hc1
      simp at hc1
    · try simp only [cnd] at hc1
      refine WP.skip (EX.then (WP.seq (WP.region ?_)))
      refine WPl.v rfl (o_ldp S99 rfl rfl rfl) ?_
      refine WPl.imp (Imp.frzb (E := EBk) (y := b) 9 17 18 rfl rfl (bok_str ⟨⟨_, rfl, (lx rfl)⟩, ⟨_, rfl, (lx rfl)⟩, ⟨_, rfl, (lx rfl)⟩, rfl, ⟨_, rfl, (lx rfl)⟩, ⟨_, rfl, (lx rfl)⟩, ⟨_, rfl, (lx rfl)⟩, ⟨_, rfl, (lx rfl)⟩, rfl, ⟨_, rfl, (lx rfl)⟩, trivial⟩) rfl rfl rfl) ?_
      refine WPl.imp (Imp.frzb (E := EP.int) (y := ed) 11 18 19 rfl rfl (bok_int) rfl rfl rfl) ?_
      refine WPl.imp (Imp.frzb (E := EP.box (PP EBs ((⟨b, stS b⟩ : BookS)))) (y := ()) 16 19 20 rfl rfl (bok_box (lx rfl)) rfl rfl rfl) ?_
      refine WPl.imp (Imp.frzb (E := EP.int) (y := m) 10 20 21 rfl rfl (bok_int) rfl rfl rfl) ?_
      refine WPl.imp (Imp.frzb (E := EP.int) (y := mi) 12 21 22 rfl rfl (bok_int) rfl rfl rfl) ?_
      refine WPl.x 22 23 rfl rfl rfl (o_mkfve (svs := fun (o : (StyB (2 ^ b.tals.length))) => [.e (.a (.v (.int .u64 (o.1 : Int))))]) (X0 := fun (o : (StyB (2 ^ b.tals.length))) => []) (sv := fun (o : (StyB (2 ^ b.tals.length))) => .b ((rdS b m ed mi) o.1)) (X := fun (o : (StyB (2 ^ b.tals.length))) => []) (cs := [.e (.a (.q 0)), .e (.a (.q 1)), .e (.a (.q 2)), .e (.a (.q 3)), .e (.a (.q 4))]) (Xc := [(0, PP EBk (b)), (1, PP EP.int (ed)), (2, PP (EP.box (PP EBs ((⟨b, stS b⟩ : BookS)))) ()), (3, PP EP.int (m)), (4, PP EP.int (mi))]) 22 (ren [(0, 17), (1, 18), (2, 19), (3, 20), (4, 21)]) (fun (o : (StyB (2 ^ b.tals.length))) => (c82 o.1 b m ed mi (Nat.lt_of_lt_of_le o.2 hpo) ht8 (by omega) hm)) e82 (fun _ => rfl) rfl SvsOK.rf (fun _ => (by simp [SV.res, El.res, At.res, keys])) (by simp [SV.res, El.res, At.res, keys]) ⟨(lx rfl), (lx rfl), (lx rfl), (lx rfl), (lx rfl), trivial⟩) ?_
      refine WPl.cs 23 rfl rfl rfl rfl (o_sig 23 (ren [(0, 15), (1, 22)]) (c81 (⟨b, stS b⟩ : BookS) (2 ^ b.tals.length) (rdS b m ed mi) hsl.2 hdm) e81 rfl rfl rfl w81 ⟨(lx rfl), (lx rfl), trivial⟩ r81) ?_
      refine WPl.v rfl (o_assign rfl) ?_
      refine WPl.v rfl (o_assign rfl) ?_
      refine WPl.nil (EX.then (WP.ret ?_))
      rw [hf, show rdV b m ed mi = knownS ⟨b, stS b⟩ (rdS b m ed mi) from if_pos hf]
      exact EX.fin id (.inl rfl) rfl (.tmp rfl (.tmp rfl .nil)) rfl (by simp [SV.res, El.res, At.res, keys]) trivial (by simp) (by simp)
  · skip
    refine Sig.intro Tryz.func21 rfl 9 [(0, .e (.g [.q 0, .q 1, .q 2, ai (b.hall.change), .q 3, .q 4, .q 5, .q 6, ai (b.boys), .q 7])), (1, .i (m)), (2, .i (ed)), (3, .i (mi))] rfl w21 rfl rfl fun I w => ?_
    refine WP.seq (WP.region ?_)
    refine WPl.l 9 10 rfl rfl rfl (o_boxg rfl) ?_
    refine WPl.l 10 11 rfl rfl rfl (o_boxa rfl rfl) ?_
    refine WPl.l 11 12 rfl rfl rfl (o_boxa rfl rfl) ?_
    refine WPl.l 12 13 rfl rfl rfl (o_boxa rfl rfl) ?_
    refine WPl.v rfl (o_assign rfl) ?_
    refine WPl.v rfl (o_assign rfl) ?_
    refine WPl.nil (EX.then (WP.seq ?_))
    refine WP.imp (Imp.bit 13 14 (within m 0 ((b.hall.bores.length : Int) - 1)) rfl rfl) ?_
    refine WP.imp (Imp.bit 14 15 ((within m 0 ((b.hall.bores.length : Int) - 1)) && (within ed 0 ((b.hall.eds.length : Int) - 1))) rfl rfl) ?_
    refine WP.draw (nf := 16) [⟨[14, 15, 16, 17, 18, 19, 20, 21, 22, 23, 24, 25, 26, 27, 28, 29, 10], [15], [], [], []⟩, ⟨[13, 15, 10], [15], [], [], []⟩, ⟨[13, 14, 10], [15], [], [], []⟩, ⟨[13, 10], [15], [], [], [1, 2]⟩, ⟨[13, 10], [15], [], [], [1, 2, 3]⟩, ⟨[13, 19, 20, 21, 22, 23, 10], [15], [], [], [1, 2, 3, 4]⟩, ⟨[13, 18, 10], [15], [], [], [1, 2, 3, 4]⟩, ⟨[13, 18, 10], [15], [], [], [1, 2, 3, 4, 6]⟩, ⟨[13, 18, 10], [15], [], [], [1, 2, 3, 4, 6, 7]⟩, ⟨[13, 18, 10], [15], [], [], [1, 2, 3, 4, 6, 7, 8]⟩, ⟨[13, 18, 10], [15], [], [], [1, 2, 3, 4, 6, 7, 8, 9]⟩, ⟨[13, 10], [15], [], [], [1, 2, 3, 4, 5, 6, 7, 8, 9, 10]⟩, ⟨[13, 10], [15], [], [], [1, 2, 3, 4, 5, 6, 7, 8, 9, 10, 11]⟩, ⟨[13, 10], [15], [], [], [1, 2, 3, 4, 5, 6, 7, 8, 9, 10, 11, 12]⟩, ⟨[13, 10], [15], [], [], [1, 2, 3, 4, 5, 6, 7, 8, 9, 10, 11, 12, 13]⟩, ⟨[13, 10], [15], [], [], [1, 2, 3, 4, 5, 6, 7, 8, 9, 10, 11, 12, 13, 14]⟩, ⟨[13, 10], [15], [], [], [1, 2, 3, 4, 5, 6, 7, 8, 9, 10, 11, 12, 13, 14, 15]⟩, ⟨[10], [15], [], [], [0, 1, 2, 3, 4, 5, 6, 7, 8, 9, 10, 11, 12, 13, 14, 15, 16]⟩, ⟨[10], [15], [], [], [0, 1, 2, 3, 4, 5, 6, 7, 8, 9, 10, 11, 12, 13, 14, 15, 16, 17]⟩, ⟨[32, 10], [15], [], [], [0, 1, 2, 3, 4, 5, 6, 7, 8, 9, 10, 11, 12, 13, 14, 15, 16, 17, 18]⟩, ⟨[31, 10], [15], [], [], [0, 1, 2, 3, 4, 5, 6, 7, 8, 9, 10, 11, 12, 13, 14, 15, 16, 17, 18]⟩, ⟨[13, 14, 15, 16, 17, 18, 19, 20, 21, 22, 23, 24, 25, 26, 27, 28, 29, 30, 12, 31, 32], [], [15], [15], []⟩, ⟨[32], [], [], [15], [0, 1, 2, 3, 4, 5, 6, 7, 8, 9, 10, 11, 12, 13, 14, 15, 16, 17, 18, 19, 21]⟩, ⟨[], [], [], [], [0, 1, 2, 3, 4, 5, 6, 7, 8, 9, 10, 11, 12, 13, 14, 15, 16, 17, 18, 19, 20, 21, 22]⟩] (by kernel_rfl) (by kernel_rfl) ?_
    refine DRQ.v rfl rfl rfl (o_ldpa G33 rfl rfl rfl) ?_
    refine DRQ.v rfl rfl rfl (o_ldpa G33 rfl rfl rfl) ?_
    refine DRQ.v rfl rfl rfl (o_ldp S3 rfl rfl rfl) ?_
    refine DRQ.cs rfl rfl rfl rfl (o_sig 15 (ren [(0, 0), (1, 1), (2, 2), (3, 3), (4, 4), (5, 5), (6, 6), (7, 7)]) (c78 b m (by omega)) e78 rfl rfl rfl w78 ⟨(lx rfl), (lx rfl), (lx rfl), (lx rfl), (lx rfl), (lx rfl), (lx rfl), (lx rfl), trivial⟩ r78) ?_
    refine DRQ.v rfl rfl rfl (o_move rfl) ?_
    refine DRQ.gv 13 rfl rfl (.plain rfl Iff.rfl rfl) rfl (fun hb => o_ldp S3 rfl rfl rfl) ?_
    refine DRQ.gv 13 rfl rfl (.plain rfl Iff.rfl rfl) rfl (fun hb => o_fldp F33_0 rfl) ?_
    refine DRQ.gv 13 rfl rfl (.plain rfl Iff.rfl rfl) rfl (fun hb => o_fldp F29_2 rfl) ?_
    refine DRQ.gv 13 rfl rfl (.plain rfl Iff.rfl rfl) rfl (fun hb => o_ldp S27 rfl rfl rfl) ?_
    refine DRQ.gv 13 rfl rfl (.plain rfl Iff.rfl rfl) rfl (fun hb => o_lenq L27 rfl (lx rfl)) ?_
    refine DRQ.gv 13 rfl rfl (.plain rfl Iff.rfl rfl) rfl (fun hb => o_sub rfl rfl (by first | omega | (simp; omega)) (by first | omega | (simp; omega))) ?_
    refine DRQ.gv 13 rfl rfl (.plain rfl Iff.rfl rfl) rfl (fun hb => o_sig 15 id (c79 ed 0 ((b.hall.eds.length : Int) - 1)) e79 rfl rfl rfl w79 trivial r79) ?_
    refine DRQ.v rfl rfl rfl (o_and rfl rfl rfl id) ?_
    refine DRQ.v rfl rfl rfl (o_move rfl) ?_
    refine DRQ.gv 14 rfl rfl (.plain rfl Iff.rfl rfl) rfl (fun hb => o_ldp S3 rfl rfl rfl) ?_
    refine DRQ.gv 14 rfl rfl (.plain rfl Iff.rfl rfl) rfl (fun hb => o_sig 15 id (c80 mi) e80 rfl rfl rfl w80 trivial r80) ?_
    refine DRQ.v rfl rfl rfl (o_and rfl rfl rfl id) ?_
    refine DRQ.cs rfl rfl rfl rfl (o_sig 15 (ren [(0, 0), (1, 1), (2, 2), (3, 3), (4, 4), (5, 5), (6, 6), (7, 7)]) (c77E b (((within m 0 ((b.hall.bores.length : Int) - 1)) && (within ed 0 ((b.hall.eds.length : Int) - 1))) && (within mi 0 99)) hm hf) e77 rfl rfl rfl w77E ⟨(lx rfl), (lx rfl), (lx rfl), (lx rfl), (lx rfl), (lx rfl), (lx rfl), (lx rfl), trivial⟩ r77E) ?_
    refine DRQ.v rfl rfl rfl (o_move rfl) ?_
    refine DRQ.v rfl rfl rfl (o_extract rfl rfl) ?_
    refine DRQ.v rfl rfl rfl (o_extract rfl rfl) ?_
    refine DRQ.l 15 rfl rfl rfl rfl (o_alloc Z99) ?_
    refine DRQ.s 15 rfl rfl rfl (o_sta S99 rfl rfl rfl rfl rfl) ?_
    refine DRQ.v rfl rfl rfl (o_assign rfl) ?_
    refine DRQ.nil' ?_
    refine EX.then (WP.seq (WP.seq (WP.region ?_)))
    refine WPl.v rfl (o_move rfl) ?_
    refine WPl.v rfl (o_neq rfl rfl) ?_
    refine WPl.nil (EX.then ?_)
    refine WP.cond rfl (fun hc1 => ?_) (fun hc1 => ?_)
    · try simp only [cnd] at hc1
      refine WP.seq (WP.region ?_)
      refine WPl.v rfl (o_move rfl) ?_
      refine WPl.v rfl (o_assign rfl) ?_
      refine WPl.v rfl (o_assign rfl) ?_
      refine WPl.nil (EX.then (WP.ret (EX.ret_then ?_)))
      rw [show rdV b m ed mi = 0 from if_neg hf, show rdE b m ed mi = askE b ((within m 0 ((b.hall.bores.length : Int) - 1) && within ed 0 ((b.hall.eds.length : Int) - 1)) && within mi 0 99) from rfl]
      exact EX.fin id (.inl rfl) rfl (.tmp rfl (.tmp rfl .nil)) rfl (by simp [SV.res, El.res, At.res, keys]) trivial (by simp) (by simp)
    · try simp only [cnd] at hc1
      exact absurd hc1 hf
end Go.Flong
namespace Go.Eng
open Go
section
variable {cx : Cx} {S : St} {dst : Option Tmp} {ty : TypeId} {pos : String} {af : Array Edge} {gd : Option (Nat × Bool)} {x y : Operand} {t t' : TypeId} {a b : Int}
theorem o_rem (hx : S.op x = some (.i a)) (hy : S.op y = some (.i b)) (h1 : 0 ≤ a) (hb : 0 < b ∧ b ≤ 1000000) : OpG cx S ⟨dst, .binOp .rem t x y t', ty, pos, af, gd⟩ (.val (.i (a % b))) := by
  have hb0 : b ≠ 0 := by omega
  have : OpG cx S ⟨dst, .binOp .rem t x y t', ty, pos, af, gd⟩ (.val (.i (a.tmod b))) := o_bin hx hy fun w => by simp [eqGuard, binOp, Op.intDiv, hb0]
  rw [Int.tmod_eq_emod_of_nonneg h1] at this
  exact this
end
end Go.Eng
namespace Go.Flong
open Go Go.Eng Go.Proofs
theorem B77 : BldT Tryz.prog 77 [(0, 1), (1, 1), (2, 1)] [.int .i64 0, .int .i64 0, .int .i64 0] := BldT.mk (ns := [1, 1, 1]) Tryz.underlying77 ⟨Tryz.sizeOf3, Tryz.sizeOf3, Tryz.sizeOf3, trivial⟩ rfl Tryz.zeroValue77 rfl
theorem w36 {l : List Plate} : ∀ x ∈ ([.e (.a (.q 0))] : List SV), x.res (keys (α := Pred) [(0, PL EPl (l))]) := by simp [SV.res, El.res, At.res, keys]
theorem r36 {l : List Plate} : SV.res (keys (α := Pred) [(0, PL EP.int (countsR l))]) (.e (.a (.q 0))) := by simp [SV.res, El.res, At.res, keys]
set_option maxHeartbeats 4000000 in
theorem c36 (l : List Plate) (h : PlsOK l) : Sig Tryz.prog 36 [.e (.a (.q 0))] [(0, PL EPl (l))] (.e (.a (.q 0))) [(0, PL EP.int (countsR l))] := by
  have hn := h.n
  refine Sig.intro Tryz.func36 rfl 1 [(0, .e (.a (.q 0)))] rfl w36 rfl rfl fun I w => ?_
  refine WP.seq (WP.region ?_)
  refine WPl.v rfl (o_assign rfl) ?_
  refine WPl.nil (EX.then (WP.seq (WP.region ?_)))
  refine WPl.l 1 2 rfl rfl rfl (o_make (z := 0) (E := EP.int) 12 R24 (fun _ => rfl) rfl rfl (by first | omega | (simp; omega)) (by first | omega | (simp; omega))) ?_
  refine WPl.v rfl (o_assign rfl) ?_
  refine WPl.nil (EX.then (WP.seq (WP.seq (WP.region ?_))))
  refine WPl.v rfl (o_assign rfl) ?_
  refine WPl.nil (EX.then (WP.block ?_))
  refine WP.loop (Gh := Nat) (fun i => ⟨2, [(0, .e (.a (.q 0))), (2, .e (.a (.v (.slice none 0 0)))), (3, .e (.a (.q 1))), (4, .i ((i : Int)))], [(0, PL EPl (l))], [(1, .own 3 EP.int.size (cntTo l i).length (RP EP.int (cntTo l i)))], [], []⟩) (fun i => i ≤ l.length) (fun i => l.length - i) (0) id ?_ (LeR.of ⟨rfl, rfl, rfl, rfl, trivial⟩ ⟨(lx rfl), trivial⟩ ⟨rfl, trivial⟩ rfl rfl rfl rfl rfl) ?_
  · first | trivial | omega | (constructor <;> omega) | simp
  intro i hφ
  have hi : i ≤ l.length := hφ
  refine WP.seq (WP.seq (WP.region ?_))
  refine WPl.v rfl (o_move rfl) ?_
  refine WPl.v rfl (o_move rfl) ?_
  refine WPl.v rfl (o_lenq L30 rfl (lx rfl)) ?_
  refine WPl.v rfl (o_lss rfl rfl) ?_
  refine WPl.nil (EX.then ?_)
  refine WP.cond rfl (fun hc1 => ?_) (fun hc1 => ?_)
  · try simp only [cnd] at hc1
    have hp := h.p i (by omega)
    have hpi := plc_in (x := (nth l (i : Int)).page) (y := (nth l (i : Int)).bore) (by omega)
    have hcb := cntTo_bnd h (i := i) (by omega) hpi.1 hpi.2
    have hlen := cntTo_len l i
    refine WP.skip (EX.then (WP.seq (WP.block ?_)))
    refine WP.draw (nf := 5) [⟨[13, 14, 15, 16, 17, 18, 19, 20, 21, 22, 23, 26, 27, 28, 29, 30], [2, 3, 4], [], [], []⟩, ⟨[12, 14, 18, 19, 20, 21, 22, 26, 27, 28, 29, 30], [3, 4], [], [], []⟩, ⟨[12, 13, 18, 19, 20, 21, 22, 26, 27, 28, 29, 30], [3, 4], [], [], []⟩, ⟨[12, 18, 19, 20, 21, 22, 26, 27, 28, 29, 30], [3, 4], [2], [2], [1, 2]⟩, ⟨[12, 18, 19, 20, 21, 22, 26, 27, 28, 29, 30], [3, 4], [], [], [1, 2, 3]⟩, ⟨[12, 18, 19, 20, 21, 22, 26, 27, 28, 29, 30], [3, 4], [], [], [1, 2, 3, 4]⟩, ⟨[12, 13, 14, 15, 16, 17, 19, 26, 27, 28, 29, 30], [2, 4], [], [], []⟩, ⟨[12, 13, 14, 15, 16, 17, 18, 26, 27, 28, 29, 30], [2, 4], [], [], []⟩, ⟨[12, 13, 14, 15, 16, 17, 26, 27, 28, 29, 30], [2, 4], [3], [3], [6, 7]⟩, ⟨[12, 13, 14, 15, 16, 17, 26, 27, 28, 29, 30], [2, 4], [], [], [6, 7, 8]⟩, ⟨[12, 13, 14, 15, 16, 17, 26, 27, 28, 29, 30], [2, 4], [], [], [6, 7, 8, 9]⟩, ⟨[12, 26, 27, 28, 29, 30], [4], [], [], [1, 2, 3, 4, 5, 6, 7, 8, 9, 10]⟩, ⟨[26, 27, 28, 29, 30], [4], [], [], [0, 1, 2, 3, 4, 5, 6, 7, 8, 9, 10, 11]⟩, ⟨[26, 27, 28, 29, 30], [4], [], [], [0, 1, 2, 3, 4, 5, 6, 7, 8, 9, 10, 11, 12]⟩, ⟨[12, 13, 14, 15, 16, 17, 18, 19, 20, 21, 22, 23, 24, 25, 27], [2, 3], [], [], []⟩, ⟨[12, 13, 14, 15, 16, 17, 18, 19, 20, 21, 22, 23, 24, 25, 26], [2, 3], [], [], []⟩, ⟨[12, 13, 14, 15, 16, 17, 18, 19, 20, 21, 22, 23, 24, 25], [2, 3], [4], [4], [14, 15]⟩, ⟨[12, 13, 14, 15, 16, 17, 18, 19, 20, 21, 22, 23, 24, 25], [2, 3], [], [], [14, 15, 16]⟩, ⟨[12, 13, 14, 15, 16, 17, 18, 19, 20, 21, 22, 23, 24, 25], [2, 3], [], [], [14, 15, 16, 17]⟩, ⟨[], [], [], [], [0, 1, 2, 3, 4, 5, 6, 7, 8, 9, 10, 11, 12, 13, 14, 15, 16, 17, 18]⟩, ⟨[], [], [], [], [0, 1, 2, 3, 4, 5, 6, 7, 8, 9, 10, 11, 12, 13, 14, 15, 16, 17, 18, 19]⟩, ⟨[], [], [], [1], [0, 1, 2, 3, 4, 5, 6, 7, 8, 9, 10, 11, 12, 13, 14, 15, 16, 17, 18, 19, 20]⟩] (by kernel_rfl) (by kernel_rfl) ?_
    refine DRQ.v rfl rfl rfl (o_move rfl) ?_
    refine DRQ.v rfl rfl rfl (o_move rfl) ?_
    refine DRQ.v rfl rfl rfl (o_move rfl) ?_
    refine DRQ.x 2 rfl rfl rfl rfl (o_idx L30 rfl (lx rfl) rfl (by first | omega | (simp; omega)) (by first | omega | (simp; omega))) ?_
    refine DRQ.v rfl rfl rfl (o_fldq F77_0 rfl (lx rfl)) ?_
    refine DRQ.v rfl rfl rfl (o_lde S3 rfl (lx rfl) (strI rfl)) ?_
    refine DRQ.v rfl rfl rfl (o_move rfl) ?_
    refine DRQ.v rfl rfl rfl (o_move rfl) ?_
    refine DRQ.x 3 rfl rfl rfl rfl (o_idx L30 rfl (lx rfl) rfl (by first | omega | (simp; omega)) (by first | omega | (simp; omega))) ?_
    refine DRQ.v rfl rfl rfl (o_fldq F77_1 rfl (lx rfl)) ?_
    refine DRQ.v rfl rfl rfl (o_lde S3 rfl (lx rfl) (strI rfl)) ?_
    refine DRQ.cs rfl rfl rfl rfl (o_sig 4 id (c101 ((nth l (i : Int)).page) ((nth l (i : Int)).bore) (by omega) (by omega)) e101 rfl rfl rfl w101 trivial r101) ?_
    refine DRQ.v rfl rfl rfl (o_idxo L24 rfl rfl rfl (by first | omega | (simp; omega)) (by first | omega | (simp; omega))) ?_
    refine DRQ.v rfl rfl rfl (o_ldoi S3 rfl rfl rfl rfl (by first | omega | (simp; omega)) (by first | omega | (simp; omega))) ?_
    refine DRQ.v rfl rfl rfl (o_move rfl) ?_
    refine DRQ.v rfl rfl rfl (o_move rfl) ?_
    refine DRQ.x 4 rfl rfl rfl rfl (o_idx L30 rfl (lx rfl) rfl (by first | omega | (simp; omega)) (by first | omega | (simp; omega))) ?_
    refine DRQ.v rfl rfl rfl (o_fldq F77_2 rfl (lx rfl)) ?_
    refine DRQ.v rfl rfl rfl (o_lde S3 rfl (lx rfl) (strI rfl)) ?_
    refine DRQ.v rfl rfl rfl (o_add rfl rfl (by first | omega | (simp; omega)) (by first | omega | (simp; omega))) ?_
    refine DRQ.v rfl rfl rfl (o_idxo L24 rfl rfl rfl (by first | omega | (simp; omega)) (by first | omega | (simp; omega))) ?_
    refine DRQ.s 1 rfl rfl rfl (o_steE2 Tryz.sizeOf3 rfl rfl rfl rfl eok_int rfl rfl rfl (by first | omega | (simp; omega)) (by first | omega | (simp; omega))) ?_
    refine DRQ.nil' ?_
    refine EX.blk (EX.then (WP.region ?_))
    refine WPl.v rfl (o_move rfl) ?_
    refine WPl.v rfl (o_add rfl rfl (by first | omega | (simp; omega)) (by first | omega | (simp; omega))) ?_
    refine WPl.v rfl (o_assign rfl) ?_
    refine WPl.nil ?_
    refine EX.again (i + 1) id (by first | omega | (constructor <;> omega)) (by omega) (LeR.of ⟨rfl, rfl, rfl, rfl, trivial⟩ ⟨(lx rfl), trivial⟩ ⟨rfl, trivial⟩ rfl rfl rfl rfl rfl)
  · try simp only [cnd] at hc1
    refine WP.exit (EX.exit_then (EX.exit_then (EX.exit_blk (EX.then (WP.seq (WP.region ?_))))))
    refine WPl.v rfl (o_move rfl) ?_
    refine WPl.v rfl (o_assign rfl) ?_
    refine WPl.nil (EX.then (WP.ret ?_))
    refine EX.imp (Imp.frz (E := EP.int) (l := cntTo l i) 1 rfl rfl) ?_
    have he : i = l.length := by omega
    subst he
    exact EX.fin (ren [(0, 1)]) (.inl rfl) rfl (.tmp rfl .nil) rfl (by simp [SV.res, El.res, At.res, keys]) ⟨(lx rfl), trivial⟩ (by simp) (by simp)
theorem w36O {l : List Plate} : ∀ x ∈ ([.e (.a (.q 0))] : List SV), x.res (keys (α := Pred) [(0, PL EPl (l))]) := by simp [SV.res, El.res, At.res, keys]
theorem r36O  : SV.res (keys (α := Pred) [(0, Pred.top)]) (.e (.a (.q 0))) := by simp [SV.res, El.res, At.res, keys]
set_option maxHeartbeats 4000000 in
theorem c36O (l : List Plate) (h : PlsOK l) : SigO Tryz.prog 36 [.e (.a (.q 0))] [(0, PL EPl (l))] (.e (.a (.q 0))) [(0, Pred.top)] [(0, .own 3 EP.int.size (countsR l).length (RP EP.int (countsR l)))] := by
  have hn := h.n
  refine SigO.intro Tryz.func36 rfl 1 [(0, .e (.a (.q 0)))] rfl w36O rfl rfl fun I w => ?_
  refine WP.seq (WP.region ?_)
  refine WPl.v rfl (o_assign rfl) ?_
  refine WPl.nil (EX.then (WP.seq (WP.region ?_)))
  refine WPl.l 1 2 rfl rfl rfl (o_make (z := 0) (E := EP.int) 12 R24 (fun _ => rfl) rfl rfl (by first | omega | (simp; omega)) (by first | omega | (simp; omega))) ?_
  refine WPl.v rfl (o_assign rfl) ?_
  refine WPl.nil (EX.then (WP.seq (WP.seq (WP.region ?_))))
  refine WPl.v rfl (o_assign rfl) ?_
  refine WPl.nil (EX.then (WP.block ?_))
  refine WP.loop (Gh := Nat) (fun i => ⟨2, [(0, .e (.a (.q 0))), (2, .e (.a (.v (.slice none 0 0)))), (3, .e (.a (.q 1))), (4, .i ((i : Int)))], [(0, PL EPl (l))], [(1, .own 3 EP.int.size (cntTo l i).length (RP EP.int (cntTo l i)))], [], []⟩) (fun i => i ≤ l.length) (fun i => l.length - i) (0) id ?_ (LeR.of ⟨rfl, rfl, rfl, rfl, trivial⟩ ⟨(lx rfl), trivial⟩ ⟨rfl, trivial⟩ rfl rfl rfl rfl rfl) ?_
  · first | trivial | omega | (constructor <;> omega) | simp
  intro i hφ
  have hi : i ≤ l.length := hφ
  refine WP.seq (WP.seq (WP.region ?_))
  refine WPl.v rfl (o_move rfl) ?_
  refine WPl.v rfl (o_move rfl) ?_
  refine WPl.v rfl (o_lenq L30 rfl (lx rfl)) ?_
  refine WPl.v rfl (o_lss rfl rfl) ?_
  refine WPl.nil (EX.then ?_)
  refine WP.cond rfl (fun hc1 => ?_) (fun hc1 => ?_)
  · try simp only [cnd] at hc1
    have hp := h.p i (by omega)
    have hpi := plc_in (x := (nth l (i : Int)).page) (y := (nth l (i : Int)).bore) (by omega)
    have hcb := cntTo_bnd h (i := i) (by omega) hpi.1 hpi.2
    have hlen := cntTo_len l i
    refine WP.skip (EX.then (WP.seq (WP.block ?_)))
    refine WP.draw (nf := 5) [⟨[13, 14, 15, 16, 17, 18, 19, 20, 21, 22, 23, 26, 27, 28, 29, 30], [2, 3, 4], [], [], []⟩, ⟨[12, 14, 18, 19, 20, 21, 22, 26, 27, 28, 29, 30], [3, 4], [], [], []⟩, ⟨[12, 13, 18, 19, 20, 21, 22, 26, 27, 28, 29, 30], [3, 4], [], [], []⟩, ⟨[12, 18, 19, 20, 21, 22, 26, 27, 28, 29, 30], [3, 4], [2], [2], [1, 2]⟩, ⟨[12, 18, 19, 20, 21, 22, 26, 27, 28, 29, 30], [3, 4], [], [], [1, 2, 3]⟩, ⟨[12, 18, 19, 20, 21, 22, 26, 27, 28, 29, 30], [3, 4], [], [], [1, 2, 3, 4]⟩, ⟨[12, 13, 14, 15, 16, 17, 19, 26, 27, 28, 29, 30], [2, 4], [], [], []⟩, ⟨[12, 13, 14, 15, 16, 17, 18, 26, 27, 28, 29, 30], [2, 4], [], [], []⟩, ⟨[12, 13, 14, 15, 16, 17, 26, 27, 28, 29, 30], [2, 4], [3], [3], [6, 7]⟩, ⟨[12, 13, 14, 15, 16, 17, 26, 27, 28, 29, 30], [2, 4], [], [], [6, 7, 8]⟩, ⟨[12, 13, 14, 15, 16, 17, 26, 27, 28, 29, 30], [2, 4], [], [], [6, 7, 8, 9]⟩, ⟨[12, 26, 27, 28, 29, 30], [4], [], [], [1, 2, 3, 4, 5, 6, 7, 8, 9, 10]⟩, ⟨[26, 27, 28, 29, 30], [4], [], [], [0, 1, 2, 3, 4, 5, 6, 7, 8, 9, 10, 11]⟩, ⟨[26, 27, 28, 29, 30], [4], [], [], [0, 1, 2, 3, 4, 5, 6, 7, 8, 9, 10, 11, 12]⟩, ⟨[12, 13, 14, 15, 16, 17, 18, 19, 20, 21, 22, 23, 24, 25, 27], [2, 3], [], [], []⟩, ⟨[12, 13, 14, 15, 16, 17, 18, 19, 20, 21, 22, 23, 24, 25, 26], [2, 3], [], [], []⟩, ⟨[12, 13, 14, 15, 16, 17, 18, 19, 20, 21, 22, 23, 24, 25], [2, 3], [4], [4], [14, 15]⟩, ⟨[12, 13, 14, 15, 16, 17, 18, 19, 20, 21, 22, 23, 24, 25], [2, 3], [], [], [14, 15, 16]⟩, ⟨[12, 13, 14, 15, 16, 17, 18, 19, 20, 21, 22, 23, 24, 25], [2, 3], [], [], [14, 15, 16, 17]⟩, ⟨[], [], [], [], [0, 1, 2, 3, 4, 5, 6, 7, 8, 9, 10, 11, 12, 13, 14, 15, 16, 17, 18]⟩, ⟨[], [], [], [], [0, 1, 2, 3, 4, 5, 6, 7, 8, 9, 10, 11, 12, 13, 14, 15, 16, 17, 18, 19]⟩, ⟨[], [], [], [1], [0, 1, 2, 3, 4, 5, 6, 7, 8, 9, 10, 11, 12, 13, 14, 15, 16, 17, 18, 19, 20]⟩] (by kernel_rfl) (by kernel_rfl) ?_
    refine DRQ.v rfl rfl rfl (o_move rfl) ?_
    refine DRQ.v rfl rfl rfl (o_move rfl) ?_
    refine DRQ.v rfl rfl rfl (o_move rfl) ?_
    refine DRQ.x 2 rfl rfl rfl rfl (o_idx L30 rfl (lx rfl) rfl (by first | omega | (simp; omega)) (by first | omega | (simp; omega))) ?_
    refine DRQ.v rfl rfl rfl (o_fldq F77_0 rfl (lx rfl)) ?_
    refine DRQ.v rfl rfl rfl (o_lde S3 rfl (lx rfl) (strI rfl)) ?_
    refine DRQ.v rfl rfl rfl (o_move rfl) ?_
    refine DRQ.v rfl rfl rfl (o_move rfl) ?_
    refine DRQ.x 3 rfl rfl rfl rfl (o_idx L30 rfl (lx rfl) rfl (by first | omega | (simp; omega)) (by first | omega | (simp; omega))) ?_
    refine DRQ.v rfl rfl rfl (o_fldq F77_1 rfl (lx rfl)) ?_
    refine DRQ.v rfl rfl rfl (o_lde S3 rfl (lx rfl) (strI rfl)) ?_
    refine DRQ.cs rfl rfl rfl rfl (o_sig 4 id (c101 ((nth l (i : Int)).page) ((nth l (i : Int)).bore) (by omega) (by omega)) e101 rfl rfl rfl w101 trivial r101) ?_
    refine DRQ.v rfl rfl rfl (o_idxo L24 rfl rfl rfl (by first | omega | (simp; omega)) (by first | omega | (simp; omega))) ?_
    refine DRQ.v rfl rfl rfl (o_ldoi S3 rfl rfl rfl rfl (by first | omega | (simp; omega)) (by first | omega | (simp; omega))) ?_
    refine DRQ.v rfl rfl rfl (o_move rfl) ?_
    refine DRQ.v rfl rfl rfl (o_move rfl) ?_
    refine DRQ.x 4 rfl rfl rfl rfl (o_idx L30 rfl (lx rfl) rfl (by first | omega | (simp; omega)) (by first | omega | (simp; omega))) ?_
    refine DRQ.v rfl rfl rfl (o_fldq F77_2 rfl (lx rfl)) ?_
    refine DRQ.v rfl rfl rfl (o_lde S3 rfl (lx rfl) (strI rfl)) ?_
    refine DRQ.v rfl rfl rfl (o_add rfl rfl (by first | omega | (simp; omega)) (by first | omega | (simp; omega))) ?_
    refine DRQ.v rfl rfl rfl (o_idxo L24 rfl rfl rfl (by first | omega | (simp; omega)) (by first | omega | (simp; omega))) ?_
    refine DRQ.s 1 rfl rfl rfl (o_steE2 Tryz.sizeOf3 rfl rfl rfl rfl eok_int rfl rfl rfl (by first | omega | (simp; omega)) (by first | omega | (simp; omega))) ?_
    refine DRQ.nil' ?_
    refine EX.blk (EX.then (WP.region ?_))
    refine WPl.v rfl (o_move rfl) ?_
    refine WPl.v rfl (o_add rfl rfl (by first | omega | (simp; omega)) (by first | omega | (simp; omega))) ?_
    refine WPl.v rfl (o_assign rfl) ?_
    refine WPl.nil ?_
    refine EX.again (i + 1) id (by first | omega | (constructor <;> omega)) (by omega) (LeR.of ⟨rfl, rfl, rfl, rfl, trivial⟩ ⟨(lx rfl), trivial⟩ ⟨rfl, trivial⟩ rfl rfl rfl rfl rfl)
  · try simp only [cnd] at hc1
    refine WP.exit (EX.exit_then (EX.exit_then (EX.exit_blk (EX.then (WP.seq (WP.region ?_))))))
    refine WPl.v rfl (o_move rfl) ?_
    refine WPl.v rfl (o_assign rfl) ?_
    refine WPl.nil (EX.then (WP.ret ?_))
    refine EX.imp (Imp.topX 1 rfl) ?_
    have he : i = l.length := by omega
    subst he
    exact EX.finO (ren [(0, 1)]) rfl (.inl rfl) rfl (.tmp rfl .nil) rfl (by simp [SV.res, El.res, At.res, keys]) ⟨lx rfl, trivial⟩ ⟨rfl, trivial⟩ rfl rfl (by simp) (by simp)
end Go.Flong
namespace Go.Flong
open Go Go.Eng Go.Proofs
theorem R27 : RowT Tryz.prog 27 24 1 24 [.slice none 0 0] := ⟨Tryz.underlying27, ⟨Tryz.t24, _, by kernel_rfl, rfl, rfl, rfl, rfl⟩, rfl, by decide⟩
theorem Z26 : Zero Tryz.prog 26 [.v (.slice none 0 0), .v (.slice none 0 0), .v (.slice none 0 0), ai (0)] := .mk Tryz.zeroValue26 rfl rfl
theorem R22 : RowT Tryz.prog 22 156 3 24 [.int .i64 0, .int .i64 0, .int .i64 0] := ⟨Tryz.underlying22, ⟨Tryz.t156, _, by kernel_rfl, rfl, rfl, rfl, rfl⟩, rfl, by decide⟩
theorem R23 : RowT Tryz.prog 23 95 3 24 [.int .i64 0, .int .i64 0, .int .i64 0] := ⟨Tryz.underlying23, ⟨Tryz.t95, _, by kernel_rfl, rfl, rfl, rfl, rfl⟩, rfl, by decide⟩
theorem B26 : BldT Tryz.prog 26 [(0, 1), (1, 1), (2, 1), (3, 1)] [.slice none 0 0, .slice none 0 0, .slice none 0 0, .int .i64 0] := BldT.mk (ns := [1, 1, 1, 1]) Tryz.underlying26 ⟨Tryz.sizeOf22, Tryz.sizeOf23, Tryz.sizeOf24, Tryz.sizeOf3, trivial⟩ rfl Tryz.zeroValue26 rfl
theorem Z29 : Zero Tryz.prog 29 [.v (.slice none 0 0), .v (.slice none 0 0), .v (.slice none 0 0), ai (0), .v (.slice none 0 0), .v (.slice none 0 0)] := .mk Tryz.zeroValue29 rfl rfl
theorem e130 : Enters' Tryz.prog 130 := Tryz.call130
theorem e73 : Enters' Tryz.prog 73 := Tryz.call73
theorem B29 : BldT Tryz.prog 29 [(0, 4), (4, 1), (5, 1)] [.slice none 0 0, .slice none 0 0, .slice none 0 0, .int .i64 0, .slice none 0 0, .slice none 0 0] := BldT.mk (ns := [4, 1, 1]) Tryz.underlying29 ⟨Tryz.sizeOf26, Tryz.sizeOf24, Tryz.sizeOf27, trivial⟩ rfl Tryz.zeroValue29 rfl
theorem Z33 : Zero Tryz.prog 33 [.v (.slice none 0 0), .v (.slice none 0 0), .v (.slice none 0 0), ai (0), .v (.slice none 0 0), .v (.slice none 0 0), .v (.slice none 0 0), .v (.slice none 0 0), ai (0), .v (.slice none 0 0)] := .mk Tryz.zeroValue33 rfl rfl
theorem e74 : Enters' Tryz.prog 74 := Tryz.call74
theorem e28 : Enters' Tryz.prog 28 := Tryz.call28
theorem R31 : RowT Tryz.prog 31 58 4 32 [.int .i64 0, .int .i64 0, .int .i64 0, .int .i64 0] := ⟨Tryz.underlying31, ⟨Tryz.t58, _, by kernel_rfl, rfl, rfl, rfl, rfl⟩, rfl, by decide⟩
theorem B33 : BldT Tryz.prog 33 [(0, 6), (6, 1), (7, 1), (8, 1), (9, 1)] [.slice none 0 0, .slice none 0 0, .slice none 0 0, .int .i64 0, .slice none 0 0, .slice none 0 0, .slice none 0 0, .slice none 0 0, .int .i64 0, .slice none 0 0] := BldT.mk (ns := [6, 1, 1, 1, 1]) Tryz.underlying33 ⟨Tryz.sizeOf29, Tryz.sizeOf30, Tryz.sizeOf24, Tryz.sizeOf3, Tryz.sizeOf31, trivial⟩ rfl Tryz.zeroValue33 rfl
theorem w57F {c : List Int} : ∀ x ∈ ([.e (.a (.q 0))] : List SV), x.res (keys (α := Pred) [(0, PL EP.int (c))]) := by simp [SV.res, El.res, At.res, keys]
theorem r57F {c : List Int} : SV.res (keys (α := Pred) [(0, PL EPl (setOf c))]) (.e (.a (.q 0))) := by simp [SV.res, El.res, At.res, keys]
set_option maxHeartbeats 4000000 in
theorem c57F (c : List Int) (hl : c.length ≤ 1000) : SigF Tryz.prog 57 [.e (.a (.q 0))] [(0, PL EP.int (c))] (.e (.a (.q 0))) [(0, PL EPl (setOf c))] := by
  refine SigF.intro Tryz.func57 rfl 1 [(0, .e (.a (.q 0)))] rfl w57F rfl rfl fun I w => ?_
  refine WP.seq (WP.region ?_)
  refine WPl.v rfl (o_assign rfl) ?_
  refine WPl.nil (EX.then (WP.seq (WP.region ?_)))
  refine WPl.v rfl (o_assign rfl) ?_
  refine WPl.imp (Imp.namo EPl 1 2 77 rfl rfl) ?_
  refine WPl.imp (Imp.swF 3 1 rfl (lx rfl)) ?_
  refine WPl.nil (EX.then (WP.seq (WP.seq (WP.region ?_))))
  refine WPl.v rfl (o_assign rfl) ?_
  refine WPl.nil (EX.then (WP.block ?_))
  refine WP.loop (Gh := Nat) (fun i => ⟨2, [(0, .e (.a (.q 0))), (2, .e (.a (.v (.slice none 0 0)))), (3, .e (.a (.q 1))), (4, .i ((i : Int)))], [(0, PL EP.int (c))], [(1, .own 77 EPl.size (setTo c i).length (RP EPl (setTo c i)))], [], []⟩) (fun i => i ≤ c.length) (fun i => c.length - i) (0) id ?_ (LeR.of ⟨rfl, rfl, rfl, rfl, trivial⟩ ⟨(lx rfl), trivial⟩ ⟨rfl, trivial⟩ rfl rfl rfl rfl rfl) ?_
  · first | trivial | omega | (constructor <;> omega) | simp
  intro i hφ
  have hi : i ≤ c.length := hφ
  refine WP.seq (WP.seq (WP.region ?_))
  refine WPl.v rfl (o_move rfl) ?_
  refine WPl.v rfl (o_move rfl) ?_
  refine WPl.v rfl (o_lenq L24 rfl (lx rfl)) ?_
  refine WPl.v rfl (o_lss rfl rfl) ?_
  refine WPl.nil (EX.then ?_)
  refine WP.cond rfl (fun hc1 => ?_) (fun hc1 => ?_)
  · try simp only [cnd] at hc1
    refine WP.skip (EX.then (WP.seq (WP.block (WP.seq (WP.region ?_)))))
    refine WPl.v rfl (o_move rfl) ?_
    refine WPl.v rfl (o_move rfl) ?_
    refine WPl.x 2 3 rfl rfl rfl (o_idx L24 rfl (lx rfl) rfl (by first | omega | (simp; omega)) (by first | omega | (simp; omega))) ?_
    refine WPl.v rfl (o_ldq S3 rfl (lx rfl) intc) ?_
    refine WPl.v rfl (o_gtr rfl rfl) ?_
    refine WPl.nil (EX.then ?_)
    refine WP.cond rfl (fun hc2 => ?_) (fun hc2 => ?_)
    · try simp only [cnd] at hc2
      refine WP.region ?_
      refine WPl.v rfl (o_move rfl) ?_
      refine WPl.v rfl (o_move rfl) ?_
      refine WPl.v rfl (o_quo rfl rfl (by first | omega | (simp; omega)) (by first | omega | (simp; omega)) (by first | omega | (simp; omega))) ?_
      refine WPl.v rfl (o_move rfl) ?_
      refine WPl.v rfl (o_rem rfl rfl (by first | omega | (simp; omega)) (by first | omega | (simp; omega))) ?_
      refine WPl.v rfl (o_move rfl) ?_
      refine WPl.v rfl (o_move rfl) ?_
      refine WPl.x 3 4 rfl rfl rfl (o_idx L24 rfl (lx rfl) rfl (by first | omega | (simp; omega)) (by first | omega | (simp; omega))) ?_
      refine WPl.v rfl (o_ldq S3 rfl (lx rfl) intc) ?_
      refine WPl.v rfl (o_build B77 rfl ⟨rfl, rfl, rfl, trivial⟩ rfl rfl) ?_
      refine WPl.l 4 5 rfl rfl rfl (o_bsl (E := EPl) (l := [(⟨(i : Int).tdiv 3, (i : Int) % 3, nth c (i : Int)⟩ : Plate)]) R30 rfl rfl (.cons (⟨rfl, rfl, rfl, trivial⟩) rfl (eok_str ⟨rfl, rfl, rfl, trivial⟩) (.nil)) rfl rfl) ?_
      refine WPl.u1 (k := 5) (m := 6) rfl rfl rfl (o_appo R30 EP.str_one rfl rfl rfl rfl (by have := setTo_len c i; first | omega | (simp; omega)) (by have := setTo_len c i; first | omega | (simp; omega))) ?_
      refine WPl.v rfl (o_assign rfl) ?_
      refine WPl.nil (EX.blk (EX.then (WP.region ?_)))
      refine WPl.v rfl (o_move rfl) ?_
      refine WPl.v rfl (o_add rfl rfl (by first | omega | (simp; omega)) (by first | omega | (simp; omega))) ?_
      refine WPl.v rfl (o_assign rfl) ?_
      refine WPl.nil ?_
      refine EX.again (i + 1) (ren [(1, 5)]) (by first | omega | (constructor <;> omega)) (by omega) (LeR.of ⟨rfl, rfl, rfl, rfl, trivial⟩ ⟨(lx rfl), trivial⟩ ⟨(congrArg (fun z => some (Ent.own 77 EPl.size (List.length z) (RP EPl z))) (show ((setTo c i) ++ [(⟨(i : Int).tdiv 3, (i : Int) % 3, nth c (i : Int)⟩ : Plate)]) = ((fun i => setTo c i) (i + 1)) from by dsimp only; simp only [setTo]; rw [if_pos hc2])), trivial⟩ rfl rfl rfl rfl rfl)
    · try simp only [cnd] at hc2
      refine WP.skip (EX.blk (EX.then (WP.region ?_)))
      refine WPl.v rfl (o_move rfl) ?_
      refine WPl.v rfl (o_add rfl rfl (by first | omega | (simp; omega)) (by first | omega | (simp; omega))) ?_
      refine WPl.v rfl (o_assign rfl) ?_
      refine WPl.nil ?_
      refine EX.again (i + 1) id (by first | omega | (constructor <;> omega)) (by omega) (LeR.of ⟨rfl, rfl, rfl, rfl, trivial⟩ ⟨(lx rfl), trivial⟩ ⟨(congrArg (fun z => some (Ent.own 77 EPl.size (List.length z) (RP EPl z))) (show (setTo c i) = ((fun i => setTo c i) (i + 1)) from by dsimp only; simp only [setTo]; rw [if_neg hc2])), trivial⟩ rfl rfl rfl rfl rfl)
  · try simp only [cnd] at hc1
    refine WP.exit (EX.exit_then (EX.exit_then (EX.exit_blk (EX.then (WP.seq (WP.region ?_))))))
    refine WPl.v rfl (o_move rfl) ?_
    refine WPl.v rfl (o_assign rfl) ?_
    refine WPl.nil (EX.then (WP.ret ?_))
    refine EX.imp (Imp.frzf (E := EPl) (l := setTo c i) 1 (str_free rfl) rfl rfl) ?_
    have he : i = c.length := by omega
    subst he
    exact EX.fin (ren [(0, 1)]) (.inl rfl) rfl (.tmp rfl .nil) rfl (by simp [SV.res, El.res, At.res, keys]) ⟨(lx rfl), trivial⟩ (by simp) (by simp)
theorem w73 {p : List (List Int)} : ∀ x ∈ ([.e (.a (.q 0))] : List SV), x.res (keys (α := Pred) [(0, PL (EP.sl EP.int) (p))]) := by simp [SV.res, El.res, At.res, keys]
theorem r73 {p : List (List Int)} : SV.res (keys (α := Pred) [(0, PL (EP.sl EP.int) (p))]) (.e (.a (.q 0))) := by simp [SV.res, El.res, At.res, keys]
set_option maxHeartbeats 4000000 in
theorem c73 (p : List (List Int)) (hl : p.length ≤ 1000) (hr : ∀ i : Nat, i < p.length → (nth p (i : Int)).length ≤ 1000) : Sig Tryz.prog 73 [.e (.a (.q 0))] [(0, PL (EP.sl EP.int) (p))] (.e (.a (.q 0))) [(0, PL (EP.sl EP.int) (p))] := by
  refine Sig.intro Tryz.func73 rfl 1 [(0, .e (.a (.q 0)))] rfl w73 rfl rfl fun I w => ?_
  refine WP.seq (WP.region ?_)
  refine WPl.v rfl (o_assign rfl) ?_
  refine WPl.nil (EX.then (WP.seq (WP.region ?_)))
  refine WPl.v rfl (o_assign rfl) ?_
  refine WPl.imp (Imp.namo (EP.sl EP.int) 1 2 24 rfl rfl) ?_
  refine WPl.imp (Imp.swF 3 1 rfl (lx rfl)) ?_
  refine WPl.nil (EX.then (WP.seq (WP.seq (WP.region ?_))))
  refine WPl.v rfl (o_assign rfl) ?_
  refine WPl.nil (EX.then (WP.block ?_))
  refine WP.loop (Gh := Nat) (fun i => ⟨2, [(0, .e (.a (.q 0))), (2, .e (.a (.v (.slice none 0 0)))), (3, .e (.a (.q 1))), (4, .i ((i : Int)))], [(0, PL (EP.sl EP.int) (p))], [(1, .own 24 (EP.sl EP.int).size (p.take i).length (RP (EP.sl EP.int) (p.take i)))], [], []⟩) (fun i => i ≤ p.length) (fun i => p.length - i) (0) id ?_ (LeR.of ⟨rfl, rfl, rfl, rfl, trivial⟩ ⟨(lx rfl), trivial⟩ ⟨(congrArg (fun z => some (Ent.own 24 (EP.sl EP.int).size (List.length z) (RP (EP.sl EP.int) z))) (show ([]) = ((fun i => p.take i) 0) from by simp)), trivial⟩ rfl rfl rfl rfl rfl) ?_
  · first | trivial | omega | (constructor <;> omega) | simp
  intro i hφ
  have hi : i ≤ p.length := hφ
  refine WP.seq (WP.seq (WP.region ?_))
  refine WPl.v rfl (o_move rfl) ?_
  refine WPl.v rfl (o_move rfl) ?_
  refine WPl.v rfl (o_lenq L27 rfl (lx rfl)) ?_
  refine WPl.v rfl (o_lss rfl rfl) ?_
  refine WPl.nil (EX.then ?_)
  refine WP.cond rfl (fun hc1 => ?_) (fun hc1 => ?_)
  · try simp only [cnd] at hc1
    refine WP.skip (EX.then (WP.seq (WP.block (WP.region ?_))))
    refine WPl.v rfl (o_move rfl) ?_
    refine WPl.l 2 3 rfl rfl rfl (o_bsl (E := EP.int) (l := []) R24 rfl rfl (.nil) rfl rfl) ?_
    refine WPl.v rfl (o_move rfl) ?_
    refine WPl.v rfl (o_move rfl) ?_
    refine WPl.x 3 4 rfl rfl rfl (o_idx L27 rfl (lx rfl) rfl (by first | omega | (simp; omega)) (by first | omega | (simp; omega))) ?_
    refine WPl.x 4 5 rfl rfl rfl (o_ldqx S24 rfl (lx rfl) slx) ?_
    refine WPl.u1 (k := 5) (m := 6) rfl rfl rfl (OpG.settle1 (.inl rfl) rfl (o_apps R24 EP.int_one rfl rfl rfl (lx rfl) (by have := hr i (by omega); simp; omega) (by have := hr i (by omega); simp; omega))) ?_
    refine WPl.l 6 7 rfl rfl rfl (o_bsl (E := (EP.sl EP.int)) (l := [[] ++ (nth p (i : Int))]) R27 rfl rfl (.cons ((.inl ⟨_, (lx rfl), PL.one⟩)) rfl (eok_sl (lx rfl)) (.nil)) rfl rfl) ?_
    refine WPl.u1 (k := 7) (m := 8) rfl rfl rfl (o_appo R27 EP.sl_one rfl rfl rfl rfl (by simp; omega) (by simp; omega)) ?_
    refine WPl.v rfl (o_assign rfl) ?_
    refine WPl.nil (EX.blk (EX.then (WP.region ?_)))
    refine WPl.v rfl (o_move rfl) ?_
    refine WPl.v rfl (o_add rfl rfl (by first | omega | (simp; omega)) (by first | omega | (simp; omega))) ?_
    refine WPl.v rfl (o_assign rfl) ?_
    refine WPl.nil ?_
    refine EX.again (i + 1) (ren [(1, 7)]) (by first | omega | (constructor <;> omega)) (by omega) (LeR.of ⟨rfl, rfl, rfl, rfl, trivial⟩ ⟨(lx rfl), trivial⟩ ⟨(congrArg (fun z => some (Ent.own 24 (EP.sl EP.int).size (List.length z) (RP (EP.sl EP.int) z))) (show ((p.take i) ++ [[] ++ (nth p (i : Int))]) = ((fun i => p.take i) (i + 1)) from by dsimp only; rw [List.nil_append]; exact take_snoc (by omega))), trivial⟩ rfl rfl rfl rfl rfl)
  · try simp only [cnd] at hc1
    refine WP.exit (EX.exit_then (EX.exit_then (EX.exit_blk (EX.then (WP.seq (WP.region ?_))))))
    refine WPl.v rfl (o_move rfl) ?_
    refine WPl.v rfl (o_assign rfl) ?_
    refine WPl.nil (EX.then (WP.ret ?_))
    refine EX.imp (Imp.frz (E := (EP.sl EP.int)) (l := p.take i) 1 rfl rfl) ?_
    have hie : i = p.length := by omega
    rw [hie, List.take_length]
    exact EX.fin (ren [(0, 1)]) (.inl rfl) rfl (.tmp rfl .nil) rfl (by simp [SV.res, El.res, At.res, keys]) ⟨(lx rfl), trivial⟩ (by simp) (by simp)
theorem w28 {l : List Plate} : ∀ x ∈ ([.e (.a (.q 0))] : List SV), x.res (keys (α := Pred) [(0, PL EPl (l))]) := by simp [SV.res, El.res, At.res, keys]
theorem r28 {l : List Plate} : SV.res (keys (α := Pred) [(0, PL EPl (l))]) (.e (.a (.q 0))) := by simp [SV.res, El.res, At.res, keys]
set_option maxHeartbeats 4000000 in
theorem c28 (l : List Plate) (hl : l.length ≤ 1000) : Sig Tryz.prog 28 [.e (.a (.q 0))] [(0, PL EPl (l))] (.e (.a (.q 0))) [(0, PL EPl (l))] := by
  refine Sig.intro Tryz.func28 rfl 1 [(0, .e (.a (.q 0)))] rfl w28 rfl rfl fun I w => ?_
  refine WP.seq (WP.region ?_)
  refine WPl.v rfl (o_assign rfl) ?_
  refine WPl.nil (EX.then (WP.seq (WP.region ?_)))
  refine WPl.l 1 2 rfl rfl rfl (o_bsl (E := EPl) (l := []) R30 rfl rfl (.nil) rfl rfl) ?_
  refine WPl.v rfl (o_move rfl) ?_
  refine WPl.u1 (k := 2) (m := 3) rfl rfl rfl (o_apps R30 EP.str_one rfl rfl rfl (lx rfl) (by simp; omega) (by simp; omega)) ?_
  refine WPl.v rfl (o_assign rfl) ?_
  refine WPl.nil (EX.then (WP.ret ?_))
  refine EX.imp (Imp.frz (E := EPl) (l := [] ++ l) 2 rfl rfl) ?_
  exact EX.fin (ren [(0, 2)]) (.inl rfl) rfl (.tmp rfl .nil) rfl r28 ⟨(lx rfl), trivial⟩ (by simp) (by simp)
theorem w130 {h : Hall} : ∀ x ∈ ([.e (.g [.q 0, .q 1, .q 2, ai (h.change)])] : List SV), x.res (keys (α := Pred) [(0, PL ETm (h.machs)), (1, PL EBd (h.buns)), (2, PL EP.int (h.trains))]) := by simp [SV.res, El.res, At.res, keys]
theorem r130 {h : Hall} : SV.res (keys (α := Pred) [(0, PL ETm (h.machs)), (1, PL EBd (h.buns)), (2, PL EP.int (h.trains))]) (.e (.g [.q 0, .q 1, .q 2, ai (h.change)])) := by simp [SV.res, El.res, At.res, keys]
set_option maxHeartbeats 4000000 in
theorem c130 (h : Hall) (hm : h.Small) : Sig Tryz.prog 130 [.e (.g [.q 0, .q 1, .q 2, ai (h.change)])] [(0, PL ETm (h.machs)), (1, PL EBd (h.buns)), (2, PL EP.int (h.trains))] (.e (.g [.q 0, .q 1, .q 2, ai (h.change)])) [(0, PL ETm (h.machs)), (1, PL EBd (h.buns)), (2, PL EP.int (h.trains))] := by
  have hm1 := hm.m
  have hm2 := hm.b
  have hm3 := hm.t
  refine Sig.intro Tryz.func130 rfl 3 [(0, .e (.g [.q 0, .q 1, .q 2, ai (h.change)]))] rfl w130 rfl rfl fun I w => ?_
  refine WP.seq (WP.region ?_)
  refine WPl.l 3 4 rfl rfl rfl (o_boxg rfl) ?_
  refine WPl.l 4 5 rfl rfl rfl (o_alloc Z26) ?_
  refine WPl.nil (EX.then (WP.seq ?_))
  refine WP.draw (nf := 11) [⟨[4, 5, 7, 8, 9, 11, 12, 13, 15, 16], [7, 9], [5], [5], []⟩, ⟨[3, 7, 8, 9, 11, 12, 13, 15, 16], [5, 7, 9], [], [], []⟩, ⟨[3, 7, 8, 9, 11, 12, 13, 15, 16], [5, 7, 9], [], [], [1]⟩, ⟨[7, 8, 9, 11, 12, 13, 15, 16], [7, 9], [6], [6, 5], [0, 1, 2]⟩, ⟨[3, 4, 5, 6, 8, 9, 11, 12, 13, 15, 16], [5, 6, 9], [7], [7], []⟩, ⟨[3, 4, 5, 6, 7, 11, 12, 13, 15, 16], [5, 6, 7, 9], [], [], []⟩, ⟨[3, 4, 5, 6, 7, 11, 12, 13, 15, 16], [5, 6, 7, 9], [], [], [5]⟩, ⟨[11, 12, 13, 15, 16], [9], [8], [8, 7], [0, 1, 2, 3, 4, 5, 6]⟩, ⟨[3, 4, 5, 6, 7, 8, 9, 10, 12, 13, 15, 16], [5, 6, 7, 8], [9], [9], []⟩, ⟨[3, 4, 5, 6, 7, 8, 9, 10, 11, 15, 16], [5, 6, 7, 8, 9], [], [], []⟩, ⟨[3, 4, 5, 6, 7, 8, 9, 10, 11, 15, 16], [5, 6, 7, 8, 9], [], [], [9]⟩, ⟨[15, 16], [], [10], [10, 9], [0, 1, 2, 3, 4, 5, 6, 7, 8, 9, 10]⟩, ⟨[3, 4, 5, 6, 7, 8, 9, 10, 11, 12, 13, 14], [5, 6, 7, 8, 9, 10], [], [], []⟩, ⟨[3, 4, 5, 6, 7, 8, 9, 10, 11, 12, 13, 14], [5, 6, 7, 8, 9, 10], [], [], [12]⟩, ⟨[], [], [], [], [0, 1, 2, 3, 4, 5, 6, 7, 8, 9, 10, 11, 12, 13]⟩, ⟨[], [], [], [4], [0, 1, 2, 3, 4, 5, 6, 7, 8, 9, 10, 11, 12, 13, 14]⟩] (by kernel_rfl) (by kernel_rfl) ?_
  refine DRQ.l 5 rfl rfl rfl rfl (o_bsl (E := ETm) (l := []) R22 rfl rfl (.nil) rfl rfl) ?_
  refine DRQ.v rfl rfl rfl (o_fldp F26_0 rfl) ?_
  refine DRQ.v rfl rfl rfl (o_ldp S22 rfl rfl rfl) ?_
  refine DRQ.l2 6 5 rfl rfl rfl rfl (o_apps R22 EP.str_one rfl rfl rfl (lx rfl) (by simp; omega) (by simp; omega)) ?_
  refine DRQ.l 7 rfl rfl rfl rfl (o_bsl (E := EBd) (l := []) R23 rfl rfl (.nil) rfl rfl) ?_
  refine DRQ.v rfl rfl rfl (o_fldp F26_1 rfl) ?_
  refine DRQ.v rfl rfl rfl (o_ldp S23 rfl rfl rfl) ?_
  refine DRQ.l2 8 7 rfl rfl rfl rfl (o_apps R23 EP.str_one rfl rfl rfl (lx rfl) (by simp; omega) (by simp; omega)) ?_
  refine DRQ.l 9 rfl rfl rfl rfl (o_bsl (E := EP.int) (l := []) R24 rfl rfl (.nil) rfl rfl) ?_
  refine DRQ.v rfl rfl rfl (o_fldp F26_2 rfl) ?_
  refine DRQ.v rfl rfl rfl (o_ldp S24 rfl rfl rfl) ?_
  refine DRQ.l2 10 9 rfl rfl rfl rfl (o_apps R24 EP.int_one rfl rfl rfl (lx rfl) (by simp; omega) (by simp; omega)) ?_
  refine DRQ.v rfl rfl rfl (o_fldp F26_3 rfl) ?_
  refine DRQ.v rfl rfl rfl (o_ldp S3 rfl rfl rfl) ?_
  refine DRQ.v rfl rfl rfl (o_build B26 rfl ⟨(.inr ⟨_, _, _, _, rfl⟩), (.inr ⟨_, _, _, _, rfl⟩), (.inr ⟨_, _, _, _, rfl⟩), rfl, trivial⟩ rfl rfl) ?_
  refine DRQ.s 4 rfl rfl rfl (o_stag G26 rfl rfl rfl ⟨(.inr ⟨_, _, _, _, rfl⟩), (.inr ⟨_, _, _, _, rfl⟩), (.inr ⟨_, _, _, _, rfl⟩), rfl, trivial⟩ rfl rfl) ?_
  refine DRQ.nil' ?_
  refine EX.then (WP.ret ?_)
  refine EX.imp (Imp.frz (E := ETm) (l := [] ++ h.machs) 6 rfl rfl) ?_
  refine EX.imp (Imp.frz (E := EBd) (l := [] ++ h.buns) 8 rfl rfl) ?_
  refine EX.imp (Imp.frz (E := EP.int) (l := [] ++ h.trains) 10 rfl rfl) ?_
  exact EX.fin (ren [(0, 6), (1, 8), (2, 10)]) (.inl rfl) rfl (.cellg G26 rfl rfl rfl (.nil)) rfl r130 ⟨(lx rfl), (lx rfl), (lx rfl), trivial⟩ (by simp) (by simp)
theorem w74 {h : Hall} : ∀ x ∈ ([.e (.g [.q 0, .q 1, .q 2, ai (h.change), .q 3, .q 4])] : List SV), x.res (keys (α := Pred) [(0, PL ETm (h.machs)), (1, PL EBd (h.buns)), (2, PL EP.int (h.trains)), (3, PL EP.int (h.bores)), (4, PL (EP.sl EP.int) (h.eds))]) := by simp [SV.res, El.res, At.res, keys]
theorem r74 {h : Hall} : SV.res (keys (α := Pred) [(0, PL ETm (h.machs)), (1, PL EBd (h.buns)), (2, PL EP.int (h.trains)), (3, PL EP.int (h.bores)), (4, PL (EP.sl EP.int) (h.eds))]) (.e (.g [.q 0, .q 1, .q 2, ai (h.change), .q 3, .q 4])) := by simp [SV.res, El.res, At.res, keys]
set_option maxHeartbeats 4000000 in
theorem c74 (h : Hall) (hm : h.Small) : Sig Tryz.prog 74 [.e (.g [.q 0, .q 1, .q 2, ai (h.change), .q 3, .q 4])] [(0, PL ETm (h.machs)), (1, PL EBd (h.buns)), (2, PL EP.int (h.trains)), (3, PL EP.int (h.bores)), (4, PL (EP.sl EP.int) (h.eds))] (.e (.g [.q 0, .q 1, .q 2, ai (h.change), .q 3, .q 4])) [(0, PL ETm (h.machs)), (1, PL EBd (h.buns)), (2, PL EP.int (h.trains)), (3, PL EP.int (h.bores)), (4, PL (EP.sl EP.int) (h.eds))] := by
  have hm4 := hm.o
  have hm5 := hm.e
  have hm6 := hm.p
  refine Sig.intro Tryz.func74 rfl 5 [(0, .e (.g [.q 0, .q 1, .q 2, ai (h.change), .q 3, .q 4]))] rfl w74 rfl rfl fun I w => ?_
  refine WP.seq (WP.region ?_)
  refine WPl.l 5 6 rfl rfl rfl (o_boxg rfl) ?_
  refine WPl.l 6 7 rfl rfl rfl (o_alloc Z29) ?_
  refine WPl.nil (EX.then (WP.seq ?_))
  refine WP.draw (nf := 13) [⟨[6, 7, 8, 10, 11], [10], [], [], []⟩, ⟨[6, 7, 8, 10, 11], [10], [], [], [0]⟩, ⟨[6, 7, 8, 10, 11], [10], [7, 8, 9], [7, 8, 9], [0, 1]⟩, ⟨[3, 4, 5, 7, 8, 10, 11], [7, 8, 9], [10], [10], []⟩, ⟨[3, 4, 5, 6, 10, 11], [7, 8, 9, 10], [], [], []⟩, ⟨[3, 4, 5, 6, 10, 11], [7, 8, 9, 10], [], [], [4]⟩, ⟨[10, 11], [], [11], [11, 10], [0, 1, 2, 3, 4, 5]⟩, ⟨[3, 4, 5, 6, 7, 8, 9], [7, 8, 9, 10, 11], [], [], []⟩, ⟨[3, 4, 5, 6, 7, 8, 9], [7, 8, 9, 10, 11], [], [], [7]⟩, ⟨[], [], [12], [12], [0, 1, 2, 3, 4, 5, 6, 7, 8]⟩, ⟨[], [], [], [], [0, 1, 2, 3, 4, 5, 6, 7, 8, 9]⟩, ⟨[], [], [], [6], [0, 1, 2, 3, 4, 5, 6, 7, 8, 9, 10]⟩] (by kernel_rfl) (by kernel_rfl) ?_
  refine DRQ.v rfl rfl rfl (o_fldp F29_0 rfl) ?_
  refine DRQ.v rfl rfl rfl (o_ldpg G26 rfl rfl rfl) ?_
  refine DRQ.cs rfl rfl rfl rfl (o_sig 7 (ren [(0, 0), (1, 1), (2, 2)]) (c130 h hm) e130 rfl rfl rfl w130 ⟨(lx rfl), (lx rfl), (lx rfl), trivial⟩ r130) ?_
  refine DRQ.l 10 rfl rfl rfl rfl (o_bsl (E := EP.int) (l := []) R24 rfl rfl (.nil) rfl rfl) ?_
  refine DRQ.v rfl rfl rfl (o_fldp F29_1 rfl) ?_
  refine DRQ.v rfl rfl rfl (o_ldp S24 rfl rfl rfl) ?_
  refine DRQ.l2 11 10 rfl rfl rfl rfl (o_apps R24 EP.int_one rfl rfl rfl (lx rfl) (by simp; omega) (by simp; omega)) ?_
  refine DRQ.v rfl rfl rfl (o_fldp F29_2 rfl) ?_
  refine DRQ.v rfl rfl rfl (o_ldp S27 rfl rfl rfl) ?_
  refine DRQ.cs rfl rfl rfl rfl (o_sig 12 (ren [(0, 4)]) (c73 h.eds (by omega) (fun i hi => by have := hm6 i hi; omega)) e73 rfl rfl rfl w73 ⟨(lx rfl), trivial⟩ r73) ?_
  refine DRQ.v rfl rfl rfl (o_build B29 rfl ⟨(.inr ⟨_, _, _, _, rfl⟩), (.inl ⟨_, (lx rfl), PL.one⟩), trivial⟩ rfl rfl) ?_
  refine DRQ.s 6 rfl rfl rfl (o_stag G29 rfl rfl rfl ⟨(.inl ⟨_, (lx rfl), PL.one⟩), (.inl ⟨_, (lx rfl), PL.one⟩), (.inl ⟨_, (lx rfl), PL.one⟩), rfl, (.inr ⟨_, _, _, _, rfl⟩), (.inl ⟨_, (lx rfl), PL.one⟩), trivial⟩ rfl rfl) ?_
  refine DRQ.nil' ?_
  refine EX.then (WP.ret ?_)
  refine EX.imp (Imp.frz (E := EP.int) (l := [] ++ h.bores) 11 rfl rfl) ?_
  exact EX.fin (ren [(0, 7), (1, 8), (2, 9), (3, 11), (4, 12)]) (.inl rfl) rfl (.cellg G29 rfl rfl rfl (.nil)) rfl r74 ⟨(lx rfl), (lx rfl), (lx rfl), (lx rfl), (lx rfl), trivial⟩ (by simp) (by simp)
theorem w74O {h : Hall} : ∀ x ∈ ([.e (.g [.q 0, .q 1, .q 2, ai (h.change), .q 3, .q 4])] : List SV), x.res (keys (α := Pred) [(0, PL ETm (h.machs)), (1, PL EBd (h.buns)), (2, PL EP.int (h.trains)), (3, PL EP.int (h.bores)), (4, PL (EP.sl EP.int) (h.eds))]) := by simp [SV.res, El.res, At.res, keys]
theorem r74O {h : Hall} : SV.res (keys (α := Pred) [(0, PL ETm (h.machs)), (1, PL EBd (h.buns)), (2, PL EP.int (h.trains)), (3, Pred.top), (4, PL (EP.sl EP.int) (h.eds))]) (.e (.g [.q 0, .q 1, .q 2, ai (h.change), .q 3, .q 4])) := by simp [SV.res, El.res, At.res, keys]
set_option maxHeartbeats 4000000 in
theorem c74O (h : Hall) (hm : h.Small) : SigO Tryz.prog 74 [.e (.g [.q 0, .q 1, .q 2, ai (h.change), .q 3, .q 4])] [(0, PL ETm (h.machs)), (1, PL EBd (h.buns)), (2, PL EP.int (h.trains)), (3, PL EP.int (h.bores)), (4, PL (EP.sl EP.int) (h.eds))] (.e (.g [.q 0, .q 1, .q 2, ai (h.change), .q 3, .q 4])) [(0, PL ETm (h.machs)), (1, PL EBd (h.buns)), (2, PL EP.int (h.trains)), (3, Pred.top), (4, PL (EP.sl EP.int) (h.eds))] [(3, .own 3 EP.int.size ([] ++ h.bores).length (RP EP.int ([] ++ h.bores)))] := by
  have hm4 := hm.o
  have hm5 := hm.e
  have hm6 := hm.p
  refine SigO.intro Tryz.func74 rfl 5 [(0, .e (.g [.q 0, .q 1, .q 2, ai (h.change), .q 3, .q 4]))] rfl w74O rfl rfl fun I w => ?_
  refine WP.seq (WP.region ?_)
  refine WPl.l 5 6 rfl rfl rfl (o_boxg rfl) ?_
  refine WPl.l 6 7 rfl rfl rfl (o_alloc Z29) ?_
  refine WPl.nil (EX.then (WP.seq ?_))
  refine WP.draw (nf := 13) [⟨[6, 7, 8, 10, 11], [10], [], [], []⟩, ⟨[6, 7, 8, 10, 11], [10], [], [], [0]⟩, ⟨[6, 7, 8, 10, 11], [10], [7, 8, 9], [7, 8, 9], [0, 1]⟩, ⟨[3, 4, 5, 7, 8, 10, 11], [7, 8, 9], [10], [10], []⟩, ⟨[3, 4, 5, 6, 10, 11], [7, 8, 9, 10], [], [], []⟩, ⟨[3, 4, 5, 6, 10, 11], [7, 8, 9, 10], [], [], [4]⟩, ⟨[10, 11], [], [11], [11, 10], [0, 1, 2, 3, 4, 5]⟩, ⟨[3, 4, 5, 6, 7, 8, 9], [7, 8, 9, 10, 11], [], [], []⟩, ⟨[3, 4, 5, 6, 7, 8, 9], [7, 8, 9, 10, 11], [], [], [7]⟩, ⟨[], [], [12], [12], [0, 1, 2, 3, 4, 5, 6, 7, 8]⟩, ⟨[], [], [], [], [0, 1, 2, 3, 4, 5, 6, 7, 8, 9]⟩, ⟨[], [], [], [6], [0, 1, 2, 3, 4, 5, 6, 7, 8, 9, 10]⟩] (by kernel_rfl) (by kernel_rfl) ?_
  refine DRQ.v rfl rfl rfl (o_fldp F29_0 rfl) ?_
  refine DRQ.v rfl rfl rfl (o_ldpg G26 rfl rfl rfl) ?_
  refine DRQ.cs rfl rfl rfl rfl (o_sig 7 (ren [(0, 0), (1, 1), (2, 2)]) (c130 h hm) e130 rfl rfl rfl w130 ⟨(lx rfl), (lx rfl), (lx rfl), trivial⟩ r130) ?_
  refine DRQ.l 10 rfl rfl rfl rfl (o_bsl (E := EP.int) (l := []) R24 rfl rfl (.nil) rfl rfl) ?_
  refine DRQ.v rfl rfl rfl (o_fldp F29_1 rfl) ?_
  refine DRQ.v rfl rfl rfl (o_ldp S24 rfl rfl rfl) ?_
  refine DRQ.l2 11 10 rfl rfl rfl rfl (o_apps R24 EP.int_one rfl rfl rfl (lx rfl) (by simp; omega) (by simp; omega)) ?_
  refine DRQ.v rfl rfl rfl (o_fldp F29_2 rfl) ?_
  refine DRQ.v rfl rfl rfl (o_ldp S27 rfl rfl rfl) ?_
  refine DRQ.cs rfl rfl rfl rfl (o_sig 12 (ren [(0, 4)]) (c73 h.eds (by omega) (fun i hi => by have := hm6 i hi; omega)) e73 rfl rfl rfl w73 ⟨(lx rfl), trivial⟩ r73) ?_
  refine DRQ.v rfl rfl rfl (o_build B29 rfl ⟨(.inr ⟨_, _, _, _, rfl⟩), (.inl ⟨_, (lx rfl), PL.one⟩), trivial⟩ rfl rfl) ?_
  refine DRQ.s 6 rfl rfl rfl (o_stag G29 rfl rfl rfl ⟨(.inl ⟨_, (lx rfl), PL.one⟩), (.inl ⟨_, (lx rfl), PL.one⟩), (.inl ⟨_, (lx rfl), PL.one⟩), rfl, (.inr ⟨_, _, _, _, rfl⟩), (.inl ⟨_, (lx rfl), PL.one⟩), trivial⟩ rfl rfl) ?_
  refine DRQ.nil' ?_
  refine EX.then (WP.ret ?_)
  refine EX.imp (Imp.topX 11 rfl) ?_
  exact EX.finO (ren [(0, 7), (1, 8), (2, 9), (3, 11), (4, 12)]) rfl (.inl rfl) rfl (.cellg G29 rfl rfl rfl (.nil)) rfl r74O ⟨(lx rfl), (lx rfl), (lx rfl), lx rfl, (lx rfl), trivial⟩ ⟨rfl, trivial⟩ rfl rfl (by simp) (by simp)
theorem w20 {b : Book} : ∀ x ∈ ([.e (.g [.q 0, .q 1, .q 2, ai (b.hall.change), .q 3, .q 4, .q 5, .q 6, ai (b.boys), .q 7])] : List SV), x.res (keys (α := Pred) [(0, PL ETm (b.hall.machs)), (1, PL EBd (b.hall.buns)), (2, PL EP.int (b.hall.trains)), (3, PL EP.int (b.hall.bores)), (4, PL (EP.sl EP.int) (b.hall.eds)), (5, PL EPl (b.set)), (6, PL EP.int (b.walk)), (7, PL ETa (b.tals))]) := by simp [SV.res, El.res, At.res, keys]
theorem r20 {b : Book} : SV.res (keys (α := Pred) [(0, PL ETm (b.hall.machs)), (1, PL EBd (b.hall.buns)), (2, PL EP.int (b.hall.trains)), (3, PL EP.int (b.hall.bores)), (4, PL (EP.sl EP.int) (b.hall.eds)), (5, PL EPl (b.set)), (6, PL EP.int (b.walk)), (7, PL ETa (b.tals))]) (.e (.g [.q 0, .q 1, .q 2, ai (b.hall.change), .q 3, .q 4, .q 5, .q 6, ai (b.boys), .q 7])) := by simp [SV.res, El.res, At.res, keys]
set_option maxHeartbeats 4000000 in
theorem c20 (b : Book) (hm : b.Small) : Sig Tryz.prog 20 [.e (.g [.q 0, .q 1, .q 2, ai (b.hall.change), .q 3, .q 4, .q 5, .q 6, ai (b.boys), .q 7])] [(0, PL ETm (b.hall.machs)), (1, PL EBd (b.hall.buns)), (2, PL EP.int (b.hall.trains)), (3, PL EP.int (b.hall.bores)), (4, PL (EP.sl EP.int) (b.hall.eds)), (5, PL EPl (b.set)), (6, PL EP.int (b.walk)), (7, PL ETa (b.tals))] (.e (.g [.q 0, .q 1, .q 2, ai (b.hall.change), .q 3, .q 4, .q 5, .q 6, ai (b.boys), .q 7])) [(0, PL ETm (b.hall.machs)), (1, PL EBd (b.hall.buns)), (2, PL EP.int (b.hall.trains)), (3, PL EP.int (b.hall.bores)), (4, PL (EP.sl EP.int) (b.hall.eds)), (5, PL EPl (b.set)), (6, PL EP.int (b.walk)), (7, PL ETa (b.tals))] := by
  have hm1 := hm.h.m
  have hm2 := hm.h.b
  have hm3 := hm.h.t
  have hm4 := hm.h.o
  have hm5 := hm.h.e
  have hm6 := hm.s
  have hm7 := hm.w
  have hm8 := hm.t
  refine Sig.intro Tryz.func20 rfl 8 [(0, .e (.g [.q 0, .q 1, .q 2, ai (b.hall.change), .q 3, .q 4, .q 5, .q 6, ai (b.boys), .q 7]))] rfl w20 rfl rfl fun I w => ?_
  refine WP.seq (WP.region ?_)
  refine WPl.l 8 9 rfl rfl rfl (o_boxg rfl) ?_
  refine WPl.l 9 10 rfl rfl rfl (o_alloc Z33) ?_
  refine WPl.nil (EX.then (WP.seq ?_))
  refine WP.draw (nf := 20) [⟨[6, 7, 9, 10, 11, 13, 14, 15, 16, 17], [16, 18], [], [], []⟩, ⟨[6, 7, 9, 10, 11, 13, 14, 15, 16, 17], [16, 18], [], [], [0]⟩, ⟨[6, 7, 9, 10, 11, 13, 14, 15, 16, 17], [16, 18], [10, 11, 12, 13, 14], [10, 11, 12, 13, 14], [0, 1]⟩, ⟨[3, 4, 5, 9, 10, 11, 13, 14, 15, 16, 17], [10, 11, 12, 13, 14, 16, 18], [], [], []⟩, ⟨[3, 4, 5, 9, 10, 11, 13, 14, 15, 16, 17], [10, 11, 12, 13, 14, 16, 18], [], [], [3]⟩, ⟨[9, 10, 11, 13, 14, 15, 16, 17], [16, 18], [15], [15], [0, 1, 2, 3, 4]⟩, ⟨[3, 4, 5, 6, 7, 8, 10, 11, 13, 14, 15, 16, 17], [10, 11, 12, 13, 14, 15, 18], [16], [16], []⟩, ⟨[3, 4, 5, 6, 7, 8, 9, 13, 14, 15, 16, 17], [10, 11, 12, 13, 14, 15, 16, 18], [], [], []⟩, ⟨[3, 4, 5, 6, 7, 8, 9, 13, 14, 15, 16, 17], [10, 11, 12, 13, 14, 15, 16, 18], [], [], [7]⟩, ⟨[13, 14, 15, 16, 17], [18], [17], [17, 16], [0, 1, 2, 3, 4, 5, 6, 7, 8]⟩, ⟨[3, 4, 5, 6, 7, 8, 9, 10, 11, 12, 15, 16, 17, 18], [10, 11, 12, 13, 14, 15, 16, 17, 18, 19], [], [], []⟩, ⟨[3, 4, 5, 6, 7, 8, 9, 10, 11, 12, 15, 16, 17, 18], [10, 11, 12, 13, 14, 15, 16, 17, 18, 19], [], [], [10]⟩, ⟨[3, 4, 5, 6, 7, 8, 9, 10, 11, 12, 13, 14, 16, 17], [10, 11, 12, 13, 14, 15, 16, 17], [18], [18], []⟩, ⟨[3, 4, 5, 6, 7, 8, 9, 10, 11, 12, 13, 14, 15], [10, 11, 12, 13, 14, 15, 16, 17, 18], [], [], []⟩, ⟨[3, 4, 5, 6, 7, 8, 9, 10, 11, 12, 13, 14, 15], [10, 11, 12, 13, 14, 15, 16, 17, 18], [], [], [13]⟩, ⟨[13, 14], [], [19], [19, 18], [0, 1, 2, 3, 4, 5, 6, 7, 8, 9, 12, 13, 14]⟩, ⟨[], [], [], [], [0, 1, 2, 3, 4, 5, 6, 7, 8, 9, 10, 11, 12, 13, 14, 15]⟩, ⟨[], [], [], [9], [0, 1, 2, 3, 4, 5, 6, 7, 8, 9, 10, 11, 12, 13, 14, 15, 16]⟩] (by kernel_rfl) (by kernel_rfl) ?_
  refine DRQ.v rfl rfl rfl (o_fldp F33_0 rfl) ?_
  refine DRQ.v rfl rfl rfl (o_ldpg G29 rfl rfl rfl) ?_
  refine DRQ.cs rfl rfl rfl rfl (o_sig 10 (ren [(0, 0), (1, 1), (2, 2), (3, 3), (4, 4)]) (c74 b.hall hm.h) e74 rfl rfl rfl w74 ⟨(lx rfl), (lx rfl), (lx rfl), (lx rfl), (lx rfl), trivial⟩ r74) ?_
  refine DRQ.v rfl rfl rfl (o_fldp F33_1 rfl) ?_
  refine DRQ.v rfl rfl rfl (o_ldp S30 rfl rfl rfl) ?_
  refine DRQ.cs rfl rfl rfl rfl (o_sig 15 (ren [(0, 5)]) (c28 b.set (by omega)) e28 rfl rfl rfl w28 ⟨(lx rfl), trivial⟩ r28) ?_
  refine DRQ.l 16 rfl rfl rfl rfl (o_bsl (E := EP.int) (l := []) R24 rfl rfl (.nil) rfl rfl) ?_
  refine DRQ.v rfl rfl rfl (o_fldp F33_2 rfl) ?_
  refine DRQ.v rfl rfl rfl (o_ldp S24 rfl rfl rfl) ?_
  refine DRQ.l2 17 16 rfl rfl rfl rfl (o_apps R24 EP.int_one rfl rfl rfl (lx rfl) (by simp; omega) (by simp; omega)) ?_
  refine DRQ.v rfl rfl rfl (o_fldp F33_3 rfl) ?_
  refine DRQ.v rfl rfl rfl (o_ldp S3 rfl rfl rfl) ?_
  refine DRQ.l 18 rfl rfl rfl rfl (o_bsl (E := ETa) (l := []) R31 rfl rfl (.nil) rfl rfl) ?_
  refine DRQ.v rfl rfl rfl (o_fldp F33_4 rfl) ?_
  refine DRQ.v rfl rfl rfl (o_ldp S31 rfl rfl rfl) ?_
  refine DRQ.l2 19 18 rfl rfl rfl rfl (o_apps R31 EP.str_one rfl rfl rfl (lx rfl) (by simp; omega) (by simp; omega)) ?_
  refine DRQ.v rfl rfl rfl (o_build B33 rfl ⟨(.inl ⟨_, (lx rfl), PL.one⟩), (.inr ⟨_, _, _, _, rfl⟩), rfl, (.inr ⟨_, _, _, _, rfl⟩), trivial⟩ rfl rfl) ?_
  refine DRQ.s 9 rfl rfl rfl (o_stag G33 rfl rfl rfl ⟨(.inl ⟨_, (lx rfl), PL.one⟩), (.inl ⟨_, (lx rfl), PL.one⟩), (.inl ⟨_, (lx rfl), PL.one⟩), rfl, (.inl ⟨_, (lx rfl), PL.one⟩), (.inl ⟨_, (lx rfl), PL.one⟩), (.inl ⟨_, (lx rfl), PL.one⟩), (.inr ⟨_, _, _, _, rfl⟩), rfl, (.inr ⟨_, _, _, _, rfl⟩), trivial⟩ rfl rfl) ?_
  refine DRQ.nil' ?_
  refine EX.then (WP.ret ?_)
  refine EX.imp (Imp.frz (E := EP.int) (l := [] ++ b.walk) 17 rfl rfl) ?_
  refine EX.imp (Imp.frz (E := ETa) (l := [] ++ b.tals) 19 rfl rfl) ?_
  exact EX.fin (ren [(0, 10), (1, 11), (2, 12), (3, 13), (4, 14), (5, 15), (6, 17), (7, 19)]) (.inl rfl) rfl (.cellg G33 rfl rfl rfl (.nil)) rfl r20 ⟨(lx rfl), (lx rfl), (lx rfl), (lx rfl), (lx rfl), (lx rfl), (lx rfl), (lx rfl), trivial⟩ (by simp) (by simp)
theorem w20O {b : Book} : ∀ x ∈ ([.e (.g [.q 0, .q 1, .q 2, ai (b.hall.change), .q 3, .q 4, .q 5, .q 6, ai (b.boys), .q 7])] : List SV), x.res (keys (α := Pred) [(0, PL ETm (b.hall.machs)), (1, PL EBd (b.hall.buns)), (2, PL EP.int (b.hall.trains)), (3, PL EP.int (b.hall.bores)), (4, PL (EP.sl EP.int) (b.hall.eds)), (5, PL EPl (b.set)), (6, PL EP.int (b.walk)), (7, PL ETa (b.tals))]) := by simp [SV.res, El.res, At.res, keys]
theorem r20O {b : Book} : SV.res (keys (α := Pred) [(0, PL ETm (b.hall.machs)), (1, PL EBd (b.hall.buns)), (2, PL EP.int (b.hall.trains)), (3, PL EP.int (b.hall.bores)), (4, PL (EP.sl EP.int) (b.hall.eds)), (5, PL EPl (b.set)), (6, Pred.top), (7, Pred.top)]) (.e (.g [.q 0, .q 1, .q 2, ai (b.hall.change), .q 3, .q 4, .q 5, .q 6, ai (b.boys), .q 7])) := by simp [SV.res, El.res, At.res, keys]
set_option maxHeartbeats 4000000 in
theorem c20O (b : Book) (hm : b.Small) : SigO Tryz.prog 20 [.e (.g [.q 0, .q 1, .q 2, ai (b.hall.change), .q 3, .q 4, .q 5, .q 6, ai (b.boys), .q 7])] [(0, PL ETm (b.hall.machs)), (1, PL EBd (b.hall.buns)), (2, PL EP.int (b.hall.trains)), (3, PL EP.int (b.hall.bores)), (4, PL (EP.sl EP.int) (b.hall.eds)), (5, PL EPl (b.set)), (6, PL EP.int (b.walk)), (7, PL ETa (b.tals))] (.e (.g [.q 0, .q 1, .q 2, ai (b.hall.change), .q 3, .q 4, .q 5, .q 6, ai (b.boys), .q 7])) [(0, PL ETm (b.hall.machs)), (1, PL EBd (b.hall.buns)), (2, PL EP.int (b.hall.trains)), (3, PL EP.int (b.hall.bores)), (4, PL (EP.sl EP.int) (b.hall.eds)), (5, PL EPl (b.set)), (6, Pred.top), (7, Pred.top)] [(6, .own 3 EP.int.size ([] ++ b.walk).length (RP EP.int ([] ++ b.walk))), (7, .own 58 ETa.size ([] ++ b.tals).length (RP ETa ([] ++ b.tals)))] := by
  have hm1 := hm.h.m
  have hm2 := hm.h.b
  have hm3 := hm.h.t
  have hm4 := hm.h.o
  have hm5 := hm.h.e
  have hm6 := hm.s
  have hm7 := hm.w
  have hm8 := hm.t
  refine SigO.intro Tryz.func20 rfl 8 [(0, .e (.g [.q 0, .q 1, .q 2, ai (b.hall.change), .q 3, .q 4, .q 5, .q 6, ai (b.boys), .q 7]))] rfl w20O rfl rfl fun I w => ?_
  refine WP.seq (WP.region ?_)
  refine WPl.l 8 9 rfl rfl rfl (o_boxg rfl) ?_
  refine WPl.l 9 10 rfl rfl rfl (o_alloc Z33) ?_
  refine WPl.nil (EX.then (WP.seq ?_))
  refine WP.draw (nf := 20) [⟨[6, 7, 9, 10, 11, 13, 14, 15, 16, 17], [16, 18], [], [], []⟩, ⟨[6, 7, 9, 10, 11, 13, 14, 15, 16, 17], [16, 18], [], [], [0]⟩, ⟨[6, 7, 9, 10, 11, 13, 14, 15, 16, 17], [16, 18], [10, 11, 12, 13, 14], [10, 11, 12, 13, 14], [0, 1]⟩, ⟨[3, 4, 5, 9, 10, 11, 13, 14, 15, 16, 17], [10, 11, 12, 13, 14, 16, 18], [], [], []⟩, ⟨[3, 4, 5, 9, 10, 11, 13, 14, 15, 16, 17], [10, 11, 12, 13, 14, 16, 18], [], [], [3]⟩, ⟨[9, 10, 11, 13, 14, 15, 16, 17], [16, 18], [15], [15], [0, 1, 2, 3, 4]⟩, ⟨[3, 4, 5, 6, 7, 8, 10, 11, 13, 14, 15, 16, 17], [10, 11, 12, 13, 14, 15, 18], [16], [16], []⟩, ⟨[3, 4, 5, 6, 7, 8, 9, 13, 14, 15, 16, 17], [10, 11, 12, 13, 14, 15, 16, 18], [], [], []⟩, ⟨[3, 4, 5, 6, 7, 8, 9, 13, 14, 15, 16, 17], [10, 11, 12, 13, 14, 15, 16, 18], [], [], [7]⟩, ⟨[13, 14, 15, 16, 17], [18], [17], [17, 16], [0, 1, 2, 3, 4, 5, 6, 7, 8]⟩, ⟨[3, 4, 5, 6, 7, 8, 9, 10, 11, 12, 15, 16, 17, 18], [10, 11, 12, 13, 14, 15, 16, 17, 18, 19], [], [], []⟩, ⟨[3, 4, 5, 6, 7, 8, 9, 10, 11, 12, 15, 16, 17, 18], [10, 11, 12, 13, 14, 15, 16, 17, 18, 19], [], [], [10]⟩, ⟨[3, 4, 5, 6, 7, 8, 9, 10, 11, 12, 13, 14, 16, 17], [10, 11, 12, 13, 14, 15, 16, 17], [18], [18], []⟩, ⟨[3, 4, 5, 6, 7, 8, 9, 10, 11, 12, 13, 14, 15], [10, 11, 12, 13, 14, 15, 16, 17, 18], [], [], []⟩, ⟨[3, 4, 5, 6, 7, 8, 9, 10, 11, 12, 13, 14, 15], [10, 11, 12, 13, 14, 15, 16, 17, 18], [], [], [13]⟩, ⟨[13, 14], [], [19], [19, 18], [0, 1, 2, 3, 4, 5, 6, 7, 8, 9, 12, 13, 14]⟩, ⟨[], [], [], [], [0, 1, 2, 3, 4, 5, 6, 7, 8, 9, 10, 11, 12, 13, 14, 15]⟩, ⟨[], [], [], [9], [0, 1, 2, 3, 4, 5, 6, 7, 8, 9, 10, 11, 12, 13, 14, 15, 16]⟩] (by kernel_rfl) (by kernel_rfl) ?_
  refine DRQ.v rfl rfl rfl (o_fldp F33_0 rfl) ?_
  refine DRQ.v rfl rfl rfl (o_ldpg G29 rfl rfl rfl) ?_
  refine DRQ.cs rfl rfl rfl rfl (o_sig 10 (ren [(0, 0), (1, 1), (2, 2), (3, 3), (4, 4)]) (c74 b.hall hm.h) e74 rfl rfl rfl w74 ⟨(lx rfl), (lx rfl), (lx rfl), (lx rfl), (lx rfl), trivial⟩ r74) ?_
  refine DRQ.v rfl rfl rfl (o_fldp F33_1 rfl) ?_
  refine DRQ.v rfl rfl rfl (o_ldp S30 rfl rfl rfl) ?_
  refine DRQ.cs rfl rfl rfl rfl (o_sig 15 (ren [(0, 5)]) (c28 b.set (by omega)) e28 rfl rfl rfl w28 ⟨(lx rfl), trivial⟩ r28) ?_
  refine DRQ.l 16 rfl rfl rfl rfl (o_bsl (E := EP.int) (l := []) R24 rfl rfl (.nil) rfl rfl) ?_
  refine DRQ.v rfl rfl rfl (o_fldp F33_2 rfl) ?_
  refine DRQ.v rfl rfl rfl (o_ldp S24 rfl rfl rfl) ?_
  refine DRQ.l2 17 16 rfl rfl rfl rfl (o_apps R24 EP.int_one rfl rfl rfl (lx rfl) (by simp; omega) (by simp; omega)) ?_
  refine DRQ.v rfl rfl rfl (o_fldp F33_3 rfl) ?_
  refine DRQ.v rfl rfl rfl (o_ldp S3 rfl rfl rfl) ?_
  refine DRQ.l 18 rfl rfl rfl rfl (o_bsl (E := ETa) (l := []) R31 rfl rfl (.nil) rfl rfl) ?_
  refine DRQ.v rfl rfl rfl (o_fldp F33_4 rfl) ?_
  refine DRQ.v rfl rfl rfl (o_ldp S31 rfl rfl rfl) ?_
  refine DRQ.l2 19 18 rfl rfl rfl rfl (o_apps R31 EP.str_one rfl rfl rfl (lx rfl) (by simp; omega) (by simp; omega)) ?_
  refine DRQ.v rfl rfl rfl (o_build B33 rfl ⟨(.inl ⟨_, (lx rfl), PL.one⟩), (.inr ⟨_, _, _, _, rfl⟩), rfl, (.inr ⟨_, _, _, _, rfl⟩), trivial⟩ rfl rfl) ?_
  refine DRQ.s 9 rfl rfl rfl (o_stag G33 rfl rfl rfl ⟨(.inl ⟨_, (lx rfl), PL.one⟩), (.inl ⟨_, (lx rfl), PL.one⟩), (.inl ⟨_, (lx rfl), PL.one⟩), rfl, (.inl ⟨_, (lx rfl), PL.one⟩), (.inl ⟨_, (lx rfl), PL.one⟩), (.inl ⟨_, (lx rfl), PL.one⟩), (.inr ⟨_, _, _, _, rfl⟩), rfl, (.inr ⟨_, _, _, _, rfl⟩), trivial⟩ rfl rfl) ?_
  refine DRQ.nil' ?_
  refine EX.then (WP.ret ?_)
  refine EX.imp (Imp.topX 17 rfl) ?_
  refine EX.imp (Imp.topX 19 rfl) ?_
  exact EX.finO (ren [(0, 10), (1, 11), (2, 12), (3, 13), (4, 14), (5, 15), (6, 17), (7, 19)]) rfl (.inl rfl) rfl (.cellg G33 rfl rfl rfl (.nil)) rfl r20O ⟨(lx rfl), (lx rfl), (lx rfl), (lx rfl), (lx rfl), (lx rfl), lx rfl, lx rfl, trivial⟩ ⟨rfl, rfl, trivial⟩ rfl rfl (by simp) (by simp)
end Go.Flong
namespace Go.Flong
open Go Go.Eng Go.Proofs
theorem e123 : Enters' Tryz.prog 123 := Tryz.call123
theorem e69 : Enters' Tryz.prog 69 := Tryz.call69
theorem e67 : Enters' Tryz.prog 67 := Tryz.call67
theorem Q77 : FlatT Tryz.prog 77 3 2 true := .struct Tryz.underlying77 Tryz.stoodInHeld77 G77 ⟨by decide, rfl, 1, false, Q3, ⟨by decide, rfl, 1, false, Q3, ⟨by decide, rfl, 1, false, Q3, rfl⟩⟩⟩
theorem B156 : BldT Tryz.prog 156 [(0, 1), (1, 1), (2, 1)] [.int .i64 0, .int .i64 0, .int .i64 0] := BldT.mk (ns := [1, 1, 1]) Tryz.underlying156 ⟨Tryz.sizeOf3, Tryz.sizeOf3, Tryz.sizeOf3, trivial⟩ rfl Tryz.zeroValue156 rfl
theorem B95 : BldT Tryz.prog 95 [(0, 1), (1, 1), (2, 1)] [.int .i64 0, .int .i64 0, .int .i64 0] := BldT.mk (ns := [1, 1, 1]) Tryz.underlying95 ⟨Tryz.sizeOf3, Tryz.sizeOf3, Tryz.sizeOf3, trivial⟩ rfl Tryz.zeroValue95 rfl
theorem e147 : Enters' Tryz.prog 147 := Tryz.call147
theorem e126 : Enters' Tryz.prog 126 := Tryz.call126
theorem B58 : BldT Tryz.prog 58 [(0, 1), (1, 1), (2, 1), (3, 1)] [.int .i64 0, .int .i64 0, .int .i64 0, .int .i64 0] := BldT.mk (ns := [1, 1, 1, 1]) Tryz.underlying58 ⟨Tryz.sizeOf3, Tryz.sizeOf3, Tryz.sizeOf3, Tryz.sizeOf3, trivial⟩ rfl Tryz.zeroValue58 rfl
theorem e20 : Enters' Tryz.prog 20 := Tryz.call20
theorem e76 : Enters' Tryz.prog 76 := Tryz.call76
theorem e47 : Enters' Tryz.prog 47 := Tryz.call47
theorem e60 : Enters' Tryz.prog 60 := Tryz.call60
theorem e38 : Enters' Tryz.prog 38 := Tryz.call38
theorem e30 : Enters' Tryz.prog 30 := Tryz.call30
theorem e37 : Enters' Tryz.prog 37 := Tryz.call37
theorem e21 : Enters' Tryz.prog 21 := Tryz.call21
theorem e44 : Enters' Tryz.prog 44 := Tryz.call44
theorem Q60 : FlatT Tryz.prog 60 2 2 true := .struct Tryz.underlying60 Tryz.stoodInHeld60 G60 ⟨by decide, rfl, 1, false, Q3, ⟨by decide, rfl, 1, false, Q3, rfl⟩⟩
theorem e18 : Enters' Tryz.prog 18 := Tryz.call18
theorem e50 : Enters' Tryz.prog 50 := Tryz.call50
theorem e62 : Enters' Tryz.prog 62 := Tryz.call62
theorem w69 {p : List (List Int)} : ∀ x ∈ ([.e (.a (.q 0))] : List SV), x.res (keys (α := Pred) [(0, PL (EP.sl EP.int) (p))]) := by simp [SV.res, El.res, At.res, keys]
theorem r69 {p : List (List Int)} : SV.res (keys (α := Pred) []) (.b (longP p)) := by simp [SV.res, El.res, At.res, keys]
set_option maxHeartbeats 4000000 in
theorem c69 (p : List (List Int))  : Sig Tryz.prog 69 [.e (.a (.q 0))] [(0, PL (EP.sl EP.int) (p))] (.b (longP p)) [] := by
  refine Sig.intro Tryz.func69 rfl 1 [(0, .e (.a (.q 0)))] rfl w69 rfl rfl fun I w => ?_
  refine WP.seq (WP.region ?_)
  refine WPl.v rfl (o_assign rfl) ?_
  refine WPl.nil (EX.then (WP.seq (WP.seq (WP.region ?_))))
  refine WPl.v rfl (o_move rfl) ?_
  refine WPl.v rfl (o_lenq L27 rfl (lx rfl)) ?_
  refine WPl.v rfl (o_gtr rfl rfl) ?_
  refine WPl.nil (EX.then ?_)
  refine WP.cond rfl (fun hc1 => ?_) (fun hc1 => ?_)
  · try simp only [cnd] at hc1
    refine WP.seq (WP.region ?_)
    refine WPl.v rfl (o_assign rfl) ?_
    refine WPl.nil (EX.then (WP.ret (EX.ret_then ?_)))
    rw [show longP p = true from by unfold longP; rw [decide_eq_true hc1]; rfl]
    exact EX.fin id (.inl rfl) rfl (.tmp rfl .nil) rfl (by simp [SV.res, El.res, At.res, keys]) trivial (by simp) (by simp)
  · try simp only [cnd] at hc1
    refine WP.skip (EX.then (WP.seq (WP.seq (WP.region ?_))))
    refine WPl.v rfl (o_assign rfl) ?_
    refine WPl.nil (EX.then (WP.block ?_))
    refine WP.loop (Gh := Nat) (fun i => ⟨1, [(0, .e (.a (.q 0))), (2, .b (false)), (3, .i ((i : Int)))], [(0, PL (EP.sl EP.int) (p))], [], [], []⟩) (fun i => i ≤ p.length ∧ allI (fun i => !decide (40 < ((nth p i).length : Int))) i = true) (fun i => p.length - i) (0) id ?_ (LeR.of ⟨rfl, rfl, rfl, trivial⟩ ⟨(lx rfl), trivial⟩ trivial rfl rfl rfl rfl rfl) ?_
    · exact ⟨by omega, rfl⟩
    intro i hφ
    have hi : i ≤ p.length := hφ.1
    have hall := hφ.2
    refine WP.seq (WP.seq (WP.region ?_))
    refine WPl.v rfl (o_move rfl) ?_
    refine WPl.v rfl (o_move rfl) ?_
    refine WPl.v rfl (o_lenq L27 rfl (lx rfl)) ?_
    refine WPl.v rfl (o_lss rfl rfl) ?_
    refine WPl.nil (EX.then ?_)
    refine WP.cond rfl (fun hc2 => ?_) (fun hc2 => ?_)
    · try simp only [cnd] at hc2
      refine WP.skip (EX.then (WP.seq (WP.block (WP.seq (WP.region ?_)))))
      refine WPl.v rfl (o_move rfl) ?_
      refine WPl.v rfl (o_move rfl) ?_
      refine WPl.x 1 2 rfl rfl rfl (o_idx L27 rfl (lx rfl) rfl (by first | omega | (simp; omega)) (by first | omega | (simp; omega))) ?_
      refine WPl.x 2 3 rfl rfl rfl (o_ldqx S24 rfl (lx rfl) slx) ?_
      refine WPl.v rfl (o_lenq L24 rfl (lx rfl)) ?_
      refine WPl.v rfl (o_gtr rfl rfl) ?_
      refine WPl.nil (EX.then ?_)
      refine WP.cond rfl (fun hc3 => ?_) (fun hc3 => ?_)
      · try simp only [cnd] at hc3
        refine WP.seq (WP.region ?_)
        refine WPl.v rfl (o_assign rfl) ?_
        refine WPl.nil (EX.then (WP.ret (EX.ret_blk (EX.ret_then (EX.ret_then (EX.ret_blk (EX.ret_then ?_)))))))
        rw [show longP p = true from by unfold longP; rw [not_allI (show i < p.length by omega) (by simp only [Bool.not_eq_false', decide_eq_true_eq]; exact hc3)]; simp]
        exact EX.fin id (.inl rfl) rfl (.tmp rfl .nil) rfl (by simp [SV.res, El.res, At.res, keys]) trivial (by simp) (by simp)
      · try simp only [cnd] at hc3
        refine WP.skip (EX.blk (EX.then (WP.region ?_)))
        refine WPl.v rfl (o_move rfl) ?_
        refine WPl.v rfl (o_add rfl rfl (by first | omega | (simp; omega)) (by first | omega | (simp; omega))) ?_
        refine WPl.v rfl (o_assign rfl) ?_
        refine WPl.nil ?_
        refine EX.again (i + 1) id (by exact ⟨by omega, by simp only [allI, hall, Bool.true_and, Bool.not_eq_true', decide_eq_false_iff_not]; exact hc3⟩) (by omega) (LeR.of ⟨rfl, rfl, rfl, trivial⟩ ⟨(lx rfl), trivial⟩ trivial rfl rfl rfl rfl rfl)
    · try simp only [cnd] at hc2
      refine WP.exit (EX.exit_then (EX.exit_then (EX.exit_blk (EX.then (WP.seq (WP.region ?_))))))
      refine WPl.v rfl (o_assign rfl) ?_
      refine WPl.nil (EX.then (WP.ret ?_))
      have hie : i = p.length := by omega
      rw [show longP p = false from by unfold longP; rw [decide_eq_false (by omega), ← hie, hall]; rfl]
      exact EX.fin id (.inl rfl) rfl (.tmp rfl .nil) rfl (by simp [SV.res, El.res, At.res, keys]) trivial (by simp) (by simp)
theorem w123 {h : Hall} : ∀ x ∈ ([.e (.g [.q 0, .q 1, .q 2, ai (h.change)])] : List SV), x.res (keys (α := Pred) [(0, PL ETm (h.machs)), (1, PL EBd (h.buns)), (2, PL EP.int (h.trains))]) := by simp [SV.res, El.res, At.res, keys]
theorem r123 {h : Hall} : SV.res (keys (α := Pred) []) (.b (hugeHo h)) := by simp [SV.res, El.res, At.res, keys]
set_option maxHeartbeats 4000000 in
theorem c123 (h : Hall)  : Sig Tryz.prog 123 [.e (.g [.q 0, .q 1, .q 2, ai (h.change)])] [(0, PL ETm (h.machs)), (1, PL EBd (h.buns)), (2, PL EP.int (h.trains))] (.b (hugeHo h)) [] := by
  refine Sig.intro Tryz.func123 rfl 3 [(0, .e (.g [.q 0, .q 1, .q 2, ai (h.change)]))] rfl w123 rfl rfl fun I w => ?_
  refine WP.seq (WP.region ?_)
  refine WPl.l 3 4 rfl rfl rfl (o_boxg rfl) ?_
  refine WPl.v rfl (o_assign rfl) ?_
  refine WPl.nil (EX.then (WP.seq (WP.region ?_)))
  refine WPl.v rfl (o_fldp F26_0 rfl) ?_
  refine WPl.v rfl (o_ldp S22 rfl rfl rfl) ?_
  refine WPl.v rfl (o_lenq L22 rfl (lx rfl)) ?_
  refine WPl.v rfl (o_gtr rfl rfl) ?_
  refine WPl.v rfl (o_move rfl) ?_
  refine WPl.bit 4 5 (!(decide (40 < (h.machs.length : Int)))) rfl rfl ?_
  refine WPl.gv 4 rfl rfl (.plain rfl (by first | (simp; done) | simp only [Bool.not_eq_true']) rfl) (fun hb => o_fldp F26_1 rfl) ?_
  refine WPl.gv 4 rfl rfl (.plain rfl (by first | (simp; done) | simp only [Bool.not_eq_true']) rfl) (fun hb => o_ldp S23 rfl rfl rfl) ?_
  refine WPl.gv 4 rfl rfl (.plain rfl (by first | (simp; done) | simp only [Bool.not_eq_true']) rfl) (fun hb => o_lenq L23 rfl (lx rfl)) ?_
  refine WPl.gv 4 rfl rfl (.plain rfl (by first | (simp; done) | simp only [Bool.not_eq_true']) rfl) (fun hb => o_gtr rfl rfl) ?_
  refine WPl.v rfl (o_or rfl rfl rfl (by first | (simp; done) | exact fun h => by rw [h]; rfl | exact fun h => Bool.and_eq_true_iff.2 ⟨hb, by rw [h]; rfl⟩ | simp_all)) ?_
  refine WPl.v rfl (o_move rfl) ?_
  refine WPl.bit 5 6 (!((decide (40 < (h.machs.length : Int))) || (decide (40 < (h.buns.length : Int))))) rfl rfl ?_
  refine WPl.gv 5 rfl rfl (.plain rfl (by first | (simp; done) | simp only [Bool.not_eq_true']) rfl) (fun hb => o_fldp F26_2 rfl) ?_
  refine WPl.gv 5 rfl rfl (.plain rfl (by first | (simp; done) | simp only [Bool.not_eq_true']) rfl) (fun hb => o_ldp S24 rfl rfl rfl) ?_
  refine WPl.gv 5 rfl rfl (.plain rfl (by first | (simp; done) | simp only [Bool.not_eq_true']) rfl) (fun hb => o_lenq L24 rfl (lx rfl)) ?_
  refine WPl.gv 5 rfl rfl (.plain rfl (by first | (simp; done) | simp only [Bool.not_eq_true']) rfl) (fun hb => o_gtr rfl rfl) ?_
  refine WPl.v rfl (o_or rfl rfl rfl (by first | (simp; done) | exact fun h => by rw [h]; rfl | exact fun h => Bool.and_eq_true_iff.2 ⟨hb, by rw [h]; rfl⟩ | simp_all)) ?_
  refine WPl.v rfl (o_assign rfl) ?_
  refine WPl.nil (EX.then (WP.ret ?_))
  exact EX.fin id (.inl rfl) rfl (.tmp rfl .nil) rfl r123 trivial (by simp) (by simp)
theorem w67 {h : Hall} : ∀ x ∈ ([.e (.g [.q 0, .q 1, .q 2, ai (h.change), .q 3, .q 4])] : List SV), x.res (keys (α := Pred) [(0, PL ETm (h.machs)), (1, PL EBd (h.buns)), (2, PL EP.int (h.trains)), (3, PL EP.int (h.bores)), (4, PL (EP.sl EP.int) (h.eds))]) := by simp [SV.res, El.res, At.res, keys]
theorem r67 {h : Hall} : SV.res (keys (α := Pred) []) (.b (hugeH h)) := by simp [SV.res, El.res, At.res, keys]
set_option maxHeartbeats 4000000 in
theorem c67 (h : Hall)  : Sig Tryz.prog 67 [.e (.g [.q 0, .q 1, .q 2, ai (h.change), .q 3, .q 4])] [(0, PL ETm (h.machs)), (1, PL EBd (h.buns)), (2, PL EP.int (h.trains)), (3, PL EP.int (h.bores)), (4, PL (EP.sl EP.int) (h.eds))] (.b (hugeH h)) [] := by
  refine Sig.intro Tryz.func67 rfl 5 [(0, .e (.g [.q 0, .q 1, .q 2, ai (h.change), .q 3, .q 4]))] rfl w67 rfl rfl fun I w => ?_
  refine WP.seq (WP.region ?_)
  refine WPl.l 5 6 rfl rfl rfl (o_boxg rfl) ?_
  refine WPl.v rfl (o_assign rfl) ?_
  refine WPl.nil (EX.then (WP.seq (WP.region ?_)))
  refine WPl.v rfl (o_fldp F29_0 rfl) ?_
  refine WPl.v rfl (o_ldpg G26 rfl rfl rfl) ?_
  refine WPl.cs 6 rfl rfl rfl rfl (o_sig 6 (ren [(0, 0), (1, 1), (2, 2)]) (c123 h) e123 rfl rfl rfl w123 ⟨(lx rfl), (lx rfl), (lx rfl), trivial⟩ r123) ?_
  refine WPl.v rfl (o_move rfl) ?_
  refine WPl.bit 6 7 (!(hugeHo h)) rfl rfl ?_
  refine WPl.gv 6 rfl rfl (.plain rfl (by first | (simp; done) | simp only [Bool.not_eq_true']) rfl) (fun hb => o_fldp F29_1 rfl) ?_
  refine WPl.gv 6 rfl rfl (.plain rfl (by first | (simp; done) | simp only [Bool.not_eq_true']) rfl) (fun hb => o_ldp S24 rfl rfl rfl) ?_
  refine WPl.gv 6 rfl rfl (.plain rfl (by first | (simp; done) | simp only [Bool.not_eq_true']) rfl) (fun hb => o_lenq L24 rfl (lx rfl)) ?_
  refine WPl.gv 6 rfl rfl (.plain rfl (by first | (simp; done) | simp only [Bool.not_eq_true']) rfl) (fun hb => o_gtr rfl rfl) ?_
  refine WPl.v rfl (o_or rfl rfl rfl (by first | (simp; done) | exact fun h => by rw [h]; rfl | exact fun h => Bool.and_eq_true_iff.2 ⟨hb, by rw [h]; rfl⟩ | simp_all)) ?_
  refine WPl.v rfl (o_move rfl) ?_
  refine WPl.bit 7 8 (!((hugeHo h) || (decide (40 < (h.bores.length : Int))))) rfl rfl ?_
  refine WPl.gv 7 rfl rfl (.plain rfl (by first | (simp; done) | simp only [Bool.not_eq_true']) rfl) (fun hb => o_fldp F29_2 rfl) ?_
  refine WPl.gv 7 rfl rfl (.plain rfl (by first | (simp; done) | simp only [Bool.not_eq_true']) rfl) (fun hb => o_ldp S27 rfl rfl rfl) ?_
  refine WPl.gc0 7 rfl rfl (.plain rfl (by first | (simp; done) | simp only [Bool.not_eq_true']) rfl) (fun hb => o_sig 8 (ren [(0, 4)]) (c69 h.eds) e69 rfl rfl rfl w69 ⟨(lx rfl), trivial⟩ r69) ?_
  refine WPl.v rfl (o_or rfl rfl rfl (by first | (simp; done) | exact fun h => by rw [h]; rfl | exact fun h => Bool.and_eq_true_iff.2 ⟨hb, by rw [h]; rfl⟩ | simp_all)) ?_
  refine WPl.v rfl (o_assign rfl) ?_
  refine WPl.nil (EX.then (WP.ret ?_))
  exact EX.fin id (.inl rfl) rfl (.tmp rfl .nil) rfl r67 trivial (by simp) (by simp)
theorem w18 {b : Book} : ∀ x ∈ ([.e (.g [.q 0, .q 1, .q 2, ai (b.hall.change), .q 3, .q 4, .q 5, .q 6, ai (b.boys), .q 7])] : List SV), x.res (keys (α := Pred) [(0, PL ETm (b.hall.machs)), (1, PL EBd (b.hall.buns)), (2, PL EP.int (b.hall.trains)), (3, PL EP.int (b.hall.bores)), (4, PL (EP.sl EP.int) (b.hall.eds)), (5, PL EPl (b.set)), (6, PL EP.int (b.walk)), (7, PL ETa (b.tals))]) := by simp [SV.res, El.res, At.res, keys]
theorem r18 {b : Book} : SV.res (keys (α := Pred) []) (.b (farB b)) := by simp [SV.res, El.res, At.res, keys]
set_option maxHeartbeats 4000000 in
theorem c18 (b : Book)  : Sig Tryz.prog 18 [.e (.g [.q 0, .q 1, .q 2, ai (b.hall.change), .q 3, .q 4, .q 5, .q 6, ai (b.boys), .q 7])] [(0, PL ETm (b.hall.machs)), (1, PL EBd (b.hall.buns)), (2, PL EP.int (b.hall.trains)), (3, PL EP.int (b.hall.bores)), (4, PL (EP.sl EP.int) (b.hall.eds)), (5, PL EPl (b.set)), (6, PL EP.int (b.walk)), (7, PL ETa (b.tals))] (.b (farB b)) [] := by
  refine Sig.intro Tryz.func18 rfl 8 [(0, .e (.g [.q 0, .q 1, .q 2, ai (b.hall.change), .q 3, .q 4, .q 5, .q 6, ai (b.boys), .q 7]))] rfl w18 rfl rfl fun I w => ?_
  refine WP.seq (WP.region ?_)
  refine WPl.l 8 9 rfl rfl rfl (o_boxg rfl) ?_
  refine WPl.v rfl (o_assign rfl) ?_
  refine WPl.nil (EX.then (WP.seq (WP.region ?_)))
  refine WPl.v rfl (o_fldp F33_0 rfl) ?_
  refine WPl.v rfl (o_ldpg G29 rfl rfl rfl) ?_
  refine WPl.cs 9 rfl rfl rfl rfl (o_sig 9 (ren [(0, 0), (1, 1), (2, 2), (3, 3), (4, 4)]) (c67 b.hall) e67 rfl rfl rfl w67 ⟨(lx rfl), (lx rfl), (lx rfl), (lx rfl), (lx rfl), trivial⟩ r67) ?_
  refine WPl.v rfl (o_move rfl) ?_
  refine WPl.bit 9 10 (!(hugeH b.hall)) rfl rfl ?_
  refine WPl.gv 9 rfl rfl (.plain rfl (by first | (simp; done) | simp only [Bool.not_eq_true']) rfl) (fun hb => o_fldp F33_1 rfl) ?_
  refine WPl.gv 9 rfl rfl (.plain rfl (by first | (simp; done) | simp only [Bool.not_eq_true']) rfl) (fun hb => o_ldp S30 rfl rfl rfl) ?_
  refine WPl.gv 9 rfl rfl (.plain rfl (by first | (simp; done) | simp only [Bool.not_eq_true']) rfl) (fun hb => o_lenq L30 rfl (lx rfl)) ?_
  refine WPl.gv 9 rfl rfl (.plain rfl (by first | (simp; done) | simp only [Bool.not_eq_true']) rfl) (fun hb => o_gtr rfl rfl) ?_
  refine WPl.v rfl (o_or rfl rfl rfl (by first | (simp; done) | exact fun h => by rw [h]; rfl | exact fun h => Bool.and_eq_true_iff.2 ⟨hb, by rw [h]; rfl⟩ | simp_all)) ?_
  refine WPl.v rfl (o_move rfl) ?_
  refine WPl.bit 10 11 (!((hugeH b.hall) || (decide (40 < (b.set.length : Int))))) rfl rfl ?_
  refine WPl.gv 10 rfl rfl (.plain rfl (by first | (simp; done) | simp only [Bool.not_eq_true']) rfl) (fun hb => o_fldp F33_2 rfl) ?_
  refine WPl.gv 10 rfl rfl (.plain rfl (by first | (simp; done) | simp only [Bool.not_eq_true']) rfl) (fun hb => o_ldp S24 rfl rfl rfl) ?_
  refine WPl.gv 10 rfl rfl (.plain rfl (by first | (simp; done) | simp only [Bool.not_eq_true']) rfl) (fun hb => o_lenq L24 rfl (lx rfl)) ?_
  refine WPl.gv 10 rfl rfl (.plain rfl (by first | (simp; done) | simp only [Bool.not_eq_true']) rfl) (fun hb => o_gtr rfl rfl) ?_
  refine WPl.v rfl (o_or rfl rfl rfl (by first | (simp; done) | exact fun h => by rw [h]; rfl | exact fun h => Bool.and_eq_true_iff.2 ⟨hb, by rw [h]; rfl⟩ | simp_all)) ?_
  refine WPl.v rfl (o_move rfl) ?_
  refine WPl.bit 11 12 (!(((hugeH b.hall) || (decide (40 < (b.set.length : Int)))) || (decide (40 < (b.walk.length : Int))))) rfl rfl ?_
  refine WPl.gv 11 rfl rfl (.plain rfl (by first | (simp; done) | simp only [Bool.not_eq_true']) rfl) (fun hb => o_fldp F33_4 rfl) ?_
  refine WPl.gv 11 rfl rfl (.plain rfl (by first | (simp; done) | simp only [Bool.not_eq_true']) rfl) (fun hb => o_ldp S31 rfl rfl rfl) ?_
  refine WPl.gv 11 rfl rfl (.plain rfl (by first | (simp; done) | simp only [Bool.not_eq_true']) rfl) (fun hb => o_lenq L31 rfl (lx rfl)) ?_
  refine WPl.gv 11 rfl rfl (.plain rfl (by first | (simp; done) | simp only [Bool.not_eq_true']) rfl) (fun hb => o_gtr rfl rfl) ?_
  refine WPl.v rfl (o_or rfl rfl rfl (by first | (simp; done) | exact fun h => by rw [h]; rfl | exact fun h => Bool.and_eq_true_iff.2 ⟨hb, by rw [h]; rfl⟩ | simp_all)) ?_
  refine WPl.v rfl (o_assign rfl) ?_
  refine WPl.nil (EX.then (WP.ret ?_))
  exact EX.fin id (.inl rfl) rfl (.tmp rfl .nil) rfl r18 trivial (by simp) (by simp)
theorem w44 {a b : List Plate} : ∀ x ∈ ([.e (.a (.q 0)), .e (.a (.q 1))] : List SV), x.res (keys (α := Pred) [(0, PL EPl (a)), (1, PL EPl (b))]) := by simp [SV.res, El.res, At.res, keys]
theorem r44 {a b : List Plate} : SV.res (keys (α := Pred) []) (.b (samePl a b)) := by simp [SV.res, El.res, At.res, keys]
set_option maxHeartbeats 4000000 in
theorem c44 (a b : List Plate) (hl : a.length ≤ 1000000) : Sig Tryz.prog 44 [.e (.a (.q 0)), .e (.a (.q 1))] [(0, PL EPl (a)), (1, PL EPl (b))] (.b (samePl a b)) [] := by
  refine Sig.intro Tryz.func44 rfl 2 [(0, .e (.a (.q 0))), (1, .e (.a (.q 1)))] rfl w44 rfl rfl fun I w => ?_
  refine WP.seq (WP.region ?_)
  refine WPl.v rfl (o_assign rfl) ?_
  refine WPl.nil (EX.then (WP.seq (WP.seq (WP.region ?_))))
  refine WPl.v rfl (o_move rfl) ?_
  refine WPl.v rfl (o_lenq L30 rfl (lx rfl)) ?_
  refine WPl.v rfl (o_move rfl) ?_
  refine WPl.v rfl (o_lenq L30 rfl (lx rfl)) ?_
  refine WPl.v rfl (o_neq rfl rfl) ?_
  refine WPl.nil (EX.then ?_)
  refine WP.cond rfl (fun hc1 => ?_) (fun hc1 => ?_)
  · try simp only [cnd] at hc1
    refine WP.seq (WP.region ?_)
    refine WPl.v rfl (o_assign rfl) ?_
    refine WPl.nil (EX.then (WP.ret (EX.ret_then ?_)))
    rw [show samePl a b = false from by unfold samePl; rw [decide_eq_false hc1]; rfl]
    exact EX.fin id (.inl rfl) rfl (.tmp rfl .nil) rfl (by simp [SV.res, El.res, At.res, keys]) trivial (by simp) (by simp)
  · try simp only [cnd] at hc1
    refine WP.skip (EX.then (WP.seq (WP.seq (WP.region ?_))))
    refine WPl.v rfl (o_assign rfl) ?_
    refine WPl.nil (EX.then (WP.block ?_))
    refine WP.loop (Gh := Nat) (fun i => ⟨2, [(0, .e (.a (.q 0))), (1, .e (.a (.q 1))), (4, .b (false)), (5, .i ((i : Int)))], [(0, PL EPl (a)), (1, PL EPl (b))], [], [], []⟩) (fun i => i ≤ a.length ∧ allI (samePlAt a b) i = true) (fun i => a.length - i) (0) id ?_ (LeR.of ⟨rfl, rfl, rfl, rfl, trivial⟩ ⟨(lx rfl), (lx rfl), trivial⟩ trivial rfl rfl rfl rfl rfl) ?_
    · exact ⟨by omega, rfl⟩
    intro i hφ
    have hi : i ≤ a.length := hφ.1
    have hall := hφ.2
    refine WP.seq (WP.seq (WP.region ?_))
    refine WPl.v rfl (o_move rfl) ?_
    refine WPl.v rfl (o_move rfl) ?_
    refine WPl.v rfl (o_lenq L30 rfl (lx rfl)) ?_
    refine WPl.v rfl (o_lss rfl rfl) ?_
    refine WPl.nil (EX.then ?_)
    refine WP.cond rfl (fun hc2 => ?_) (fun hc2 => ?_)
    · try simp only [cnd] at hc2
      refine WP.skip (EX.then (WP.seq (WP.block (WP.seq ?_))))
      refine WP.draw (nf := 4) [⟨[18, 21, 22, 23, 24], [3], [], [], []⟩, ⟨[17, 21, 22, 23, 24], [3], [], [], []⟩, ⟨[21, 22, 23, 24], [3], [2], [2], [0, 1]⟩, ⟨[21, 22, 23, 24], [3], [], [], [0, 1, 2]⟩, ⟨[17, 18, 19, 20, 22], [2], [], [], []⟩, ⟨[17, 18, 19, 20, 21], [2], [], [], []⟩, ⟨[17, 18, 19, 20], [2], [3], [3], [4, 5]⟩, ⟨[17, 18, 19, 20], [2], [], [], [4, 5, 6]⟩, ⟨[], [], [], [], [0, 1, 2, 3, 4, 5, 6, 7]⟩] (by kernel_rfl) (by kernel_rfl) ?_
      refine DRQ.v rfl rfl rfl (o_move rfl) ?_
      refine DRQ.v rfl rfl rfl (o_move rfl) ?_
      refine DRQ.x 2 rfl rfl rfl rfl (o_idx L30 rfl (lx rfl) rfl (by first | omega | (simp; omega)) (by first | omega | (simp; omega))) ?_
      refine DRQ.v rfl rfl rfl (o_ldqg G77 rfl (lx rfl) (strG rfl) rfl rfl) ?_
      refine DRQ.v rfl rfl rfl (o_move rfl) ?_
      refine DRQ.v rfl rfl rfl (o_move rfl) ?_
      refine DRQ.x 3 rfl rfl rfl rfl (o_idx L30 rfl (lx rfl) rfl (by first | omega | (simp; omega)) (by first | omega | (simp; omega))) ?_
      refine DRQ.v rfl rfl rfl (o_ldqg G77 rfl (lx rfl) (strG rfl) rfl rfl) ?_
      refine DRQ.v rfl rfl rfl (o_nes (a := [(nth a (i : Int)).page, (nth a (i : Int)).bore, (nth a (i : Int)).many]) (b := [(nth b (i : Int)).page, (nth b (i : Int)).bore, (nth b (i : Int)).many]) Q77 rfl Tryz.eqGuardType77 rfl rfl rfl rfl) ?_
      refine DRQ.nil' ?_
      refine EX.then ?_
      refine WP.cond rfl (fun hc3 => ?_) (fun hc3 => ?_)
      · try simp only [cnd] at hc3
        refine WP.seq (WP.region ?_)
        refine WPl.v rfl (o_assign rfl) ?_
        refine WPl.nil (EX.then (WP.ret (EX.ret_blk (EX.ret_then (EX.ret_then (EX.ret_blk (EX.ret_then ?_)))))))
        rw [show samePl a b = false from by unfold samePl; rw [not_allI (show i < a.length by omega) (show samePlAt a b i = false from decide_eq_false hc3)]; simp]
        exact EX.fin id (.inl rfl) rfl (.tmp rfl .nil) rfl (by simp [SV.res, El.res, At.res, keys]) trivial (by simp) (by simp)
      · try simp only [cnd] at hc3
        refine WP.skip (EX.blk (EX.then (WP.region ?_)))
        refine WPl.v rfl (o_move rfl) ?_
        refine WPl.v rfl (o_add rfl rfl (by first | omega | (simp; omega)) (by first | omega | (simp; omega))) ?_
        refine WPl.v rfl (o_assign rfl) ?_
        refine WPl.nil ?_
        refine EX.again (i + 1) id (by exact ⟨by omega, by simp only [allI, hall, Bool.true_and, samePlAt, decide_eq_true_eq]; exact hc3⟩) (by omega) (LeR.of ⟨rfl, rfl, rfl, rfl, trivial⟩ ⟨(lx rfl), (lx rfl), trivial⟩ trivial rfl rfl rfl rfl rfl)
    · try simp only [cnd] at hc2
      refine WP.exit (EX.exit_then (EX.exit_then (EX.exit_blk (EX.then (WP.seq (WP.region ?_))))))
      refine WPl.v rfl (o_assign rfl) ?_
      refine WPl.nil (EX.then (WP.ret ?_))
      have hie : i = a.length := by omega
      rw [show samePl a b = true from by unfold samePl; rw [decide_eq_true (by first | exact hc1 | simpa using hc1), ← hie]; exact hall]
      exact EX.fin id (.inl rfl) rfl (.tmp rfl .nil) rfl (by simp [SV.res, El.res, At.res, keys]) trivial (by simp) (by simp)
theorem w147 {h : Hall} {m n : Int} : ∀ x ∈ ([.e (.g [.q 0, .q 1, .q 2, ai (h.change), .q 3, .q 4]), .i (m), .i (n)] : List SV), x.res (keys (α := Pred) [(0, PL ETm (h.machs)), (1, PL EBd (h.buns)), (2, PL EP.int (h.trains)), (3, PL EP.int (h.bores)), (4, PL (EP.sl EP.int) (h.eds))]) := by simp [SV.res, El.res, At.res, keys]
theorem r147 {h : Hall} {m n : Int} : SV.res (keys (α := Pred) [(0, PL ETm (h.machs)), (1, PL EBd (h.buns)), (2, PL EP.int (h.trains)), (3, PL EP.int ((lset h.bores m (nth h.bores n)))), (4, PL (EP.sl EP.int) (h.eds))]) (.e (.g [.q 0, .q 1, .q 2, ai (h.change), .q 3, .q 4])) := by simp [SV.res, El.res, At.res, keys]
set_option maxHeartbeats 4000000 in
theorem c147 (h : Hall) (m n : Int) (hm : h.Small) (h1 : 0 ≤ m ∧ m < h.bores.length) (h2 : 0 ≤ n ∧ n < h.bores.length) : Sig Tryz.prog 147 [.e (.g [.q 0, .q 1, .q 2, ai (h.change), .q 3, .q 4]), .i (m), .i (n)] [(0, PL ETm (h.machs)), (1, PL EBd (h.buns)), (2, PL EP.int (h.trains)), (3, PL EP.int (h.bores)), (4, PL (EP.sl EP.int) (h.eds))] (.e (.g [.q 0, .q 1, .q 2, ai (h.change), .q 3, .q 4])) [(0, PL ETm (h.machs)), (1, PL EBd (h.buns)), (2, PL EP.int (h.trains)), (3, PL EP.int ((lset h.bores m (nth h.bores n)))), (4, PL (EP.sl EP.int) (h.eds))] := by
  refine Sig.intro Tryz.func147 rfl 5 [(0, .e (.g [.q 0, .q 1, .q 2, ai (h.change), .q 3, .q 4])), (1, .i (m)), (2, .i (n))] rfl w147 rfl rfl fun I w => ?_
  refine WP.seq (WP.region ?_)
  refine WPl.l 5 6 rfl rfl rfl (o_boxg rfl) ?_
  refine WPl.l 6 7 rfl rfl rfl (o_alloc Z29) ?_
  refine WPl.nil (EX.then (WP.seq (WP.region ?_)))
  refine WPl.v rfl (o_ldpa G29 rfl rfl rfl) ?_
  refine WPl.cL 12 rfl rfl rfl rfl rfl (o_sigo 7 (ren [(0, 0), (1, 1), (2, 2), (3, 3), (4, 4)]) (c74O h hm) e74 rfl rfl SvsOK.rf w74O ⟨(lx rfl), (lx rfl), (lx rfl), (lx rfl), (lx rfl), trivial⟩ r74O rfl rfl) ?_
  refine WPl.l 12 13 rfl rfl rfl (o_alloc Z29) ?_
  refine WPl.s1 (o_stag G29 rfl rfl rfl ⟨(.inl ⟨_, (lx rfl), PL.one⟩), (.inl ⟨_, (lx rfl), PL.one⟩), (.inl ⟨_, (lx rfl), PL.one⟩), rfl, (.inr ⟨_, _, _, _, rfl⟩), (.inl ⟨_, (lx rfl), PL.one⟩), trivial⟩ rfl rfl) ?_
  refine WPl.nil (EX.then (WP.seq ?_))
  refine WP.draw (nf := 14) [⟨[12, 13, 14, 15, 16, 17], [13], [], [], []⟩, ⟨[12, 13, 14, 15, 16, 17], [13], [], [], [0]⟩, ⟨[10, 11, 13, 14, 15, 16, 17], [13], [], [], []⟩, ⟨[10, 11, 12, 15], [], [], [], []⟩, ⟨[10, 11, 12, 15], [], [], [], [3]⟩, ⟨[10, 11, 12, 13, 14], [], [], [], []⟩, ⟨[10, 11, 12], [], [13], [13], [3, 4, 5]⟩, ⟨[10, 11, 12], [], [], [], [3, 4, 5, 6]⟩, ⟨[], [], [], [], [0, 1, 2, 3, 4, 5, 6, 7]⟩, ⟨[], [], [], [10], [0, 1, 2, 3, 4, 5, 6, 7, 8]⟩] (by kernel_rfl) (by kernel_rfl) ?_
  refine DRQ.v rfl rfl rfl (o_fldp F29_1 rfl) ?_
  refine DRQ.v rfl rfl rfl (o_ldp S24 rfl rfl rfl) ?_
  refine DRQ.v rfl rfl rfl (o_move rfl) ?_
  refine DRQ.v rfl rfl rfl (o_fldp F29_1 rfl) ?_
  refine DRQ.v rfl rfl rfl (o_ldp S24 rfl rfl rfl) ?_
  refine DRQ.v rfl rfl rfl (o_move rfl) ?_
  refine DRQ.x 13 rfl rfl rfl rfl (o_idx L24 rfl (lx rfl) rfl (by first | omega | (simp; omega)) (by first | omega | (simp; omega))) ?_
  refine DRQ.v rfl rfl rfl (o_ldq S3 rfl (lx rfl) intc) ?_
  refine DRQ.v rfl rfl rfl (o_idxo L24 rfl rfl rfl (by first | omega | (simp; omega)) (by first | omega | (simp; omega))) ?_
  refine DRQ.s 10 rfl rfl rfl (o_steE2 Tryz.sizeOf3 rfl rfl rfl rfl eok_int rfl rfl rfl (by first | omega | (simp; omega)) (by first | omega | (simp; omega))) ?_
  refine DRQ.nil' ?_
  refine EX.then (WP.seq (WP.region ?_))
  refine WPl.v rfl (o_ldpa G29 rfl rfl rfl) ?_
  refine WPl.s1 (o_stag G29 rfl rfl rfl ⟨(.inl ⟨_, (lx rfl), PL.one⟩), (.inl ⟨_, (lx rfl), PL.one⟩), (.inl ⟨_, (lx rfl), PL.one⟩), rfl, (.inr ⟨_, _, _, _, rfl⟩), (.inl ⟨_, (lx rfl), PL.one⟩), trivial⟩ rfl rfl) ?_
  refine WPl.nil (EX.then (WP.ret ?_))
  refine EX.imp (Imp.frz (E := EP.int) (l := lset ([] ++ h.bores) m (nth h.bores n)) 10 rfl rfl) ?_
  exact EX.fin (ren [(0, 7), (1, 8), (2, 9), (3, 10), (4, 11)]) (.inl rfl) rfl (.cellg G29 rfl rfl rfl (.nil)) rfl r147 ⟨(lx rfl), (lx rfl), (lx rfl), (lx rfl), (lx rfl), trivial⟩ (by simp) (by simp)
theorem w126  : ∀ x ∈ ([] : List SV), x.res (keys (α := Pred) []) := by simp [SV.res, El.res, At.res, keys]
theorem r126  : SV.res (keys (α := Pred) [(0, PL ETm (exK.machs)), (1, PL EBd (exK.buns)), (2, PL EP.int (exK.trains)), (3, PL EP.int (exK.bores)), (4, PL (EP.sl EP.int) (exK.eds)), (5, PL ETm (exL.machs)), (6, PL EBd (exL.buns)), (7, PL EP.int (exL.trains)), (8, PL EP.int (exL.bores)), (9, PL (EP.sl EP.int) (exL.eds))]) (.t [.g [.q 0, .q 1, .q 2, ai (exK.change), .q 3, .q 4], .g [.q 5, .q 6, .q 7, ai (exL.change), .q 8, .q 9]]) := by simp [SV.res, El.res, At.res, keys]
set_option maxHeartbeats 4000000 in
theorem c126   : Sig Tryz.prog 126 [] [] (.t [.g [.q 0, .q 1, .q 2, ai (exK.change), .q 3, .q 4], .g [.q 5, .q 6, .q 7, ai (exL.change), .q 8, .q 9]]) [(0, PL ETm (exK.machs)), (1, PL EBd (exK.buns)), (2, PL EP.int (exK.trains)), (3, PL EP.int (exK.bores)), (4, PL (EP.sl EP.int) (exK.eds)), (5, PL ETm (exL.machs)), (6, PL EBd (exL.buns)), (7, PL EP.int (exL.trains)), (8, PL EP.int (exL.bores)), (9, PL (EP.sl EP.int) (exL.eds))] := by
  refine Sig.intro Tryz.func126 rfl 0 [] rfl w126 rfl rfl fun I w => ?_
  refine WP.seq (WP.region ?_)
  refine WPl.l 0 1 rfl rfl rfl (o_alloc Z29) ?_
  refine WPl.l 1 2 rfl rfl rfl (o_alloc Z29) ?_
  refine WPl.nil (EX.then (WP.seq (WP.region ?_)))
  refine WPl.v rfl (o_build B156 rfl ⟨rfl, rfl, trivial⟩ rfl rfl) ?_
  refine WPl.v rfl (o_build B156 rfl ⟨rfl, rfl, trivial⟩ rfl rfl) ?_
  refine WPl.x 2 3 rfl rfl rfl (OpG.settle0 (o_bsl (E := ETm) (l := [(⟨0, 2, 1⟩ : TM), (⟨0, 2, 1⟩ : TM)]) R22 rfl rfl (.cons (⟨rfl, rfl, rfl, trivial⟩) rfl (eok_str ⟨rfl, rfl, rfl, trivial⟩) (.cons (⟨rfl, rfl, rfl, trivial⟩) rfl (eok_str ⟨rfl, rfl, rfl, trivial⟩) (.nil))) rfl rfl)) ?_
  refine WPl.v rfl (o_build B95 rfl ⟨rfl, rfl, rfl, trivial⟩ rfl rfl) ?_
  refine WPl.v rfl (o_build B95 rfl ⟨rfl, rfl, rfl, trivial⟩ rfl rfl) ?_
  refine WPl.x 3 4 rfl rfl rfl (OpG.settle0 (o_bsl (E := EBd) (l := [(⟨0, 2, 0⟩ : TBd), (⟨1, 3, 1⟩ : TBd)]) R23 rfl rfl (.cons (⟨rfl, rfl, rfl, trivial⟩) rfl (eok_str ⟨rfl, rfl, rfl, trivial⟩) (.cons (⟨rfl, rfl, rfl, trivial⟩) rfl (eok_str ⟨rfl, rfl, rfl, trivial⟩) (.nil))) rfl rfl)) ?_
  refine WPl.x 4 5 rfl rfl rfl (OpG.settle0 (o_bsl (E := EP.int) (l := [5, 12]) R24 rfl rfl (.cons (rfl) rfl (eok_int) (.cons (rfl) rfl (eok_int) (.nil))) rfl rfl)) ?_
  refine WPl.v rfl (o_build B26 rfl ⟨(.inl ⟨_, (lx rfl), PL.one⟩), (.inl ⟨_, (lx rfl), PL.one⟩), (.inl ⟨_, (lx rfl), PL.one⟩), rfl, trivial⟩ rfl rfl) ?_
  refine WPl.x 5 6 rfl rfl rfl (OpG.settle0 (o_bsl (E := EP.int) (l := [0, 1]) R24 rfl rfl (.cons (rfl) rfl (eok_int) (.cons (rfl) rfl (eok_int) (.nil))) rfl rfl)) ?_
  refine WPl.x 6 7 rfl rfl rfl (OpG.settle0 (o_bsl (E := EP.int) (l := [0, 1]) R24 rfl rfl (.cons (rfl) rfl (eok_int) (.cons (rfl) rfl (eok_int) (.nil))) rfl rfl)) ?_
  refine WPl.x 7 8 rfl rfl rfl (OpG.settle0 (o_bsl (E := EP.int) (l := [0, 2]) R24 rfl rfl (.cons (rfl) rfl (eok_int) (.cons (rfl) rfl (eok_int) (.nil))) rfl rfl)) ?_
  refine WPl.x 8 9 rfl rfl rfl (OpG.settle0 (o_bsl (E := (EP.sl EP.int)) (l := [[0, 1], [0, 2]]) R27 rfl rfl (.cons ((.inl ⟨_, (lx rfl), PL.one⟩)) rfl (eok_sl (lx rfl)) (.cons ((.inl ⟨_, (lx rfl), PL.one⟩)) rfl (eok_sl (lx rfl)) (.nil))) rfl rfl)) ?_
  refine WPl.v rfl (o_build B29 rfl ⟨(.inl ⟨_, (lx rfl), PL.one⟩), (.inl ⟨_, (lx rfl), PL.one⟩), trivial⟩ rfl rfl) ?_
  refine WPl.s1 (o_stag G29 rfl rfl rfl ⟨(.inl ⟨_, (lx rfl), PL.one⟩), (.inl ⟨_, (lx rfl), PL.one⟩), (.inl ⟨_, (lx rfl), PL.one⟩), rfl, (.inl ⟨_, (lx rfl), PL.one⟩), (.inl ⟨_, (lx rfl), PL.one⟩), trivial⟩ rfl rfl) ?_
  refine WPl.nil (EX.then (WP.seq ?_))
  refine WP.draw (nf := 14) [⟨[16, 17], [9, 10, 11, 12, 13], [], [], []⟩, ⟨[15], [], [], [], []⟩, ⟨[15], [], [9, 10, 11, 12, 13], [9, 10, 11, 12, 13], [1]⟩, ⟨[], [], [], [0], [0, 1, 2]⟩, ⟨[], [], [], [1], [0, 1, 2, 3]⟩] (by kernel_rfl) (by kernel_rfl) ?_
  refine DRQ.v rfl rfl rfl (o_ldpa G29 rfl rfl rfl) ?_
  refine DRQ.v rfl rfl rfl (o_ldpa G29 rfl rfl rfl) ?_
  refine DRQ.cs rfl rfl rfl rfl (o_sig 9 (ren [(0, 2), (1, 3), (2, 4), (3, 5), (4, 8)]) (c147 exK 1 0 exK_small (by decide) (by decide)) e147 rfl rfl rfl w147 ⟨(lx rfl), (lx rfl), (lx rfl), (lx rfl), (lx rfl), trivial⟩ r147) ?_
  refine DRQ.s 0 rfl rfl rfl (o_stag G29 rfl rfl rfl ⟨(.inl ⟨_, (lx rfl), PL.one⟩), (.inl ⟨_, (lx rfl), PL.one⟩), (.inl ⟨_, (lx rfl), PL.one⟩), rfl, (.inl ⟨_, (lx rfl), PL.one⟩), (.inl ⟨_, (lx rfl), PL.one⟩), trivial⟩ rfl rfl) ?_
  refine DRQ.s 1 rfl rfl rfl (o_stag G29 rfl rfl rfl ⟨(.inl ⟨_, (lx rfl), PL.one⟩), (.inl ⟨_, (lx rfl), PL.one⟩), (.inl ⟨_, (lx rfl), PL.one⟩), rfl, (.inl ⟨_, (lx rfl), PL.one⟩), (.inl ⟨_, (lx rfl), PL.one⟩), trivial⟩ rfl rfl) ?_
  refine DRQ.nil' ?_
  refine EX.then (WP.ret ?_)
  exact EX.fin (ren [(0, 2), (1, 3), (2, 4), (3, 5), (4, 8), (5, 9), (6, 10), (7, 11), (8, 12), (9, 13)]) (.inl rfl) rfl (.cellg G29 rfl rfl rfl (.cellg G29 rfl rfl rfl (.nil))) rfl r126 ⟨(lx rfl), (lx rfl), (lx rfl), (lx rfl), (lx rfl), (lx rfl), (lx rfl), (lx rfl), (lx rfl), (lx rfl), trivial⟩ (by simp) (by simp)
theorem w76  : ∀ x ∈ ([] : List SV), x.res (keys (α := Pred) []) := by simp [SV.res, El.res, At.res, keys]
theorem r76  : SV.res (keys (α := Pred) [(0, PL ETm (exB.hall.machs)), (1, PL EBd (exB.hall.buns)), (2, PL EP.int (exB.hall.trains)), (3, PL EP.int (exB.hall.bores)), (4, PL (EP.sl EP.int) (exB.hall.eds)), (5, PL EPl (exB.set)), (6, PL EP.int (exB.walk)), (7, PL ETa (exB.tals)), (8, PL ETm (exC.hall.machs)), (9, PL EBd (exC.hall.buns)), (10, PL EP.int (exC.hall.trains)), (11, PL EP.int (exC.hall.bores)), (12, PL (EP.sl EP.int) (exC.hall.eds)), (13, PL EPl (exC.set)), (14, PL EP.int (exC.walk)), (15, PL ETa (exC.tals))]) (.t [.g [.q 0, .q 1, .q 2, ai (exB.hall.change), .q 3, .q 4, .q 5, .q 6, ai (exB.boys), .q 7], .g [.q 8, .q 9, .q 10, ai (exC.hall.change), .q 11, .q 12, .q 13, .q 14, ai (exC.boys), .q 15]]) := by simp [SV.res, El.res, At.res, keys]
set_option maxHeartbeats 4000000 in
theorem c76   : Sig Tryz.prog 76 [] [] (.t [.g [.q 0, .q 1, .q 2, ai (exB.hall.change), .q 3, .q 4, .q 5, .q 6, ai (exB.boys), .q 7], .g [.q 8, .q 9, .q 10, ai (exC.hall.change), .q 11, .q 12, .q 13, .q 14, ai (exC.boys), .q 15]]) [(0, PL ETm (exB.hall.machs)), (1, PL EBd (exB.hall.buns)), (2, PL EP.int (exB.hall.trains)), (3, PL EP.int (exB.hall.bores)), (4, PL (EP.sl EP.int) (exB.hall.eds)), (5, PL EPl (exB.set)), (6, PL EP.int (exB.walk)), (7, PL ETa (exB.tals)), (8, PL ETm (exC.hall.machs)), (9, PL EBd (exC.hall.buns)), (10, PL EP.int (exC.hall.trains)), (11, PL EP.int (exC.hall.bores)), (12, PL (EP.sl EP.int) (exC.hall.eds)), (13, PL EPl (exC.set)), (14, PL EP.int (exC.walk)), (15, PL ETa (exC.tals))] := by
  refine Sig.intro Tryz.func76 rfl 0 [] rfl w76 rfl rfl fun I w => ?_
  refine WP.seq (WP.region ?_)
  refine WPl.l 0 1 rfl rfl rfl (o_alloc Z33) ?_
  refine WPl.l 1 2 rfl rfl rfl (o_alloc Z33) ?_
  refine WPl.nil (EX.then (WP.seq (WP.region ?_)))
  refine WPl.cs 12 rfl rfl rfl rfl (o_sig 2 id c126 e126 rfl rfl rfl w126 trivial r126) ?_
  refine WPl.v rfl (o_move rfl) ?_
  refine WPl.v rfl (o_extract rfl rfl) ?_
  refine WPl.v rfl (o_extract rfl rfl) ?_
  refine WPl.l 12 13 rfl rfl rfl (o_alloc Z29) ?_
  refine WPl.l 13 14 rfl rfl rfl (o_alloc Z29) ?_
  refine WPl.s1 (o_stag G29 rfl rfl rfl ⟨(.inl ⟨_, (lx rfl), PL.one⟩), (.inl ⟨_, (lx rfl), PL.one⟩), (.inl ⟨_, (lx rfl), PL.one⟩), rfl, (.inl ⟨_, (lx rfl), PL.one⟩), (.inl ⟨_, (lx rfl), PL.one⟩), trivial⟩ rfl rfl) ?_
  refine WPl.s1 (o_stag G29 rfl rfl rfl ⟨(.inl ⟨_, (lx rfl), PL.one⟩), (.inl ⟨_, (lx rfl), PL.one⟩), (.inl ⟨_, (lx rfl), PL.one⟩), rfl, (.inl ⟨_, (lx rfl), PL.one⟩), (.inl ⟨_, (lx rfl), PL.one⟩), trivial⟩ rfl rfl) ?_
  refine WPl.nil (EX.then (WP.seq (WP.region ?_)))
  refine WPl.v rfl (o_ldpa G29 rfl rfl rfl) ?_
  refine WPl.v rfl (o_build B77 rfl ⟨rfl, rfl, rfl, trivial⟩ rfl rfl) ?_
  refine WPl.v rfl (o_build B77 rfl ⟨rfl, rfl, rfl, trivial⟩ rfl rfl) ?_
  refine WPl.v rfl (o_build B77 rfl ⟨rfl, rfl, rfl, trivial⟩ rfl rfl) ?_
  refine WPl.v rfl (o_build B77 rfl ⟨rfl, rfl, rfl, trivial⟩ rfl rfl) ?_
  refine WPl.x 14 15 rfl rfl rfl (OpG.settle0 (o_bsl (E := EPl) (l := [(⟨0, 0, 1⟩ : Plate), (⟨0, 1, 1⟩ : Plate), (⟨1, 0, 1⟩ : Plate), (⟨2, 1, 1⟩ : Plate)]) R30 rfl rfl (.cons (⟨rfl, rfl, rfl, trivial⟩) rfl (eok_str ⟨rfl, rfl, rfl, trivial⟩) (.cons (⟨rfl, rfl, rfl, trivial⟩) rfl (eok_str ⟨rfl, rfl, rfl, trivial⟩) (.cons (⟨rfl, rfl, rfl, trivial⟩) rfl (eok_str ⟨rfl, rfl, rfl, trivial⟩) (.cons (⟨rfl, rfl, rfl, trivial⟩) rfl (eok_str ⟨rfl, rfl, rfl, trivial⟩) (.nil))))) rfl rfl)) ?_
  refine WPl.x 15 16 rfl rfl rfl (OpG.settle0 (o_bsl (E := EP.int) (l := [3, 5]) R24 rfl rfl (.cons (rfl) rfl (eok_int) (.cons (rfl) rfl (eok_int) (.nil))) rfl rfl)) ?_
  refine WPl.v rfl (o_build B58 rfl ⟨rfl, trivial⟩ rfl rfl) ?_
  refine WPl.v rfl (o_build B58 rfl ⟨rfl, rfl, trivial⟩ rfl rfl) ?_
  refine WPl.v rfl (o_build B58 rfl ⟨rfl, rfl, rfl, trivial⟩ rfl rfl) ?_
  refine WPl.v rfl (o_build B58 rfl ⟨rfl, rfl, rfl, rfl, trivial⟩ rfl rfl) ?_
  refine WPl.v rfl (o_build B58 rfl ⟨rfl, trivial⟩ rfl rfl) ?_
  refine WPl.x 16 17 rfl rfl rfl (OpG.settle0 (o_bsl (E := ETa) (l := [(⟨0, 0, 0, 4⟩ : Tal), (⟨0, 1, 0, 8⟩ : Tal), (⟨1, 0, 1, 6⟩ : Tal), (⟨1, 2, 1, 16⟩ : Tal), (⟨0, 0, 0, 20⟩ : Tal)]) R31 rfl rfl (.cons (⟨rfl, rfl, rfl, rfl, trivial⟩) rfl (eok_str ⟨rfl, rfl, rfl, rfl, trivial⟩) (.cons (⟨rfl, rfl, rfl, rfl, trivial⟩) rfl (eok_str ⟨rfl, rfl, rfl, rfl, trivial⟩) (.cons (⟨rfl, rfl, rfl, rfl, trivial⟩) rfl (eok_str ⟨rfl, rfl, rfl, rfl, trivial⟩) (.cons (⟨rfl, rfl, rfl, rfl, trivial⟩) rfl (eok_str ⟨rfl, rfl, rfl, rfl, trivial⟩) (.cons (⟨rfl, rfl, rfl, rfl, trivial⟩) rfl (eok_str ⟨rfl, rfl, rfl, rfl, trivial⟩) (.nil)))))) rfl rfl)) ?_
  refine WPl.v rfl (o_build B33 rfl ⟨(.inl ⟨_, (lx rfl), PL.one⟩), (.inl ⟨_, (lx rfl), PL.one⟩), rfl, (.inl ⟨_, (lx rfl), PL.one⟩), trivial⟩ rfl rfl) ?_
  refine WPl.s1 (o_stag G33 rfl rfl rfl ⟨(.inl ⟨_, (lx rfl), PL.one⟩), (.inl ⟨_, (lx rfl), PL.one⟩), (.inl ⟨_, (lx rfl), PL.one⟩), rfl, (.inl ⟨_, (lx rfl), PL.one⟩), (.inl ⟨_, (lx rfl), PL.one⟩), (.inl ⟨_, (lx rfl), PL.one⟩), (.inl ⟨_, (lx rfl), PL.one⟩), rfl, (.inl ⟨_, (lx rfl), PL.one⟩), trivial⟩ rfl rfl) ?_
  refine WPl.nil (EX.then (WP.seq (WP.region ?_)))
  refine WPl.v rfl (o_ldpa G33 rfl rfl rfl) ?_
  refine WPl.cs 25 rfl rfl rfl rfl (o_sig 17 (ren [(0, 2), (1, 3), (2, 4), (3, 5), (4, 6), (5, 14), (6, 15), (7, 16)]) (c20 exB exB_small) e20 rfl rfl rfl w20 ⟨(lx rfl), (lx rfl), (lx rfl), (lx rfl), (lx rfl), (lx rfl), (lx rfl), (lx rfl), trivial⟩ r20) ?_
  refine WPl.s1 (o_stag G33 rfl rfl rfl ⟨(.inl ⟨_, (lx rfl), PL.one⟩), (.inl ⟨_, (lx rfl), PL.one⟩), (.inl ⟨_, (lx rfl), PL.one⟩), rfl, (.inl ⟨_, (lx rfl), PL.one⟩), (.inl ⟨_, (lx rfl), PL.one⟩), (.inl ⟨_, (lx rfl), PL.one⟩), (.inl ⟨_, (lx rfl), PL.one⟩), rfl, (.inl ⟨_, (lx rfl), PL.one⟩), trivial⟩ rfl rfl) ?_
  refine WPl.nil (EX.then (WP.seq (WP.region ?_)))
  refine WPl.v rfl (o_fldp F33_4 rfl) ?_
  refine WPl.v rfl (o_ldp S31 rfl rfl rfl) ?_
  refine WPl.x 25 26 rfl rfl rfl (o_slice (a := 0) (b := 4) L31 rfl (lx rfl) rfl rfl (by decide) (by decide) (by decide)) ?_
  refine WPl.v rfl (o_fldp F33_4 rfl) ?_
  refine WPl.s1 (o_sta S31 rfl rfl rfl (.inl ⟨_, (lx rfl), PL.one⟩) rfl) ?_
  refine WPl.nil (EX.then (WP.seq ?_))
  refine WP.draw (nf := 26) [⟨[29], [], [], [], []⟩, ⟨[28], [0], [], [], []⟩, ⟨[29], [], [], [0], [0]⟩, ⟨[], [], [], [1], [0, 1, 2]⟩] (by kernel_rfl) (by kernel_rfl) ?_
  refine DRQ.v rfl rfl rfl (o_ldpa G33 rfl rfl rfl) ?_
  refine DRQ.v rfl rfl rfl (o_ldpa G33 rfl rfl rfl) ?_
  refine DRQ.s 0 rfl rfl rfl (o_stag G33 rfl rfl rfl ⟨(.inl ⟨_, (lx rfl), PL.one⟩), (.inl ⟨_, (lx rfl), PL.one⟩), (.inl ⟨_, (lx rfl), PL.one⟩), rfl, (.inl ⟨_, (lx rfl), PL.one⟩), (.inl ⟨_, (lx rfl), PL.one⟩), (.inl ⟨_, (lx rfl), PL.one⟩), (.inl ⟨_, (lx rfl), PL.one⟩), rfl, (.inl ⟨_, (lx rfl), PL.one⟩), trivial⟩ rfl rfl) ?_
  refine DRQ.s 1 rfl rfl rfl (o_stag G33 rfl rfl rfl ⟨(.inl ⟨_, (lx rfl), PL.one⟩), (.inl ⟨_, (lx rfl), PL.one⟩), (.inl ⟨_, (lx rfl), PL.one⟩), rfl, (.inl ⟨_, (lx rfl), PL.one⟩), (.inl ⟨_, (lx rfl), PL.one⟩), (.inl ⟨_, (lx rfl), PL.one⟩), (.inl ⟨_, (lx rfl), PL.one⟩), rfl, (.inl ⟨_, (lx rfl), PL.one⟩), trivial⟩ rfl rfl) ?_
  refine DRQ.nil' ?_
  refine EX.then (WP.ret ?_)
  exact EX.fin (ren [(0, 2), (1, 3), (2, 4), (3, 5), (4, 6), (5, 14), (6, 15), (7, 16), (8, 17), (9, 18), (10, 19), (11, 20), (12, 21), (13, 22), (14, 23), (15, 25)]) (.inl rfl) rfl (.cellg G33 rfl rfl rfl (.cellg G33 rfl rfl rfl (.nil))) rfl r76 ⟨(lx rfl), (lx rfl), (lx rfl), (lx rfl), (lx rfl), (lx rfl), (lx rfl), (lx rfl), (lx rfl), (lx rfl), (lx rfl), (lx rfl), (lx rfl), (lx rfl), (lx rfl), (lx rfl), trivial⟩ (by simp) (by simp)
theorem w19  : ∀ x ∈ ([] : List SV), x.res (keys (α := Pred) [(0, (Pred.tab 1 tz64))]) := by simp [SV.res, El.res, At.res, keys]
theorem r19  : SV.res (keys (α := Pred) []) (.b (true)) := by simp [SV.res, El.res, At.res, keys]
set_option maxHeartbeats 4000000 in
set_option maxRecDepth 10000 in
theorem c19   : Sig Tryz.prog 19 [] [(0, (Pred.tab 1 tz64))] (.b (true)) [] := by
  refine Sig.intro Tryz.func19 rfl 1 [] rfl w19 rfl rfl fun I w => ?_
  refine WP.seq (WP.region ?_)
  refine WPl.v rfl (o_assign rfl) ?_
  refine WPl.nil (EX.then (WP.seq (WP.region ?_)))
  refine WPl.cs 17 rfl rfl rfl rfl (o_sig 1 id c76 e76 rfl rfl rfl w76 trivial r76) ?_
  refine WPl.v rfl (o_move rfl) ?_
  refine WPl.v rfl (o_extract rfl rfl) ?_
  refine WPl.v rfl (o_extract rfl rfl) ?_
  refine WPl.l 17 18 rfl rfl rfl (o_alloc Z33) ?_
  refine WPl.l 18 19 rfl rfl rfl (o_alloc Z33) ?_
  refine WPl.s1 (o_stag G33 rfl rfl rfl ⟨(.inl ⟨_, (lx rfl), PL.one⟩), (.inl ⟨_, (lx rfl), PL.one⟩), (.inl ⟨_, (lx rfl), PL.one⟩), rfl, (.inl ⟨_, (lx rfl), PL.one⟩), (.inl ⟨_, (lx rfl), PL.one⟩), (.inl ⟨_, (lx rfl), PL.one⟩), (.inl ⟨_, (lx rfl), PL.one⟩), rfl, (.inl ⟨_, (lx rfl), PL.one⟩), trivial⟩ rfl rfl) ?_
  refine WPl.s1 (o_stag G33 rfl rfl rfl ⟨(.inl ⟨_, (lx rfl), PL.one⟩), (.inl ⟨_, (lx rfl), PL.one⟩), (.inl ⟨_, (lx rfl), PL.one⟩), rfl, (.inl ⟨_, (lx rfl), PL.one⟩), (.inl ⟨_, (lx rfl), PL.one⟩), (.inl ⟨_, (lx rfl), PL.one⟩), (.inl ⟨_, (lx rfl), PL.one⟩), rfl, (.inl ⟨_, (lx rfl), PL.one⟩), trivial⟩ rfl rfl) ?_
  refine WPl.nil (EX.then (WP.seq (WP.region ?_)))
  refine WPl.v rfl (o_ldpa G33 rfl rfl rfl) ?_
  refine WPl.cs 19 rfl rfl rfl rfl (o_sig 19 (ren [(0, 1), (1, 2), (2, 3), (3, 4), (4, 5), (5, 6), (6, 7), (7, 8)]) (c47 exB 0 4 exB_small) e47 rfl rfl rfl w47 ⟨(lx rfl), (lx rfl), (lx rfl), (lx rfl), (lx rfl), (lx rfl), (lx rfl), (lx rfl), trivial⟩ r47) ?_
  refine WPl.v rfl (o_move rfl) ?_
  refine WPl.v rfl (o_extract rfl rfl) ?_
  refine WPl.v rfl (o_extract rfl rfl) ?_
  refine WPl.v rfl (o_assign rfl) ?_
  refine WPl.v rfl (o_assign rfl) ?_
  refine WPl.nil (EX.then (WP.seq (WP.region ?_)))
  refine WPl.v rfl (o_ldpa G33 rfl rfl rfl) ?_
  refine WPl.cs 19 rfl rfl rfl rfl (o_sig 19 (ren [(0, 9), (1, 10), (2, 11), (3, 12), (4, 13), (5, 14), (6, 15), (7, 16), (8, 0)]) (c60 exC exC_small) e60 rfl rfl rfl w60 ⟨(lx rfl), (lx rfl), (lx rfl), (lx rfl), (lx rfl), (lx rfl), (lx rfl), (lx rfl), (lx rfl), trivial⟩ r60) ?_
  refine WPl.v rfl (o_move rfl) ?_
  refine WPl.v rfl (o_extract rfl rfl) ?_
  refine WPl.v rfl (o_extract rfl rfl) ?_
  refine WPl.v rfl (o_assign rfl) ?_
  refine WPl.v rfl (o_assign rfl) ?_
  refine WPl.nil (EX.then (WP.seq (WP.region ?_)))
  refine WPl.v rfl (o_ldpa G33 rfl rfl rfl) ?_
  refine WPl.cs 19 rfl rfl rfl rfl (o_sig 19 (ren [(0, 9), (1, 10), (2, 11), (3, 12), (4, 13), (5, 14), (6, 15), (7, 16), (8, 0)]) (c38 exC 0 exC_small) e38 rfl rfl rfl w38 ⟨(lx rfl), (lx rfl), (lx rfl), (lx rfl), (lx rfl), (lx rfl), (lx rfl), (lx rfl), (lx rfl), trivial⟩ r38) ?_
  refine WPl.v rfl (o_move rfl) ?_
  refine WPl.v rfl (o_extract rfl rfl) ?_
  refine WPl.v rfl (o_extract rfl rfl) ?_
  refine WPl.v rfl (o_assign rfl) ?_
  refine WPl.v rfl (o_assign rfl) ?_
  refine WPl.nil (EX.then (WP.seq (WP.region ?_)))
  refine WPl.v rfl (o_ldpa G33 rfl rfl rfl) ?_
  refine WPl.cs 20 rfl rfl rfl rfl (o_sig 19 (ren [(0, 9), (1, 10), (2, 11), (3, 12), (4, 13), (5, 14), (6, 15), (7, 16), (8, 0)]) (c30 exC exC_small) e30 rfl rfl rfl w30 ⟨(lx rfl), (lx rfl), (lx rfl), (lx rfl), (lx rfl), (lx rfl), (lx rfl), (lx rfl), (lx rfl), trivial⟩ r30) ?_
  refine WPl.v rfl (o_move rfl) ?_
  refine WPl.v rfl (o_extract rfl rfl) ?_
  refine WPl.v rfl (o_extract rfl rfl) ?_
  refine WPl.v rfl (o_assign rfl) ?_
  refine WPl.v rfl (o_assign rfl) ?_
  refine WPl.nil (EX.then (WP.seq (WP.region ?_)))
  refine WPl.v rfl (o_ldpa G33 rfl rfl rfl) ?_
  refine WPl.cs 20 rfl rfl rfl rfl (o_sig 20 (ren [(0, 9), (1, 10), (2, 11), (3, 12), (4, 13), (5, 14), (6, 15), (7, 16), (8, 0)]) (c37 exC 0 exC_small) e37 rfl rfl rfl w37 ⟨(lx rfl), (lx rfl), (lx rfl), (lx rfl), (lx rfl), (lx rfl), (lx rfl), (lx rfl), (lx rfl), trivial⟩ r37) ?_
  refine WPl.v rfl (o_move rfl) ?_
  refine WPl.v rfl (o_extract rfl rfl) ?_
  refine WPl.v rfl (o_extract rfl rfl) ?_
  refine WPl.l 20 21 rfl rfl rfl (o_alloc Z60) ?_
  refine WPl.s1 (o_stag G60 rfl rfl rfl ⟨rfl, rfl, trivial⟩ rfl rfl) ?_
  refine WPl.v rfl (o_assign rfl) ?_
  refine WPl.nil (EX.then (WP.seq (WP.region ?_)))
  refine WPl.v rfl (o_ldpa G33 rfl rfl rfl) ?_
  refine WPl.cs 21 rfl rfl rfl rfl (o_sig 21 (ren [(0, 1), (1, 2), (2, 3), (3, 4), (4, 5), (5, 6), (6, 7), (7, 8), (8, 0)]) (c21 exB 1 1 16 exB_small) e21 rfl rfl rfl w21 ⟨(lx rfl), (lx rfl), (lx rfl), (lx rfl), (lx rfl), (lx rfl), (lx rfl), (lx rfl), (lx rfl), trivial⟩ r21) ?_
  refine WPl.v rfl (o_move rfl) ?_
  refine WPl.v rfl (o_extract rfl rfl) ?_
  refine WPl.v rfl (o_extract rfl rfl) ?_
  refine WPl.v rfl (o_assign rfl) ?_
  refine WPl.v rfl (o_assign rfl) ?_
  refine WPl.nil (EX.then (WP.seq (WP.region ?_)))
  refine WPl.v rfl (o_move rfl) ?_
  refine WPl.v rfl (o_eql rfl rfl) ?_
  refine WPl.imp (Imp.bitF 50 (b' := true) rfl (decide_eq_true xt_c.2)) ?_
  refine WPl.v rfl (o_move rfl) ?_
  refine WPl.on rfl ⟨_, _, rfl, rfl, rfl⟩ (o_move rfl) ?_
  refine WPl.on rfl ⟨_, _, rfl, rfl, rfl⟩ (o_eql rfl rfl) ?_
  refine WPl.imp (Imp.bitF 53 (b' := true) rfl (decide_eq_true xt_s.2)) ?_
  refine WPl.v rfl (o_pickT rfl rfl) ?_
  refine WPl.v rfl (o_move rfl) ?_
  refine WPl.on rfl ⟨_, _, rfl, rfl, rfl⟩ (o_move rfl) ?_
  refine WPl.on rfl ⟨_, _, rfl, rfl, rfl⟩ (o_eql rfl rfl) ?_
  refine WPl.imp (Imp.bitF 57 (b' := true) rfl (decide_eq_true xt_l.2)) ?_
  refine WPl.v rfl (o_pickT rfl rfl) ?_
  refine WPl.v rfl (o_move rfl) ?_
  refine WPl.on rfl ⟨_, _, rfl, rfl, rfl⟩ (o_move rfl) ?_
  refine WPl.on rfl ⟨_, _, rfl, rfl, rfl⟩ (o_eql rfl rfl) ?_
  refine WPl.imp (Imp.bitF 61 (b' := true) rfl (decide_eq_true xt_s.2)) ?_
  refine WPl.v rfl (o_pickT rfl rfl) ?_
  refine WPl.v rfl (o_move rfl) ?_
  refine WPl.on rfl ⟨_, _, rfl, rfl, rfl⟩ (o_move rfl) ?_
  refine WPl.on rfl ⟨_, _, rfl, rfl, rfl⟩ (o_eql rfl rfl) ?_
  refine WPl.imp (Imp.bitF 65 (b' := true) rfl (decide_eq_true xt_p.2)) ?_
  refine WPl.v rfl (o_pickT rfl rfl) ?_
  refine WPl.v rfl (o_move rfl) ?_
  refine WPl.on rfl ⟨_, _, rfl, rfl, rfl⟩ (o_move rfl) ?_
  refine WPl.on rfl ⟨_, _, rfl, rfl, rfl⟩ (o_eql rfl rfl) ?_
  refine WPl.imp (Imp.bitF 69 (b' := true) rfl (decide_eq_true xt_r.2)) ?_
  refine WPl.v rfl (o_pickT rfl rfl) ?_
  refine WPl.v rfl (o_move rfl) ?_
  refine WPl.on rfl ⟨_, _, rfl, rfl, rfl⟩ (o_move rfl) ?_
  refine WPl.on rfl ⟨_, _, rfl, rfl, rfl⟩ (o_eql rfl rfl) ?_
  refine WPl.imp (Imp.bitF 73 (b' := true) rfl (decide_eq_true xt_c.1)) ?_
  refine WPl.v rfl (o_pickT rfl rfl) ?_
  refine WPl.v rfl (o_move rfl) ?_
  refine WPl.on rfl ⟨_, _, rfl, rfl, rfl⟩ (o_move rfl) ?_
  refine WPl.on rfl ⟨_, _, rfl, rfl, rfl⟩ (o_eql rfl rfl) ?_
  refine WPl.imp (Imp.bitF 77 (b' := true) rfl (decide_eq_true xt_s.1)) ?_
  refine WPl.v rfl (o_pickT rfl rfl) ?_
  refine WPl.v rfl (o_move rfl) ?_
  refine WPl.on rfl ⟨_, _, rfl, rfl, rfl⟩ (o_move rfl) ?_
  refine WPl.on rfl ⟨_, _, rfl, rfl, rfl⟩ (o_eql rfl rfl) ?_
  refine WPl.imp (Imp.bitF 81 (b' := true) rfl (decide_eq_true xt_l.1)) ?_
  refine WPl.v rfl (o_pickT rfl rfl) ?_
  refine WPl.v rfl (o_move rfl) ?_
  refine WPl.on rfl ⟨_, _, rfl, rfl, rfl⟩ (o_move rfl) ?_
  refine WPl.ung ⟨_, _, rfl, rfl, rfl⟩ ?_
  refine WPl.v rfl (o_build B77 rfl ⟨rfl, trivial⟩ rfl rfl) ?_
  refine WPl.ung ⟨_, _, rfl, rfl, rfl⟩ ?_
  refine WPl.x 21 22 rfl rfl rfl (OpG.settle0 (o_bsl (E := EPl) (l := [(⟨0, 0, 1⟩ : Plate)]) R30 rfl rfl (.cons (⟨rfl, rfl, rfl, trivial⟩) rfl (eok_str ⟨rfl, rfl, rfl, trivial⟩) (.nil)) rfl rfl)) ?_
  refine WPl.ung ⟨_, _, rfl, rfl, rfl⟩ ?_
  refine WPl.cs 22 rfl rfl rfl rfl (o_sig 22 (ren [(0, 19), (1, 21)]) (c44 (lfV exC) [(⟨0, 0, 1⟩ : Plate)] (by rw [xt_f1]; decide)) e44 rfl rfl rfl w44 ⟨(lx rfl), (lx rfl), trivial⟩ r44) ?_
  refine WPl.imp (Imp.bitF 87 (b' := true) rfl (by rw [xt_f1]; exact samePl_refl _)) ?_
  refine WPl.v rfl (o_pickT rfl rfl) ?_
  refine WPl.v rfl (o_move rfl) ?_
  refine WPl.ung ⟨_, _, rfl, rfl, rfl⟩ ?_
  refine WPl.v rfl (o_ldpa G60 rfl rfl rfl) ?_
  refine WPl.ung ⟨_, _, rfl, rfl, rfl⟩ ?_
  refine WPl.v rfl (o_build B60 rfl ⟨rfl, rfl, trivial⟩ rfl rfl) ?_
  refine WPl.on rfl ⟨_, _, rfl, rfl, rfl⟩ (o_eqs (a := [(plV exC 0).1, (plV exC 0).2]) (b := [1, 2]) Q60 rfl Tryz.eqGuardType60 rfl rfl rfl rfl) ?_
  refine WPl.imp (Imp.bitF 92 (b' := true) rfl (by rw [xt_p.1]; rfl)) ?_
  refine WPl.v rfl (o_pickT rfl rfl) ?_
  refine WPl.v rfl (o_move rfl) ?_
  refine WPl.on rfl ⟨_, _, rfl, rfl, rfl⟩ (o_move rfl) ?_
  refine WPl.on rfl ⟨_, _, rfl, rfl, rfl⟩ (o_eql rfl rfl) ?_
  refine WPl.imp (Imp.bitF 96 (b' := true) rfl (decide_eq_true xt_r.1)) ?_
  refine WPl.v rfl (o_pickT rfl rfl) ?_
  refine WPl.v rfl (o_assign rfl) ?_
  refine WPl.nil (EX.then (WP.ret ?_))
  exact EX.fin id (.inl rfl) rfl (.tmp rfl .nil) rfl r19 trivial (by simp) (by simp)
theorem w24 {b : Book} : ∀ x ∈ ([.e (.g [.q 0, .q 1, .q 2, ai (b.hall.change), .q 3, .q 4, .q 5, .q 6, ai (b.boys), .q 7])] : List SV), x.res (keys (α := Pred) [(0, PL ETm (b.hall.machs)), (1, PL EBd (b.hall.buns)), (2, PL EP.int (b.hall.trains)), (3, PL EP.int (b.hall.bores)), (4, PL (EP.sl EP.int) (b.hall.eds)), (5, PL EPl (b.set)), (6, PL EP.int (b.walk)), (7, PL ETa (b.tals))]) := by simp [SV.res, El.res, At.res, keys]
theorem r24 {b : Book} : SV.res (keys (α := Pred) []) (.b (b.ready)) := by simp [SV.res, El.res, At.res, keys]
set_option maxHeartbeats 4000000 in
theorem c24 (b : Book)  : Sig Tryz.prog 24 [.e (.g [.q 0, .q 1, .q 2, ai (b.hall.change), .q 3, .q 4, .q 5, .q 6, ai (b.boys), .q 7])] [(0, PL ETm (b.hall.machs)), (1, PL EBd (b.hall.buns)), (2, PL EP.int (b.hall.trains)), (3, PL EP.int (b.hall.bores)), (4, PL (EP.sl EP.int) (b.hall.eds)), (5, PL EPl (b.set)), (6, PL EP.int (b.walk)), (7, PL ETa (b.tals))] (.b (b.ready)) [] := by
  refine Sig.intro Tryz.func24 rfl 8 [(0, .e (.g [.q 0, .q 1, .q 2, ai (b.hall.change), .q 3, .q 4, .q 5, .q 6, ai (b.boys), .q 7]))] rfl w24 rfl rfl fun I w => ?_
  refine WP.seq (WP.region ?_)
  refine WPl.l 8 9 rfl rfl rfl (o_boxg rfl) ?_
  refine WPl.v rfl (o_assign rfl) ?_
  refine WPl.nil (EX.then (WP.seq (WP.region ?_)))
  refine WPl.v rfl (o_ldpa G33 rfl rfl rfl) ?_
  refine WPl.cs 9 rfl rfl rfl rfl (o_sig 9 (ren [(0, 0), (1, 1), (2, 2), (3, 3), (4, 4), (5, 5), (6, 6), (7, 7)]) (c18 b) e18 rfl rfl rfl w18 ⟨(lx rfl), (lx rfl), (lx rfl), (lx rfl), (lx rfl), (lx rfl), (lx rfl), (lx rfl), trivial⟩ r18) ?_
  refine WPl.v rfl (o_not rfl) ?_
  refine WPl.v rfl (o_move rfl) ?_
  refine WPl.bit 9 10 (!(farB b)) rfl rfl ?_
  refine WPl.gv 9 rfl rfl (.plain rfl Iff.rfl rfl) (fun hb => o_ldpa G33 rfl rfl rfl) ?_
  refine WPl.gc0 9 rfl rfl (.plain rfl Iff.rfl rfl) (fun hb => o_sig 10 (ren [(0, 0), (1, 1), (2, 2), (3, 3), (4, 4), (5, 5), (6, 6), (7, 7)]) (c50 b (farB_small (by simpa using hb))) e50 rfl rfl rfl w50 ⟨(lx rfl), (lx rfl), (lx rfl), (lx rfl), (lx rfl), (lx rfl), (lx rfl), (lx rfl), trivial⟩ r50) ?_
  refine WPl.gv 9 rfl rfl (.plain rfl Iff.rfl rfl) (fun hb => o_eql rfl rfl) ?_
  refine WPl.v rfl (o_and rfl rfl rfl id) ?_
  refine WPl.v rfl (o_assign rfl) ?_
  refine WPl.nil (EX.then (WP.ret ?_))
  rw [show b.ready = (!farB b && decide (errT b.chk = 0)) from by unfold Book.ready errT; cases b.chk <;> simp]
  exact EX.fin id (.inl rfl) rfl (.tmp rfl .nil) rfl (by simp [SV.res, El.res, At.res, keys]) trivial (by simp) (by simp)
theorem w52 {b : Book} : ∀ x ∈ ([.e (.g [.q 0, .q 1, .q 2, ai (b.hall.change), .q 3, .q 4, .q 5, .q 6, ai (b.boys), .q 7])] : List SV), x.res (keys (α := Pred) [(0, PL ETm (b.hall.machs)), (1, PL EBd (b.hall.buns)), (2, PL EP.int (b.hall.trains)), (3, PL EP.int (b.hall.bores)), (4, PL (EP.sl EP.int) (b.hall.eds)), (5, PL EPl (b.set)), (6, PL EP.int (b.walk)), (7, PL ETa (b.tals)), (8, (Pred.tab 1 tz64))]) := by simp [SV.res, El.res, At.res, keys]
theorem r52 {b : Book} : SV.res (keys (α := Pred) []) (.i (countB b)) := by simp [SV.res, El.res, At.res, keys]
set_option maxHeartbeats 4000000 in
theorem c52 (b : Book) (hm : b.Small) : Sig Tryz.prog 52 [.e (.g [.q 0, .q 1, .q 2, ai (b.hall.change), .q 3, .q 4, .q 5, .q 6, ai (b.boys), .q 7])] [(0, PL ETm (b.hall.machs)), (1, PL EBd (b.hall.buns)), (2, PL EP.int (b.hall.trains)), (3, PL EP.int (b.hall.bores)), (4, PL (EP.sl EP.int) (b.hall.eds)), (5, PL EPl (b.set)), (6, PL EP.int (b.walk)), (7, PL ETa (b.tals)), (8, (Pred.tab 1 tz64))] (.i (countB b)) [] := by
  have hbl := blame_len b
  refine Sig.intro Tryz.func52 rfl 9 [(0, .e (.g [.q 0, .q 1, .q 2, ai (b.hall.change), .q 3, .q 4, .q 5, .q 6, ai (b.boys), .q 7]))] rfl w52 rfl rfl fun I w => ?_
  refine WP.seq (WP.region ?_)
  refine WPl.l 9 10 rfl rfl rfl (o_boxg rfl) ?_
  refine WPl.v rfl (o_assign rfl) ?_
  refine WPl.nil (EX.then (WP.seq (WP.region ?_)))
  refine WPl.v rfl (o_ldpa G33 rfl rfl rfl) ?_
  refine WPl.cs 10 rfl rfl rfl rfl (o_sig 10 (ren [(0, 0), (1, 1), (2, 2), (3, 3), (4, 4), (5, 5), (6, 6), (7, 7), (8, 8)]) (c62 b hm) e62 rfl rfl rfl w62 ⟨(lx rfl), (lx rfl), (lx rfl), (lx rfl), (lx rfl), (lx rfl), (lx rfl), (lx rfl), (lx rfl), trivial⟩ r62) ?_
  refine WPl.v rfl (o_move rfl) ?_
  refine WPl.v rfl (o_extract rfl rfl) ?_
  refine WPl.v rfl (o_extract rfl rfl) ?_
  refine WPl.v rfl (o_assign rfl) ?_
  refine WPl.v rfl (o_assign rfl) ?_
  refine WPl.nil (EX.then (WP.seq (WP.seq (WP.region ?_))))
  refine WPl.v rfl (o_move rfl) ?_
  refine WPl.v rfl (o_neq rfl rfl) ?_
  refine WPl.v rfl (o_move rfl) ?_
  refine WPl.bit 10 11 (!(decide ((askE b true) ≠ 0))) rfl rfl ?_
  refine WPl.gv 10 rfl rfl (.plain rfl (by first | (simp; done) | simp only [Bool.not_eq_true']) rfl) (fun hb => o_move rfl) ?_
  refine WPl.gv 10 rfl rfl (.plain rfl (by first | (simp; done) | simp only [Bool.not_eq_true']) rfl) (fun hb => o_lss rfl rfl) ?_
  refine WPl.v rfl (o_or rfl rfl rfl (by first | (simp; done) | exact fun h => by rw [h]; rfl | exact fun h => Bool.and_eq_true_iff.2 ⟨hb, by rw [h]; rfl⟩ | simp_all)) ?_
  refine WPl.v rfl (o_move rfl) ?_
  refine WPl.bit 11 12 (!((decide ((askE b true) ≠ 0)) || (decide (((blame b).length : Int) < 0)))) rfl rfl ?_
  refine WPl.gv 11 rfl rfl (.plain rfl (by first | (simp; done) | simp only [Bool.not_eq_true']) rfl) (fun hb => o_move rfl) ?_
  refine WPl.gv 11 rfl rfl (.plain rfl (by first | (simp; done) | simp only [Bool.not_eq_true']) rfl) (fun hb => o_fldp F33_4 rfl) ?_
  refine WPl.gv 11 rfl rfl (.plain rfl (by first | (simp; done) | simp only [Bool.not_eq_true']) rfl) (fun hb => o_ldp S31 rfl rfl rfl) ?_
  refine WPl.gv 11 rfl rfl (.plain rfl (by first | (simp; done) | simp only [Bool.not_eq_true']) rfl) (fun hb => o_lenq L31 rfl (lx rfl)) ?_
  refine WPl.gv 11 rfl rfl (.plain rfl (by first | (simp; done) | simp only [Bool.not_eq_true']) rfl) (fun hb => o_gtr rfl rfl) ?_
  refine WPl.v rfl (o_or rfl rfl rfl (by first | (simp; done) | exact fun h => by rw [h]; rfl | exact fun h => Bool.and_eq_true_iff.2 ⟨hb, by rw [h]; rfl⟩ | simp_all)) ?_
  refine WPl.nil (EX.then ?_)
  refine WP.cond rfl (fun hc1 => ?_) (fun hc1 => ?_)
  · try simp only [cnd] at hc1
    refine WP.seq (WP.region ?_)
    refine WPl.v rfl (o_assign rfl) ?_
    refine WPl.nil (EX.then (WP.ret (EX.ret_then ?_)))
    have hf : askE b true ≠ 0 := fun g => by have := blame_le (askE_eq.1 g).1; omega
    rw [show countB b = -1 from if_neg hf]
    exact EX.fin id (.inl rfl) rfl (.tmp rfl .nil) rfl (by simp [SV.res, El.res, At.res, keys]) trivial (by simp) (by simp)
  · try simp only [cnd] at hc1
    refine WP.skip (EX.then (WP.seq (WP.region ?_)))
    refine WPl.v rfl (o_move rfl) ?_
    refine WPl.v rfl (o_assign rfl) ?_
    refine WPl.nil (EX.then (WP.ret ?_))
    have hf : askE b true = 0 := by omega
    rw [show countB b = ((blame b).length : Int) from if_pos hf]
    exact EX.fin id (.inl rfl) rfl (.tmp rfl .nil) rfl (by simp [SV.res, El.res, At.res, keys]) trivial (by simp) (by simp)
theorem w59 {b : Book} {n : Int} : ∀ x ∈ ([.e (.g [.q 0, .q 1, .q 2, ai (b.hall.change), .q 3, .q 4, .q 5, .q 6, ai (b.boys), .q 7]), .i (n)] : List SV), x.res (keys (α := Pred) [(0, PL ETm (b.hall.machs)), (1, PL EBd (b.hall.buns)), (2, PL EP.int (b.hall.trains)), (3, PL EP.int (b.hall.bores)), (4, PL (EP.sl EP.int) (b.hall.eds)), (5, PL EPl (b.set)), (6, PL EP.int (b.walk)), (7, PL ETa (b.tals)), (8, (Pred.tab 1 tz64))]) := by simp [SV.res, El.res, At.res, keys]
theorem r59 {b : Book} {n : Int} : SV.res (keys (α := Pred) []) (.i (lieB b n)) := by simp [SV.res, El.res, At.res, keys]
set_option maxHeartbeats 4000000 in
theorem c59 (b : Book) (n : Int) (hm : b.Small) : Sig Tryz.prog 59 [.e (.g [.q 0, .q 1, .q 2, ai (b.hall.change), .q 3, .q 4, .q 5, .q 6, ai (b.boys), .q 7]), .i (n)] [(0, PL ETm (b.hall.machs)), (1, PL EBd (b.hall.buns)), (2, PL EP.int (b.hall.trains)), (3, PL EP.int (b.hall.bores)), (4, PL (EP.sl EP.int) (b.hall.eds)), (5, PL EPl (b.set)), (6, PL EP.int (b.walk)), (7, PL ETa (b.tals)), (8, (Pred.tab 1 tz64))] (.i (lieB b n)) [] := by
  have hki := knB_in b (bit n)
  refine Sig.intro Tryz.func59 rfl 9 [(0, .e (.g [.q 0, .q 1, .q 2, ai (b.hall.change), .q 3, .q 4, .q 5, .q 6, ai (b.boys), .q 7])), (1, .i (n))] rfl w59 rfl rfl fun I w => ?_
  refine WP.seq (WP.region ?_)
  refine WPl.l 9 10 rfl rfl rfl (o_boxg rfl) ?_
  refine WPl.v rfl (o_assign rfl) ?_
  refine WPl.nil (EX.then (WP.seq (WP.region ?_)))
  refine WPl.v rfl (o_ldpa G33 rfl rfl rfl) ?_
  refine WPl.v rfl (o_move rfl) ?_
  refine WPl.cs 10 rfl rfl rfl rfl (o_sig 10 (ren [(0, 0), (1, 1), (2, 2), (3, 3), (4, 4), (5, 5), (6, 6), (7, 7), (8, 8)]) (c38 b n hm) e38 rfl rfl rfl w38 ⟨(lx rfl), (lx rfl), (lx rfl), (lx rfl), (lx rfl), (lx rfl), (lx rfl), (lx rfl), (lx rfl), trivial⟩ r38) ?_
  refine WPl.v rfl (o_move rfl) ?_
  refine WPl.v rfl (o_extract rfl rfl) ?_
  refine WPl.v rfl (o_extract rfl rfl) ?_
  refine WPl.v rfl (o_assign rfl) ?_
  refine WPl.v rfl (o_assign rfl) ?_
  refine WPl.nil (EX.then (WP.seq (WP.seq (WP.region ?_))))
  refine WPl.v rfl (o_move rfl) ?_
  refine WPl.v rfl (o_neq rfl rfl) ?_
  refine WPl.v rfl (o_move rfl) ?_
  refine WPl.bit 10 11 (!(decide ((lieE b n) ≠ 0))) rfl rfl ?_
  refine WPl.gv 10 rfl rfl (.plain rfl (by first | (simp; done) | simp only [Bool.not_eq_true']) rfl) (fun hb => o_move rfl) ?_
  refine WPl.gc0 10 rfl rfl (.plain rfl (by first | (simp; done) | simp only [Bool.not_eq_true']) rfl) (fun hb => o_sig 11 id (c26 (lieV b n) 1 3) e26 rfl rfl rfl w26 trivial r26) ?_
  refine WPl.gv 10 rfl rfl (.plain rfl (by first | (simp; done) | simp only [Bool.not_eq_true']) rfl) (fun hb => o_not rfl) ?_
  refine WPl.v rfl (o_or rfl rfl rfl (by first | (simp; done) | exact fun h => by rw [h]; rfl | exact fun h => Bool.and_eq_true_iff.2 ⟨hb, by rw [h]; rfl⟩ | simp_all)) ?_
  refine WPl.nil (EX.then ?_)
  refine WP.cond rfl (fun hc1 => ?_) (fun hc1 => ?_)
  · try simp only [cnd] at hc1
    refine WP.seq (WP.region ?_)
    refine WPl.v rfl (o_assign rfl) ?_
    refine WPl.nil (EX.then (WP.ret (EX.ret_then ?_)))
    have hf : lieE b n ≠ 0 := fun g => by have e : lieV b n = knB b (bit n) := if_pos g; rw [e] at hc1; simp [within] at hc1; omega
    rw [show lieB b n = -1 from if_neg hf]
    exact EX.fin id (.inl rfl) rfl (.tmp rfl .nil) rfl (by simp [SV.res, El.res, At.res, keys]) trivial (by simp) (by simp)
  · try simp only [cnd] at hc1
    refine WP.skip (EX.then (WP.seq (WP.region ?_)))
    refine WPl.v rfl (o_move rfl) ?_
    refine WPl.v rfl (o_assign rfl) ?_
    refine WPl.nil (EX.then (WP.ret ?_))
    have hf : lieE b n = 0 := by omega
    rw [show lieB b n = lieV b n from if_pos hf]
    exact EX.fin id (.inl rfl) rfl (.tmp rfl .nil) rfl (by simp [SV.res, El.res, At.res, keys]) trivial (by simp) (by simp)
end Go.Flong
namespace Go.Flong
open Go Go.Eng
def sepB (b : Book) (m n : Int) : Bool := !(hurries b (nth b.tals m) (nth b.tals n) || twiceB b m n)
theorem twice_comm (b : Book) (m n : Int) : twiceB b m n = twiceB b n m := by
  unfold twiceB
  rw [Bool.eq_iff_iff]
  simp only [Bool.and_eq_true, decide_eq_true_eq]
  omega
theorem sepB_comm (b : Book) (m n : Int) : sepB b m n = sepB b n m := by unfold sepB; rw [hurries_comm, twice_comm]
def plAt (b : Book) (n : Int) : Int := pOf (plateT b n)
def cntP (b : Book) (l : List Int) (k : Int) : Nat := l.countP fun n => decide (plAt b n = k)
def haveP (b : Book) (k : Int) : Int := manyTo b.set k b.set.length
theorem said_count (b : Book) (l : List Int) (k : Int) : ∀ i : Nat, i ≤ l.length → saidTo b l k i = cntP b (l.take i) k
  | 0, _ => by simp [saidTo, cntP]
  | i + 1, h => by
    rw [saidTo, said_count b l k i (by omega), ← take_snoc (show i < l.length by omega)]
    unfold cntP plAt
    rw [List.countP_append]
    split
    · rename_i e; simp [e]
    · rename_i e; simp [e]
theorem mem_nth {α : Type} [Inhabited α] {l : List α} {x : α} : x ∈ l ↔ ∃ i : Nat, i < l.length ∧ nth l (i : Int) = x := by
  constructor
  · intro h
    obtain ⟨i, hi, e⟩ := List.mem_iff_getElem.1 h
    exact ⟨i, hi, by rw [nthG hi, e]⟩
  · rintro ⟨i, hi, e⟩
    rw [← e, nthG hi]; exact List.getElem_mem hi
theorem inBook_iff {b : Book} {l : List Int} : inBook b l ↔ ∀ x ∈ l, 0 ≤ x ∧ x < b.tals.length := by
  constructor
  · intro h x hx
    obtain ⟨i, hi, e⟩ := mem_nth.1 hx
    rw [← e]; exact h i hi
  · intro h i hi
    exact h _ (by rw [nthG hi]; exact List.getElem_mem hi)
theorem sep_iff {b : Book} {l : List Int} (hd : l.Nodup) : allI (sepRow b l) l.length = true ↔ ∀ x ∈ l, ∀ y ∈ l, x ≠ y → sepB b x y = true := by
  rw [allI_iff]
  constructor
  · intro h x hx y hy hne
    obtain ⟨i, hi, e1⟩ := mem_nth.1 hx
    obtain ⟨k, hk, e2⟩ := mem_nth.1 hy
    rcases Nat.lt_trichotomy i k with g | g | g
    · have := allI_iff.1 (h k hk) i g
      rw [sepB_comm, ← e1, ← e2]; exact this
    · subst g; exact absurd (e1.symm.trans e2) hne
    · have := allI_iff.1 (h i hi) k g
      rw [← e1, ← e2]; exact this
  · intro h i hi
    refine allI_iff.2 fun k hk => ?_
    have hk2 : k < l.length := by omega
    refine h _ (mem_nth.2 ⟨i, hi, rfl⟩) _ (mem_nth.2 ⟨k, hk2, rfl⟩) fun e => ?_
    rw [nthG hi, nthG hk2] at e
    have := (List.getElem_inj hd).1 e
    omega
theorem good_iff {b : Book} (hB : BookB b) (hs : b.set.length ≤ 1000) {l : List Int} (hin : ∀ x ∈ l, 0 ≤ x ∧ x < b.tals.length) (hd : l.Nodup) :
    good b l = true ↔ (∀ x ∈ l, ∀ y ∈ l, x ≠ y → sepB b x y = true) ∧ ∀ k : Nat, k < 12 → (cntP b l (k : Int) : Int) ≤ haveP b (k : Int) := by
  have hi := inBook_iff.2 hin
  rw [good_sep, Bool.and_eq_true, sep_iff hd, enough_iff hB hs hi, allI_iff]
  refine and_congr_right fun _ => forall_congr' fun k => forall_congr' fun hk => ?_
  unfold enAtR
  rw [decide_eq_true_eq, broughtR, brR_nth hB hi _ (Nat.le_refl _) k hk, countsR_nth (setPls hB.p hs) (by omega) (by omega), said_count b l _ _ (Nat.le_refl _), List.take_length]
  exact Iff.rfl
theorem good_map {b o : Book} (hB : BookB b) (hs : b.set.length ≤ 1000) (hO : BookB o) (ho : o.set.length ≤ 1000) {l : List Int} {φ : Int → Int} (hin : ∀ x ∈ l, 0 ≤ x ∧ x < b.tals.length) (hd : l.Nodup)
    (hin2 : ∀ x ∈ l, 0 ≤ φ x ∧ φ x < o.tals.length) (hj : ∀ x ∈ l, ∀ y ∈ l, φ x = φ y → x = y) (h1 : ∀ x ∈ l, ∀ y ∈ l, x ≠ y → sepB b x y = true → sepB o (φ x) (φ y) = true) (h2 : ∀ x ∈ l, plAt o (φ x) = plAt b x) (h3 : ∀ k : Nat, k < 12 → haveP b (k : Int) ≤ haveP o (k : Int))
    (hg : good b l = true) : good o (l.map φ) = true := by
  obtain ⟨g1, g2⟩ := (good_iff hB hs hin hd).1 hg
  have hd2 : (l.map φ).Nodup := by
    rw [List.nodup_iff_pairwise_ne, List.pairwise_map]
    exact (List.pairwise_iff_forall_sublist).2 fun {x y} hxy e => by
      have hx : x ∈ l := hxy.subset (by simp)
      have hy : y ∈ l := hxy.subset (by simp)
      have := hj x hx y hy e
      subst this
      have := hxy.nodup hd
      simp at this
  refine (good_iff hO ho (fun z hz => ?_) hd2).2 ⟨fun z hz w hw hne => ?_, fun k hk => ?_⟩
  · obtain ⟨x, hx, e⟩ := List.mem_map.1 hz
    rw [← e]; exact hin2 x hx
  · obtain ⟨x, hx, e⟩ := List.mem_map.1 hz
    obtain ⟨y, hy, e2⟩ := List.mem_map.1 hw
    subst e e2
    have hxy : x ≠ y := fun g => hne (by rw [g])
    exact h1 x hx y hy hxy (g1 x hx y hy hxy)
  · have e : cntP o (l.map φ) (k : Int) = cntP b l (k : Int) := by
      unfold cntP
      rw [List.countP_map]
      refine List.countP_congr fun x hx => ?_
      simp only [Function.comp_apply, decide_eq_true_eq]
      rw [h2 x hx]
    rw [e]
    have := g2 k hk
    have := h3 k hk
    omega
theorem good_sub {b : Book} (hB : BookB b) (hs : b.set.length ≤ 1000) {l m : List Int} (hin : ∀ x ∈ l, 0 ≤ x ∧ x < b.tals.length) (hd : l.Nodup) (hm : m.Sublist l) (hg : good b l = true) : good b m = true := by
  obtain ⟨g1, g2⟩ := (good_iff hB hs hin hd).1 hg
  refine (good_iff hB hs (fun x hx => hin x (hm.subset hx)) (hm.nodup hd)).2 ⟨fun x hx y hy => g1 x (hm.subset hx) y (hm.subset hy), fun k hk => ?_⟩
  have h1 := g2 k hk
  have h2 : cntP b m (k : Int) ≤ cntP b l (k : Int) := hm.countP_le
  omega
theorem good_perm {b : Book} (hB : BookB b) (hs : b.set.length ≤ 1000) {l m : List Int} (hin : ∀ x ∈ l, 0 ≤ x ∧ x < b.tals.length) (hd : l.Nodup) (hm : m.Perm l) : good b m = good b l := by
  have hd2 := hm.nodup_iff.2 hd
  rw [Bool.eq_iff_iff, good_iff hB hs hin hd, good_iff hB hs (fun x hx => hin x (hm.mem_iff.1 hx)) hd2]
  have e : ∀ k : Int, cntP b m k = cntP b l k := fun k => hm.countP_eq _
  simp only [hm.mem_iff, e]
def rl (b : Book) (l : List Int) : Prop := rising l 0 ((b.tals.length : Int) - 1) = true
theorem rl_in {b : Book} {l : List Int} (h : rl b l) : ∀ x ∈ l, 0 ≤ x ∧ x < b.tals.length := fun x hx => by
  obtain ⟨i, hi, e⟩ := mem_nth.1 hx
  have := (rising_parts h).1 i hi
  omega
theorem rising_nodup {l : List Int} {lo hi : Int} (h : rising l lo hi = true) : l.Nodup := by
  rw [List.nodup_iff_pairwise_ne, List.pairwise_iff_getElem]
  intro i j h1 h2 hij
  have := incr_lt (rising_parts h).2 hij h2
  rw [nthG h1, nthG h2] at this
  omega
theorem rl_nd {b : Book} {l : List Int} (h : rl b l) : l.Nodup := rising_nodup h
theorem rl_bits {b : Book} (h8 : b.tals.length ≤ 8) {s : Nat} (hs : s < 2 ^ b.tals.length) : rl b (bitsL s) := (comp_ok h8 hs).2.2
theorem rl_code {b : Book} (h8 : b.tals.length ≤ 8) {l : List Int} (h : rl b l) : codeL l < 2 ^ b.tals.length ∧ bitsL (codeL l) = l := rising_code h8 h
theorem co_sum_all : (List.range 9).all (fun n => (List.range (2 ^ n)).all fun s => decide (popc (2 ^ n - 1 - s) + popc s = n) && (List.range 8).all fun i => (2 ^ n - 1 - s).testBit i == (decide (i < n) && !s.testBit i)) = true := by decide +kernel
theorem co_sum {n s : Nat} (h : n ≤ 8) (hs : s < 2 ^ n) : popc (2 ^ n - 1 - s) + popc s = n ∧ ∀ i : Nat, i < 8 → (2 ^ n - 1 - s).testBit i = (decide (i < n) && !s.testBit i) := by
  have := List.all_eq_true.1 (List.all_eq_true.1 co_sum_all n (List.mem_range.2 (by omega))) s (List.mem_range.2 hs)
  simp only [Bool.and_eq_true, decide_eq_true_eq, List.all_eq_true, beq_iff_eq, List.mem_range] at this
  exact this
theorem coS_lt {b : Book} (h8 : b.tals.length ≤ 8) (s : Nat) : coS b s < 2 ^ b.tals.length := by
  have := pow_ok h8; unfold coS; omega
theorem coS_co {b : Book} {s : Nat} (hs : s < 2 ^ b.tals.length) : coS b (coS b s) = s := by unfold coS; omega
theorem ot_bits {b : Book} (h8 : b.tals.length ≤ 8) {s : Nat} (hs : s < 2 ^ b.tals.length) : othersR b (bitsL s) = bitsL (coS b s) := (comp_ok h8 hs).1
theorem few_le {b : Book} (h8 : b.tals.length ≤ 8) {l : List Int} (h : rl b l) (hg : good b l = true) : fewS b + l.length ≤ b.tals.length := by
  have h1 := rl_code h8 h
  have h2 := coS_lt h8 (codeL l)
  have h3 := (few_ok h8).l _ h2 (by unfold okS; rw [coS_co h1.1, h1.2]; exact hg)
  have h4 := (co_sum h8 h1.1).1
  unfold coS at h3
  have h5 : popc (codeL l) = l.length := by unfold popc; rw [h1.2]
  omega
theorem few_at {b : Book} (h8 : b.tals.length ≤ 8) : ∃ l, rl b l ∧ good b l = true ∧ fewS b + l.length = b.tals.length := by
  obtain ⟨s, hs⟩ := List.exists_mem_of_ne_nil _ (stL_ne h8)
  have h1 := ((few_ok h8).m s).1 hs
  refine ⟨bitsL (coS b s), rl_bits h8 (coS_lt h8 s), h1.2.2, ?_⟩
  have h4 := (co_sum h8 h1.1).1
  have h5 : (bitsL (coS b s)).length = popc (2 ^ b.tals.length - 1 - s) := rfl
  omega
def isSt (b : Book) (l : List Int) : Prop := rl b l ∧ good b (othersR b l) = true ∧ l.length = fewS b
theorem stL_lt {b : Book} (h8 : b.tals.length ≤ 8) : ∀ x ∈ stL b, x < 256 := fun x hx => by
  have := (((few_ok h8).m x).1 hx).1
  have := pow_ok h8
  omega
theorem mem_stS {b : Book} (h8 : b.tals.length ≤ 8) {s : Nat} : s ∈ stS b ↔ s < 2 ^ b.tals.length ∧ popc s = fewS b ∧ okS b s = true := by
  unfold stS
  rw [(sortN_perm (stL_lt h8)).mem_iff, (few_ok h8).m]
theorem mem_storS {b : Book} (h8 : b.tals.length ≤ 8) {l : List Int} : l ∈ storS b ↔ isSt b l := by
  unfold storS isSt
  rw [List.mem_map]
  constructor
  · rintro ⟨s, hs, rfl⟩
    obtain ⟨h1, h2, h3⟩ := (mem_stS h8).1 hs
    exact ⟨rl_bits h8 h1, by rw [ot_bits h8 h1]; exact h3, h2⟩
  · rintro ⟨h1, h2, h3⟩
    have h4 := rl_code h8 h1
    refine ⟨codeL l, (mem_stS h8).2 ⟨h4.1, by unfold popc; rw [h4.2]; exact h3, ?_⟩, h4.2⟩
    rw [← h4.2, ot_bits h8 h4.1] at h2
    exact h2
theorem stS_pw {b : Book} (h8 : b.tals.length ≤ 8) : (stS b).Pairwise fun x y => cmpL (bitsL x) (bitsL y) < 0 := sortN_pw (stL_lt h8) (few_ok h8).d
theorem blame_eq {b : Book} (hc : b.chk = true) : blame b = bitsL (nth (stS b) 0) := if_pos (askE_eq.2 ⟨hc, rfl⟩)
theorem blame_st {b : Book} (hc : b.chk = true) : isSt b (blame b) := by
  have h8 := (bookB hc).t
  rw [blame_eq hc]
  refine (mem_storS h8).1 (List.mem_map.2 ⟨_, mem_nth.2 ⟨0, (stS_len h8).1, rfl⟩, rfl⟩)
theorem false_few {b : Book} (hc : b.chk = true) : (blame b).length = fewS b := (blame_st hc).2.2
end Go.Flong
namespace Go.Flong
open Go Go.Eng
theorem rising_iff {l : List Int} {lo hi : Int} : rising l lo hi = true ↔ (∀ x ∈ l, lo ≤ x ∧ x ≤ hi) ∧ l.Pairwise (· < ·) := by
  constructor
  · intro h
    obtain ⟨h1, h2⟩ := rising_parts h
    refine ⟨fun x hx => ?_, ?_⟩
    · obtain ⟨i, hi2, e⟩ := mem_nth.1 hx
      rw [← e]; exact h1 i hi2
    · rw [List.pairwise_iff_getElem]
      intro i j hi2 hj hij
      have := incr_lt h2 hij hj
      rwa [nthG hi2, nthG hj] at this
  · rintro ⟨h1, h2⟩
    refine allI_iff.2 fun j hj => ?_
    have h3 := h1 _ (mem_nth.2 ⟨j, hj, rfl⟩)
    unfold risingAt within
    rw [decide_eq_true h3.1, decide_eq_true h3.2]
    by_cases e : j = 0
    · subst e; simp
    · rw [List.pairwise_iff_getElem] at h2
      have := h2 (j - 1) j (by omega) hj (by omega)
      rw [show (j : Int) - 1 = ((j - 1 : Nat) : Int) by omega, nthG hj, nthG (show j - 1 < l.length by omega), decide_eq_false (show ¬ l[j] ≤ l[j - 1] by omega)]
      simp
theorem rl_iff {b : Book} {l : List Int} : rl b l ↔ (∀ x ∈ l, 0 ≤ x ∧ x < b.tals.length) ∧ l.Pairwise (· < ·) := by
  unfold rl
  rw [rising_iff]
  refine and_congr_left fun _ => forall_congr' fun x => forall_congr' fun _ => ?_
  omega
theorem rl_sub {b : Book} {l m : List Int} (h : rl b l) (hm : m.Sublist l) : rl b m := by
  rw [rl_iff] at h ⊢
  exact ⟨fun x hx => h.1 x (hm.subset hx), h.2.sublist hm⟩
theorem mem_others {b : Book} {l : List Int} {x : Int} : x ∈ othersR b l ↔ 0 ≤ x ∧ x < b.tals.length ∧ x ∉ l := by
  unfold othersR
  rw [otTo_mem, ← Bool.not_eq_true, inL_iff]
theorem cntB_count (h : Nat → Bool) (l : List Nat) : ∀ i : Nat, i ≤ l.length → cntB h l i = (l.take i).countP h
  | 0, _ => by simp [cntB]
  | i + 1, hi => by
    rw [cntB, cntB_count h l i (by omega), ← take_snoc (show i < l.length by omega), List.countP_append]
    split
    · rename_i e; simp [e]
    · rename_i e; simp [e]
theorem cnS_count (b : Book) (h : Nat → Bool) : cnS b h = (stS b).countP h := by
  unfold cnS
  rw [cntB_count h _ _ (Nat.le_refl _), List.take_length]
theorem knB_def (b : Book) (h : Nat → Bool) : knB b h = if cnS b h = (stS b).length then 1 else if cnS b h = 0 then 2 else 3 := rfl
theorem knB_1 {b : Book} {h : Nat → Bool} : knB b h = 1 ↔ ∀ s ∈ stS b, h s = true := by
  rw [knB_def, cnS_count, ← List.countP_eq_length]
  by_cases e : ((stS b).countP h : Int) = (stS b).length
  · rw [if_pos e]; exact ⟨fun _ => by omega, fun _ => rfl⟩
  · rw [if_neg e]
    refine ⟨fun g => ?_, fun g => absurd (by omega) e⟩
    split at g <;> omega
theorem knB_2 {b : Book} (h8 : b.tals.length ≤ 8) {h : Nat → Bool} : knB b h = 2 ↔ ∀ s ∈ stS b, h s = false := by
  have h0 := (stS_len h8).1
  have e : (∀ s ∈ stS b, h s = false) ↔ (stS b).countP h = 0 := by
    rw [List.countP_eq_zero]
    exact forall_congr' fun s => forall_congr' fun _ => by simp
  rw [knB_def, cnS_count, e]
  by_cases e : ((stS b).countP h : Int) = (stS b).length
  · rw [if_pos e]; exact ⟨fun g => by omega, fun g => by omega⟩
  · rw [if_neg e]
    by_cases e2 : ((stS b).countP h : Int) = 0
    · rw [if_pos e2]; exact ⟨fun _ => by omega, fun _ => rfl⟩
    · rw [if_neg e2]; exact ⟨fun g => by omega, fun g => by omega⟩
theorem knB_m {b o : Book} (h8 : b.tals.length ≤ 8) (ho : o.tals.length ≤ 8) {h g : Nat → Bool} (h1 : (∀ s ∈ stS b, h s = true) ↔ ∀ s ∈ stS o, g s = true) (h2 : (∀ s ∈ stS b, h s = false) ↔ ∀ s ∈ stS o, g s = false) : knB b h = knB o g := by
  have a1 := knB_in b h
  have a2 := knB_in o g
  have b1 := (knB_1 (b := b) (h := h)).trans (h1.trans knB_1.symm)
  have b2 := (knB_2 h8 (h := h)).trans (h2.trans (knB_2 ho).symm)
  omega
theorem bit_mem {s : Nat} (hs : s < 256) {n : Int} (h : 0 ≤ n ∧ n < 8) : bit n s = true ↔ n ∈ bitsL s := by
  rw [← inL_bits hs h, inL_iff]
theorem stS_st {b : Book} (h8 : b.tals.length ≤ 8) {p : List Int → Prop} : (∀ s ∈ stS b, p (bitsL s)) ↔ ∀ l, isSt b l → p l := by
  constructor
  · intro h l hl
    obtain ⟨s, hs, e⟩ := List.mem_map.1 ((mem_storS h8).2 hl)
    rw [← e]; exact h s hs
  · intro h s hs
    exact h _ ((mem_storS h8).1 (List.mem_map.2 ⟨s, hs, rfl⟩))
theorem stS_256 {b : Book} (h8 : b.tals.length ≤ 8) {s : Nat} (hs : s ∈ stS b) : s < 256 := by
  have := ((mem_stS h8).1 hs).1
  have := pow_ok h8
  omega
theorem lieV_eq {b : Book} (hc : b.chk = true) {n : Int} (hn : 0 ≤ n ∧ n < b.tals.length) : lieE b n = 0 ∧ lieV b n = knB b (bit n) ∧ lieB b n = knB b (bit n) := by
  have e : lieE b n = 0 := askE_eq.2 ⟨hc, by unfold isT within; rw [decide_eq_true hn.1, decide_eq_true (by omega)]; rfl⟩
  refine ⟨e, if_pos e, ?_⟩
  unfold lieB
  rw [if_pos e]; exact if_pos e
theorem countB_eq {b : Book} (hc : b.chk = true) : countB b = fewS b := by
  unfold countB
  rw [if_pos (askE_eq.2 ⟨hc, rfl⟩), false_few hc]
end Go.Flong
namespace Go.Flong
open Go Go.Eng
theorem erase_good {b : Book} (hc : b.chk = true) (hs : b.set.length ≤ 1000) {l : List Int} (hl : rl b l) (hg : good b l = true) (k : Int) : rl b (l.erase k) ∧ good b (l.erase k) = true ∧ k ∉ l.erase k ∧ l.length ≤ (l.erase k).length + 1 := by
  have hB := bookB hc
  have hsub : (l.erase k).Sublist l := List.erase_sublist
  refine ⟨rl_sub hl hsub, good_sub hB hs (rl_in hl) (rl_nd hl) hsub hg, ?_, ?_⟩
  · intro hk
    exact absurd rfl ((rl_nd hl).mem_erase_iff.1 hk).1
  · have := List.length_erase (a := k) (l := l)
    split at this <;> omega
theorem countB_hi (b : Book) : -1 ≤ countB b ∧ countB b ≤ 8 := by
  have := blame_len b
  unfold countB; split <;> omega
end Go.Flong
namespace Go.Flong
open Go Go.Eng
theorem setTo_many (c : List Int) (n : Nat) {k : Nat} (hk : k < n) : manyTo (setTo c n) (k : Int) (setTo c n).length = if 0 < nth c (k : Int) then nth c (k : Int) else 0 := by
  have hm := setTo_mem c
  have hp := setTo_pw c n
  rw [List.pairwise_iff_getElem] at hp
  have hpl : ∀ (i j : Nat) (hi : i < (setTo c n).length) (hj : j < (setTo c n).length), i < j → plc (nth (setTo c n) (i : Int)).page (nth (setTo c n) (i : Int)).bore < plc (nth (setTo c n) (j : Int)).page (nth (setTo c n) (j : Int)).bore := fun i j hi hj hij => by
    have := hp i j hi hj hij
    rw [nthG hi, nthG hj]; exact this
  split
  · rename_i g
    obtain ⟨m, hm1, hm2⟩ := mem_nth.1 ((hm ⟨(k : Int).tdiv 3, (k : Int) % 3, nth c (k : Int)⟩ n).2 ⟨k, hk, g, rfl⟩)
    have e : plc (nth (setTo c n) (m : Int)).page (nth (setTo c n) (m : Int)).bore = (k : Int) := by rw [hm2]; exact plc_div k
    rw [manyTo_one (m := m) e hm1 fun j hj hne e2 => ?_, hm2]
    rcases Nat.lt_or_gt_of_ne hne with g2 | g2
    · have := hpl j m hj hm1 g2; omega
    · have := hpl m j hm1 hj g2; omega
  · rename_i g
    refine manyTo_none fun j hj e => ?_
    obtain ⟨q, h1, h2, h3⟩ := (hm _ n).1 (mem_nth.2 ⟨j, hj, rfl⟩)
    rw [h3] at e
    have e2 := plc_div q
    simp only [] at e
    rw [e2] at e
    have : q = k := by omega
    subst this
    exact g h2
theorem plTo_bnd (b : Book) (pg : Int) : ∀ i : Nat, 0 ≤ (plTo b pg i).1 ∧ ∀ j : Nat, j < i → (plTo b pg i).1 ≤ pgS b pg (nth (stS b) (j : Int)) ∧ pgS b pg (nth (stS b) (j : Int)) ≤ (plTo b pg i).2
  | 0 => ⟨by simp [plTo], fun j hj => by omega⟩
  | i + 1 => by
    obtain ⟨h1, h2⟩ := plTo_bnd b pg i
    have h3 := (pgTo_bnd b pg (nth (stS b) (i : Int)) b.tals.length).1
    have h3 : 0 ≤ pgS b pg (nth (stS b) (i : Int)) := h3
    refine ⟨by simp only [plTo]; omega, fun j hj => ?_⟩
    simp only [plTo]
    by_cases e : j = i
    · subst e; omega
    · have := h2 j (by omega); omega
theorem few_mono {b o : Book} (h8 : b.tals.length ≤ 8) (hl : o.tals.length = b.tals.length) (h : ∀ l, rl b l → good b l = true → good o l = true) : fewS o ≤ fewS b := by
  obtain ⟨l, h1, h2, h3⟩ := few_at h8
  have hr : rl o l := by unfold rl at *; rw [hl]; exact h1
  have := few_le (b := o) (by omega) hr (h l h1 h2)
  omega
def Book.plus (b : Book) (c : List Int) : Book := { b with set := setOf c }
def Book.near (b : Book) (m n : Int) : Book := { b with walk := lset ([] ++ b.walk) m (nth ([] ++ b.walk) m - n) }
def Book.more (b : Book) (t : Tal) : Book := { b with tals := ([] ++ b.tals) ++ [t] }
theorem plus_gen {b : Book} (hc : b.chk = true) (hs : b.set.length ≤ 40) {c : List Int} (hl : c.length = 12) (hle : ∀ k : Nat, k < 12 → haveP b (k : Int) ≤ nth c (k : Int)) (ho : (b.plus c).chk = true) : 0 ≤ countB (b.plus c) ∧ countB (b.plus c) ≤ countB b := by
  have hB := bookB hc
  have hO := bookB ho
  have hos : (b.plus c).set.length ≤ 1000 := by
    have := setTo_len c c.length
    show (setTo c c.length).length ≤ 1000
    omega
  rw [countB_eq hc, countB_eq ho]
  refine ⟨by omega, ?_⟩
  have hsep : ∀ x y, sepB (b.plus c) x y = sepB b x y := fun x y => rfl
  have hpl : ∀ x, plAt (b.plus c) x = plAt b x := fun x => rfl
  have hlen : (b.plus c).tals.length = b.tals.length := rfl
  have := few_mono (b := b) (o := b.plus c) hB.t hlen fun l hrl hg => by
    have hin := rl_in hrl
    have h := good_map (φ := id) hB (by omega) hO hos hin (rl_nd hrl) (fun z hz => by rw [hlen]; exact hin z hz) (fun _ _ _ _ e => e) (fun x _ y _ _ e => by rw [hsep]; exact e) (fun x _ => hpl x) (fun k hk => ?_) hg
    · rw [List.map_id] at h; exact h
    · have h4 : haveP (b.plus c) (k : Int) = if 0 < nth c (k : Int) then nth c (k : Int) else 0 := setTo_many c c.length (k := k) (by omega)
      rw [h4]
      have := hle k hk
      split <;> omega
  omega
theorem plus_law {b : Book} (hc : b.chk = true) (hs : b.set.length ≤ 40) {x y : Int} (hp : isSet [⟨x, y, 1⟩] = true) (ho : (b.plus (addTo (countsR b.set) (countsR [⟨x, y, 1⟩]) 12)).chk = true) : 0 ≤ countB (b.plus (addTo (countsR b.set) (countsR [⟨x, y, 1⟩]) 12)) ∧ countB (b.plus (addTo (countsR b.set) (countsR [⟨x, y, 1⟩]) 12)) ≤ countB b := by
  have hB := bookB hc
  have hpl := setPls hp (by simp)
  refine plus_gen hc hs (by rw [addTo_len, countsR_len]) (fun k hk => ?_) ho
  have h1 := one_nth hpl (j := (k : Int)) (by omega) (by omega)
  have h2 : 0 ≤ nth (countsR [(⟨x, y, 1⟩ : Plate)]) (k : Int) := by rw [h1]; split <;> simp
  have h3 := countsR_nth (setPls hB.p (show b.set.length ≤ 1000 by omega)) (j := (k : Int)) (by omega) (by omega)
  rw [addTo_nth _ _ 12 k (by rw [countsR_len]; omega), if_pos hk, h3]
  unfold haveP
  omega
theorem near_chk {b : Book} (hc : b.chk = true) {m n : Int} (hm : 0 ≤ m ∧ m < b.hall.machs.length) (hn : 0 ≤ n ∧ n ≤ nth b.walk m) : (b.near m n).chk = true := by
  have hB := bookB hc
  simp only [Book.chk, Book.head, Bool.and_eq_true, decide_eq_true_eq] at hc ⊢
  obtain ⟨⟨⟨⟨⟨⟨h1, h2⟩, h3⟩, h4⟩, h5⟩, h6⟩, h7⟩ := hc
  have hl : (b.near m n).walk.length = b.walk.length := by show (lset ([] ++ b.walk) m _).length = _; rw [lset_len]; simp
  refine ⟨⟨⟨⟨⟨⟨h1, h2⟩, by rw [hl]; exact h3⟩, h4⟩, h5⟩, ?_⟩, h7⟩
  refine allI_iff.2 fun i hi => ?_
  rw [hl] at hi
  have h8 := allI_iff.1 h6 i hi
  unfold Book.walkOK at h8 ⊢
  have e : nth (b.near m n).walk (i : Int) = if (i : Int) = m then nth b.walk m - n else nth b.walk (i : Int) := by
    show nth (lset ([] ++ b.walk) m (nth ([] ++ b.walk) m - n)) (i : Int) = _
    rw [List.nil_append, nth_ls hm.1 (by omega) (i : Int) (by omega)]
  rw [e]
  simp only [within, Bool.and_eq_true, decide_eq_true_eq] at h8 ⊢
  split
  · rename_i g
    rw [g] at h8
    omega
  · exact h8
theorem near_law {b : Book} (hc : b.chk = true) (hs : b.set.length ≤ 40) {m n : Int} (hm : 0 ≤ m ∧ m < b.hall.machs.length) (hn : 0 ≤ n ∧ n ≤ nth b.walk m) : 0 ≤ countB (b.near m n) ∧ countB (b.near m n) ≤ countB b := by
  have hB := bookB hc
  have ho := near_chk hc hm hn
  have hO := bookB ho
  have hw : (b.walk.length : Int) = b.hall.machs.length := by have := hB.w; have := hB.h.o; omega
  rw [countB_eq hc, countB_eq ho]
  refine ⟨by omega, ?_⟩
  have hle : ∀ k : Int, 0 ≤ k → nth (b.near m n).walk k ≤ nth b.walk k := fun k hk => by
    have e : nth (b.near m n).walk k = if k = m then nth b.walk m - n else nth b.walk k := by
      show nth (lset ([] ++ b.walk) m (nth ([] ++ b.walk) m - n)) k = _
      rw [List.nil_append, nth_ls hm.1 (by omega) k hk]
    rw [e]; split
    · rename_i g; subst g; omega
    · omega
  have := few_mono (b := b) (o := b.near m n) hB.t rfl fun l hrl hg => by
    have h := good_map (φ := id) hB (by omega) hO (show b.set.length ≤ 1000 by omega) (rl_in hrl) (rl_nd hrl) (fun z hz => rl_in hrl z hz) (fun _ _ _ _ e => e) (fun x hx y hy hne hh => ?_) (fun _ _ => rfl) (fun k hk => Int.le_refl _) hg
    · rw [List.map_id] at h; exact h
    · have hx2 := hB.a x (rl_in hrl x hx).1 (rl_in hrl x hx).2
      have hy2 := hB.a y (rl_in hrl y hy).1 (rl_in hrl y hy).2
      have h1 := hle (nth b.tals x).mach (by omega)
      have h2 := hle (nth b.tals y).mach (by omega)
      show sepB (b.near m n) x y = true
      unfold sepB at hh ⊢
      rw [Bool.not_eq_true', Bool.or_eq_false_iff] at hh ⊢
      refine ⟨?_, hh.2⟩
      have h3 := hh.1
      unfold hurries at h3 ⊢
      rw [Bool.and_eq_false_iff, decide_eq_false_iff_not, decide_eq_false_iff_not] at h3 ⊢
      rcases h3 with h3 | h3
      · exact .inl h3
      · right
        show ¬ max ((nth b.tals x).min - (nth b.tals y).min) ((nth b.tals y).min - (nth b.tals x).min) < nth (b.near m n).walk (nth b.tals x).mach + nth (b.near m n).walk (nth b.tals y).mach
        omega
  omega
theorem more_tals (b : Book) (t : Tal) {x : Int} (hx : 0 ≤ x ∧ x < b.tals.length) : nth (b.more t).tals x = nth b.tals x := by
  show nth (([] ++ b.tals) ++ [t]) x = _
  rw [List.nil_append]
  have h1 : x.toNat < b.tals.length := by omega
  simp [nth, List.getD_eq_getElem?_getD, List.getElem?_append_left h1]
theorem more_len (b : Book) (t : Tal) : (b.more t).tals.length = b.tals.length + 1 := by
  show (([] ++ b.tals) ++ [t]).length = _
  simp
theorem more_same {b : Book} (hc : b.chk = true) (hs : b.set.length ≤ 1000) {t : Tal} (ho : (b.more t).chk = true) {l : List Int} (hl : rl b l) : good (b.more t) l = good b l := by
  have hB := bookB hc
  have hO := bookB ho
  have hin := rl_in hl
  have hlen := more_len b t
  have hsep : ∀ x ∈ l, ∀ y ∈ l, sepB (b.more t) x y = sepB b x y := fun x hx y hy => by
    unfold sepB twiceB
    rw [more_tals b t (hin x hx), more_tals b t (hin y hy)]; rfl
  have hpl : ∀ x ∈ l, plAt (b.more t) x = plAt b x := fun x hx => by
    unfold plAt plateT
    rw [more_tals b t (hin x hx)]; rfl
  rw [Bool.eq_iff_iff]
  constructor
  · intro hg
    have h := good_map (φ := id) hO hs hB hs (l := l) (fun z hz => by have := hin z hz; omega) (rl_nd hl) (fun z hz => hin z hz) (fun _ _ _ _ e => e) (fun x hx y hy _ hh => by show sepB b x y = true; rw [← hsep x hx y hy]; exact hh) (fun x hx => (hpl x hx).symm) (fun k hk => Int.le_refl _) hg
    rw [List.map_id] at h; exact h
  · intro hg
    have h := good_map (φ := id) hB hs hO hs (l := l) hin (rl_nd hl) (fun z hz => by have := hin z hz; show 0 ≤ z ∧ z < _; omega) (fun _ _ _ _ e => e) (fun x hx y hy _ hh => by show sepB (b.more t) x y = true; rw [hsep x hx y hy]; exact hh) (fun x hx => hpl x hx) (fun k hk => Int.le_refl _) hg
    rw [List.map_id] at h; exact h
theorem more_law {b : Book} (hc : b.chk = true) (hs : b.set.length ≤ 1000) {t : Tal} (ho : (b.more t).chk = true) : countB (b.more t) = countB b ∨ countB (b.more t) = countB b + 1 := by
  have hB := bookB hc
  have hO := bookB ho
  have hlen := more_len b t
  rw [countB_eq hc, countB_eq ho]
  obtain ⟨l, h1, h2, h3⟩ := few_at hB.t
  have hr : rl (b.more t) l := by
    rw [rl_iff] at h1 ⊢
    exact ⟨fun x hx => by have := h1.1 x hx; omega, h1.2⟩
  have k1 := few_le hO.t hr (by rw [more_same hc hs ho h1]; exact h2)
  obtain ⟨m, g1, g2, g3⟩ := few_at hO.t
  obtain ⟨w1, w2, w3, w4⟩ := erase_good ho hs g1 g2 (b.tals.length : Int)
  have hr2 : rl b (m.erase (b.tals.length : Int)) := by
    rw [rl_iff] at w1 ⊢
    refine ⟨fun x hx => ?_, w1.2⟩
    have := w1.1 x hx
    have : x ≠ (b.tals.length : Int) := fun e => w3 (e ▸ hx)
    omega
  have k2 := few_le hB.t hr2 (by rw [← more_same hc hs ho hr2]; exact w2)
  omega
theorem plus_small {b : Book} (h : b.Small) {c : List Int} (hc : c.length ≤ 40) : (b.plus c).Small := ⟨h.h, by
  show (setOf c).length ≤ 40
  have := setTo_len c c.length
  unfold setOf; omega, h.w, h.t⟩
theorem near_small {b : Book} (h : b.Small) (m n : Int) : (b.near m n).Small := ⟨h.h, h.s, by
  show (lset ([] ++ b.walk) m _).length ≤ 40
  rw [lset_len]; simpa using h.w, h.t⟩
theorem more_small {b : Book} (h : b.Small) (h8 : b.tals.length ≤ 8) (t : Tal) : (b.more t).Small := ⟨h.h, h.s, h.w, by rw [more_len]; omega⟩
end Go.Flong
namespace Go.Flong
open Go Go.Eng
theorem perm_of {α : Type} [DecidableEq α] : ∀ {a c : List α}, a.Nodup → c.Nodup → (∀ x, x ∈ a ↔ x ∈ c) → a.Perm c
  | [], [], _, _, _ => .nil
  | [], y :: c, _, _, h => absurd ((h y).2 (by simp)) (by simp)
  | x :: a, c, ha, hc, h => by
    have hx : x ∈ c := (h x).1 (by simp)
    rw [List.nodup_cons] at ha
    refine (List.Perm.cons x (perm_of ha.2 (hc.erase x) fun y => ?_)).trans (List.perm_cons_erase hx).symm
    rw [hc.mem_erase_iff]
    constructor
    · intro hy
      exact ⟨fun e => ha.1 (e ▸ hy), (h y).1 (List.mem_cons_of_mem _ hy)⟩
    · rintro ⟨h1, h2⟩
      rcases List.mem_cons.1 ((h y).2 h2) with e | e
      · exact absurd e h1
      · exact e
theorem nodup_le {α : Type} [DecidableEq α] : ∀ {a c : List α}, a.Nodup → (∀ x ∈ a, x ∈ c) → a.length ≤ c.length
  | [], _, _, _ => by simp
  | x :: a, c, ha, h => by
    rw [List.nodup_cons] at ha
    have hx : x ∈ c := h x (by simp)
    have h1 := nodup_le (c := c.erase x) ha.2 fun y hy => (List.mem_erase_of_ne (fun (e : y = x) => ha.1 (by rw [← e]; exact hy))).2 (h y (List.mem_cons_of_mem _ hy))
    rw [List.length_erase_of_mem hx] at h1
    have : 0 < c.length := List.length_pos_of_mem hx
    simp only [List.length_cons]; omega
structure Rel (b o : Book) (p : Int → Int) (q : Int → Int) : Prop where
  c : b.chk = true
  d : o.chk = true
  s : b.set.length ≤ 1000
  h : o.hall = b.hall
  e : o.set = b.set
  w : o.walk = b.walk
  n : o.tals.length = b.tals.length
  pi : ∀ x : Int, 0 ≤ x → x < b.tals.length → 0 ≤ p x ∧ p x < b.tals.length
  qi : ∀ x : Int, 0 ≤ x → x < b.tals.length → 0 ≤ q x ∧ q x < b.tals.length
  pq : ∀ x : Int, 0 ≤ x → x < b.tals.length → p (q x) = x
  qp : ∀ x : Int, 0 ≤ x → x < b.tals.length → q (p x) = x
  t : ∀ x : Int, 0 ≤ x → x < b.tals.length → nth o.tals x = nth b.tals (p x)
theorem Rel.symm {b o : Book} {p q : Int → Int} (r : Rel b o p q) : Rel o b q p :=
  ⟨r.d, r.c, by rw [r.e]; exact r.s, r.h.symm, r.e.symm, r.w.symm, r.n.symm, fun x h1 h2 => by rw [r.n] at h2 ⊢; exact r.qi x h1 h2, fun x h1 h2 => by rw [r.n] at h2 ⊢; exact r.pi x h1 h2, fun x h1 h2 => r.qp x h1 (by rw [r.n] at h2; exact h2), fun x h1 h2 => r.pq x h1 (by rw [r.n] at h2; exact h2),
    fun x h1 h2 => by
      rw [r.n] at h2
      have := r.qi x h1 h2
      rw [r.t _ this.1 this.2, r.pq x h1 h2]⟩
theorem Rel.h8 {b o : Book} {p q : Int → Int} (r : Rel b o p q) : b.tals.length ≤ 8 := (bookB r.c).t
theorem Rel.g8 {b o : Book} {p q : Int → Int} (r : Rel b o p q) : o.tals.length ≤ 8 := (bookB r.d).t
def trL (b : Book) (p : Int → Int) (l : List Int) : List Int := othersR b (othersR b (l.map p))
theorem Rel.mem {b o : Book} {p q : Int → Int} (r : Rel b o p q) {l : List Int} (hl : rl o l) {x : Int} : x ∈ trL b p l ↔ 0 ≤ x ∧ x < b.tals.length ∧ q x ∈ l := by
  unfold trL
  rw [mem_others, mem_others, List.mem_map]
  have hin := rl_in hl
  constructor
  · rintro ⟨h1, h2, h3⟩
    refine ⟨h1, h2, ?_⟩
    apply Classical.byContradiction
    intro g
    refine h3 ⟨h1, h2, ?_⟩
    rintro ⟨y, hy, e⟩
    have hy2 := hin y hy
    rw [r.n] at hy2
    apply g
    rw [← e, r.qp y hy2.1 hy2.2]; exact hy
  · rintro ⟨h1, h2, h3⟩
    refine ⟨h1, h2, ?_⟩
    rintro ⟨_, _, g⟩
    exact g ⟨q x, h3, r.pq x h1 h2⟩
theorem others_pw (b : Book) (l : List Int) : rl b (othersR b l) := by
  rw [rl_iff]
  refine ⟨fun x hx => by have := mem_others.1 hx; omega, ?_⟩
  unfold othersR
  have : ∀ i : Nat, (otTo l i).Pairwise (· < ·) := by
    intro i
    induction i with
    | zero => exact .nil
    | succ i ih =>
      unfold otTo
      split
      · exact ih
      · rw [List.pairwise_append]
        refine ⟨ih, List.pairwise_singleton _ _, fun x hx y hy => ?_⟩
        have := (otTo_mem l i x).1 hx
        rw [List.mem_singleton] at hy
        omega
  exact this _
theorem Rel.rl {b o : Book} {p q : Int → Int} (r : Rel b o p q) (l : List Int) : Flong.rl b (trL b p l) := others_pw b _
theorem Rel.mem2 {b o : Book} {p q : Int → Int} (r : Rel b o p q) {l : List Int} (hl : Flong.rl o l) {x : Int} (hx : 0 ≤ x ∧ x < b.tals.length) : p x ∈ trL b p l ↔ x ∈ l := by
  rw [r.mem hl, r.qp x hx.1 hx.2]
  have := r.pi x hx.1 hx.2
  exact ⟨fun h => h.2.2, fun h => ⟨this.1, this.2, h⟩⟩
theorem Rel.perm {b o : Book} {p q : Int → Int} (r : Rel b o p q) {l : List Int} (hl : Flong.rl o l) : (trL b p l).Perm (l.map p) := by
  have hin := rl_in hl
  refine perm_of (rl_nd (r.rl l)) ?_ fun x => ?_
  · rw [List.nodup_iff_pairwise_ne, List.pairwise_map]
    refine List.Pairwise.imp_of_mem (fun {x y} hx hy hne e => ?_) (List.nodup_iff_pairwise_ne.1 (rl_nd hl))
    have h1 := hin x hx
    have h2 := hin y hy
    rw [r.n] at h1 h2
    apply hne
    rw [← r.qp x h1.1 h1.2, ← r.qp y h2.1 h2.2, e]
  · rw [r.mem hl, List.mem_map]
    constructor
    · rintro ⟨h1, h2, h3⟩; exact ⟨q x, h3, r.pq x h1 h2⟩
    · rintro ⟨y, hy, e⟩
      have h1 := hin y hy
      rw [r.n] at h1
      have h2 := r.pi y h1.1 h1.2
      rw [← e, r.qp y h1.1 h1.2]
      exact ⟨h2.1, h2.2, hy⟩
theorem Rel.len {b o : Book} {p q : Int → Int} (r : Rel b o p q) {l : List Int} (hl : Flong.rl o l) : (trL b p l).length = l.length := by
  rw [(r.perm hl).length_eq, List.length_map]
theorem Rel.good {b o : Book} {p q : Int → Int} (r : Rel b o p q) {l : List Int} (hl : Flong.rl o l) (hg : Flong.good o l = true) : Flong.good b (trL b p l) = true := by
  have hB := bookB r.c
  have hO := bookB r.d
  have hin := rl_in hl
  have hin2 : ∀ x ∈ l, 0 ≤ x ∧ x < (b.tals.length : Int) := fun x hx => by have := hin x hx; rw [r.n] at this; exact this
  have hpin : ∀ z ∈ l.map p, 0 ≤ z ∧ z < (b.tals.length : Int) := fun z hz => by
    obtain ⟨x, hx, e⟩ := List.mem_map.1 hz
    rw [← e]; exact r.pi x (hin2 x hx).1 (hin2 x hx).2
  have h := good_map (φ := p) hO (by rw [r.e]; exact r.s) hB r.s hin (rl_nd hl) (fun x hx => r.pi x (hin2 x hx).1 (hin2 x hx).2) (fun x hx y hy e => by rw [← r.qp x (hin2 x hx).1 (hin2 x hx).2, ← r.qp y (hin2 y hy).1 (hin2 y hy).2, e]) (fun x hx y hy _ hh => ?_) (fun x hx => ?_) (fun k _ => by unfold haveP; rw [r.e]; exact Int.le_refl _) hg
  · have hd : (l.map p).Nodup := (r.perm hl).nodup_iff.1 (rl_nd (r.rl l))
    rw [good_perm hB r.s hpin hd (r.perm hl)]; exact h
  · unfold sepB twiceB hurries at hh ⊢
    rw [r.t x (hin2 x hx).1 (hin2 x hx).2, r.t y (hin2 y hy).1 (hin2 y hy).2, r.w] at hh
    exact hh
  · unfold plAt plateT
    rw [r.t x (hin2 x hx).1 (hin2 x hx).2, r.h]
theorem Rel.few {b o : Book} {p q : Int → Int} (r : Rel b o p q) : fewS b ≤ fewS o := by
  obtain ⟨l, h1, h2, h3⟩ := few_at r.g8
  have := few_le r.h8 (r.rl l) (r.good h1 h2)
  rw [r.len h1] at this
  have := r.n
  omega
theorem Rel.few_eq {b o : Book} {p q : Int → Int} (r : Rel b o p q) : fewS b = fewS o := Nat.le_antisymm r.few r.symm.few
theorem Rel.others {b o : Book} {p q : Int → Int} (r : Rel b o p q) {l : List Int} (hl : Flong.rl o l) : othersR b (trL b p l) = trL b p (othersR o l) := by
  refine eq_of_pwG (R := (· < ·)) (fun x => by omega) (fun x y z h g => by omega) (rl_iff.1 (others_pw b _)).2 (rl_iff.1 (r.rl _)).2 fun x => ?_
  rw [mem_others, r.mem (others_pw o l), mem_others, r.mem hl]
  constructor
  · rintro ⟨h1, h2, h3⟩
    have h4 := r.qi x h1 h2
    refine ⟨h1, h2, h4.1, by rw [r.n]; exact h4.2, fun g => h3 ⟨h1, h2, g⟩⟩
  · rintro ⟨h1, h2, _, _, h3⟩
    exact ⟨h1, h2, fun g => h3 g.2.2⟩
theorem Rel.st {b o : Book} {p q : Int → Int} (r : Rel b o p q) {l : List Int} (h : isSt o l) : isSt b (trL b p l) := by
  refine ⟨r.rl l, ?_, ?_⟩
  · rw [r.others h.1]
    exact r.good (others_pw o l) h.2.1
  · rw [r.len h.1, h.2.2, r.few_eq]
theorem Rel.back {b o : Book} {p q : Int → Int} (r : Rel b o p q) {l : List Int} (hl : Flong.rl o l) : trL o q (trL b p l) = l := by
  refine eq_of_pwG (R := (· < ·)) (fun x => by omega) (fun x y z h g => by omega) (rl_iff.1 (others_pw o _)).2 (rl_iff.1 hl).2 fun x => ?_
  rw [r.symm.mem (r.rl l)]
  constructor
  · rintro ⟨h1, h2, h3⟩
    rw [r.n] at h2
    exact (r.mem2 hl ⟨h1, h2⟩).1 h3
  · intro hx
    have h1 := rl_in hl x hx
    refine ⟨h1.1, h1.2, ?_⟩
    rw [r.n] at h1
    exact (r.mem2 hl h1).2 hx
theorem storS_nd {b : Book} (h8 : b.tals.length ≤ 8) : (storS b).Nodup := by
  rw [List.nodup_iff_pairwise_ne]
  unfold storS
  rw [List.pairwise_map]
  exact (stS_pw h8).imp fun {x y} h e => by rw [e, cmpL_refl] at h; omega
theorem Rel.stories {b o : Book} {p q : Int → Int} (r : Rel b o p q) : (stS o).length ≤ (stS b).length := by
  suffices key : ((storS o).map (trL b p)).length ≤ (storS b).length by
    rw [List.length_map, storS_len, storS_len] at key; exact key
  refine nodup_le ?_ fun x hx => ?_
  · rw [List.nodup_iff_pairwise_ne, List.pairwise_map]
    refine List.Pairwise.imp_of_mem (fun {x y} hx hy hne e => ?_) (List.nodup_iff_pairwise_ne.1 (storS_nd r.g8))
    apply hne
    rw [← r.back ((mem_storS r.g8).1 hx).1, ← r.back ((mem_storS r.g8).1 hy).1, e]
  · obtain ⟨l, hl, e⟩ := List.mem_map.1 hx
    rw [← e]
    exact (mem_storS r.h8).2 (r.st ((mem_storS r.g8).1 hl))
theorem Rel.all {b o : Book} {p q : Int → Int} (r : Rel b o p q) {P Q : List Int → Prop} (h : ∀ l, isSt o l → (P (trL b p l) → Q l)) (g : ∀ l, isSt b l → P l) : ∀ l, isSt o l → Q l := fun l hl => h l hl (g _ (r.st hl))
theorem Rel.kn {b o : Book} {p q : Int → Int} (r : Rel b o p q) {f g : Nat → Bool} {P Q : List Int → Prop} (hf : ∀ s ∈ stS b, f s = true ↔ P (bitsL s)) (hg : ∀ s ∈ stS o, g s = true ↔ Q (bitsL s)) (h : ∀ l, isSt o l → (Q l ↔ P (trL b p l))) : knB o g = knB b f := by
  have f1 : (∀ s ∈ stS b, f s = true) ↔ ∀ l, isSt b l → P l := by
    rw [← stS_st r.h8]; exact forall_congr' fun s => forall_congr' fun hs => hf s hs
  have f2 : (∀ s ∈ stS b, f s = false) ↔ ∀ l, isSt b l → ¬ P l := by
    rw [← stS_st r.h8 (p := fun l => ¬ P l)]; exact forall_congr' fun s => forall_congr' fun hs => by rw [← hf s hs, Bool.not_eq_true]
  have g1 : (∀ s ∈ stS o, g s = true) ↔ ∀ l, isSt o l → Q l := by
    rw [← stS_st r.g8]; exact forall_congr' fun s => forall_congr' fun hs => hg s hs
  have g2 : (∀ s ∈ stS o, g s = false) ↔ ∀ l, isSt o l → ¬ Q l := by
    rw [← stS_st r.g8 (p := fun l => ¬ Q l)]; exact forall_congr' fun s => forall_congr' fun hs => by rw [← hg s hs, Bool.not_eq_true]
  have hb : ∀ l, isSt b l → (P l ↔ Q (trL o q l)) := fun l hl => by
    have h1 := r.symm.st hl
    have h2 := r.symm.back hl.1
    rw [h _ h1, h2]
  refine knB_m r.g8 r.h8 ?_ ?_
  · rw [f1, g1]
    exact ⟨fun a l hl => (hb l hl).2 (a _ (r.symm.st hl)), fun a l hl => (h l hl).2 (a _ (r.st hl))⟩
  · rw [f2, g2]
    exact ⟨fun a l hl e => a _ (r.symm.st hl) ((hb l hl).1 e), fun a l hl e => a _ (r.st hl) ((h l hl).1 e)⟩
theorem rd_iff {b : Book} (h8 : b.tals.length ≤ 8) {m ed mi : Int} {s : Nat} (hs : s < 256) : rdS b m ed mi s = true ↔ ∀ j : Nat, j < (nth b.hall.eds ed).length → ∃ x ∈ othersR b (bitsL s), (nth b.tals x).page = nth (nth b.hall.eds ed) (j : Int) ∧ (nth b.tals x).mach = m ∧ (nth b.tals x).min ≤ mi := by
  unfold rdS
  rw [Bool.not_eq_true', anyG_false]
  refine forall_congr' fun j => forall_congr' fun hj => ?_
  rw [← lack_law h8 m mi _ hs, ← Bool.not_eq_true, allI_iff]
  constructor
  · intro h
    apply Classical.byContradiction
    intro g
    refine h fun k hk => ?_
    unfold rdAtL
    rw [Bool.not_eq_true']
    cases e : (decide ((nth b.tals (nth (othersR b (bitsL s)) (k : Int))).mach = m) && decide ((nth b.tals (nth (othersR b (bitsL s)) (k : Int))).page = nth (nth b.hall.eds ed) (j : Int))) && decide ((nth b.tals (nth (othersR b (bitsL s)) (k : Int))).min ≤ mi) with
    | false => rfl
    | true =>
      simp only [Bool.and_eq_true, decide_eq_true_eq] at e
      exact absurd ⟨_, mem_nth.2 ⟨k, hk, rfl⟩, e.1.2, e.1.1, e.2⟩ g
  · rintro ⟨x, hx, h1, h2, h3⟩ h
    obtain ⟨k, hk, e⟩ := mem_nth.1 hx
    have := h k hk
    unfold rdAtL at this
    rw [e, decide_eq_true h1, decide_eq_true h2, decide_eq_true h3] at this
    cases this
theorem pg_count {b : Book} (h8 : b.tals.length ≤ 8) (pg : Int) {s : Nat} (hs : s < 256) : pgS b pg s = (othersR b (bitsL s)).countP fun n => decide ((nth b.tals n).page = pg) := by
  unfold pgS othersR
  rw [pgTo_count h8 pg hs _ (Nat.le_refl _)]
theorem Rel.pg {b o : Book} {p q : Int → Int} (r : Rel b o p q) (pg : Int) {l : List Int} (hl : Flong.rl o l) : (othersR o l).countP (fun n => decide ((nth o.tals n).page = pg)) = (othersR b (trL b p l)).countP fun n => decide ((nth b.tals n).page = pg) := by
  rw [r.others hl, (r.perm (others_pw o l)).countP_eq, List.countP_map]
  refine List.countP_congr fun x hx => ?_
  have h1 := rl_in (others_pw o l) x hx
  rw [r.n] at h1
  simp only [Function.comp_apply]
  rw [r.t x h1.1 h1.2]
structure Ends (b : Book) (pg lo hi : Int) : Prop where
  a : ∀ s ∈ stS b, lo ≤ pgS b pg s ∧ pgS b pg s ≤ hi
  l : ∃ s ∈ stS b, pgS b pg s = lo
  h : ∃ s ∈ stS b, pgS b pg s = hi
theorem plTo_ends (b : Book) (pg : Int) : ∀ i : Nat, i ≤ (stS b).length → ((plTo b pg i).1 = b.tals.length ∨ ∃ j : Nat, j < i ∧ pgS b pg (nth (stS b) (j : Int)) = (plTo b pg i).1) ∧ ((plTo b pg i).2 = 0 ∨ ∃ j : Nat, j < i ∧ pgS b pg (nth (stS b) (j : Int)) = (plTo b pg i).2)
  | 0, _ => ⟨.inl rfl, .inl rfl⟩
  | i + 1, hi => by
    obtain ⟨h1, h2⟩ := plTo_ends b pg i (by omega)
    simp only [plTo]
    constructor
    · by_cases g : (plTo b pg i).1 ≤ pgS b pg (nth (stS b) (i : Int))
      · rw [Int.min_eq_left g]
        rcases h1 with h1 | ⟨j, h3, h4⟩
        · exact .inl h1
        · exact .inr ⟨j, by omega, h4⟩
      · rw [Int.min_eq_right (by omega)]
        exact .inr ⟨i, by omega, rfl⟩
    · by_cases g : pgS b pg (nth (stS b) (i : Int)) ≤ (plTo b pg i).2
      · rw [Int.max_eq_left g]
        rcases h2 with h2 | ⟨j, h3, h4⟩
        · exact .inl h2
        · exact .inr ⟨j, by omega, h4⟩
      · rw [Int.max_eq_right (by omega)]
        exact .inr ⟨i, by omega, rfl⟩
theorem pl_ends {b : Book} (h8 : b.tals.length ≤ 8) (pg : Int) : Ends b pg (plTo b pg (stS b).length).1 (plTo b pg (stS b).length).2 := by
  have h0 := (stS_len h8).1
  have h1 := (plTo_bnd b pg (stS b).length).2
  obtain ⟨h2, h3⟩ := plTo_ends b pg (stS b).length (Nat.le_refl _)
  have h4 : ∀ s, 0 ≤ pgS b pg s ∧ pgS b pg s ≤ b.tals.length := fun s => pgTo_bnd b pg s _
  refine ⟨fun s hs => ?_, ?_, ?_⟩
  · obtain ⟨i, hi, e⟩ := mem_nth.1 hs
    rw [← e]; exact h1 i hi
  · rcases h2 with h2 | ⟨j, hj, e⟩
    · refine ⟨nth (stS b) 0, mem_nth.2 ⟨0, h0, rfl⟩, ?_⟩
      have g1 : (plTo b pg (stS b).length).1 ≤ pgS b pg (nth (stS b) 0) ∧ pgS b pg (nth (stS b) 0) ≤ (plTo b pg (stS b).length).2 := h1 0 h0
      have g2 := h4 (nth (stS b) 0)
      omega
    · exact ⟨_, mem_nth.2 ⟨j, hj, rfl⟩, e⟩
  · rcases h3 with h3 | ⟨j, hj, e⟩
    · refine ⟨nth (stS b) 0, mem_nth.2 ⟨0, h0, rfl⟩, ?_⟩
      have g1 : (plTo b pg (stS b).length).1 ≤ pgS b pg (nth (stS b) 0) ∧ pgS b pg (nth (stS b) 0) ≤ (plTo b pg (stS b).length).2 := h1 0 h0
      have g2 := h4 (nth (stS b) 0)
      omega
    · exact ⟨_, mem_nth.2 ⟨j, hj, rfl⟩, e⟩
theorem Rel.pgS {b o : Book} {p q : Int → Int} (r : Rel b o p q) (pg : Int) {s : Nat} (hs : s ∈ stS o) : ∃ u ∈ stS b, Flong.pgS b pg u = Flong.pgS o pg s := by
  have hst := (mem_storS r.g8).1 (List.mem_map.2 ⟨s, hs, rfl⟩)
  obtain ⟨u, hu, e⟩ := List.mem_map.1 ((mem_storS r.h8).2 (r.st hst))
  refine ⟨u, hu, ?_⟩
  rw [pg_count r.h8 pg (stS_256 r.h8 hu), pg_count r.g8 pg (stS_256 r.g8 hs), r.pg pg hst.1, e]
theorem Rel.ends {b o : Book} {p q : Int → Int} (r : Rel b o p q) {pg lo hi lo2 hi2 : Int} (h : Ends b pg lo hi) (g : Ends o pg lo2 hi2) : lo2 = lo ∧ hi2 = hi := by
  obtain ⟨s1, a1, a2⟩ := g.l
  obtain ⟨s2, b1, b2⟩ := g.h
  obtain ⟨s3, c1, c2⟩ := h.l
  obtain ⟨s4, d1, d2⟩ := h.h
  obtain ⟨u1, e1, e2⟩ := r.pgS pg a1
  obtain ⟨u2, f1, f2⟩ := r.pgS pg b1
  obtain ⟨u3, g1, g2⟩ := r.symm.pgS pg c1
  obtain ⟨u4, i1, i2⟩ := r.symm.pgS pg d1
  have := h.a u1 e1
  have := h.a u2 f1
  have := g.a u3 g1
  have := g.a u4 i1
  omega
def rotI (n : Nat) (f x : Int) : Int := (x + f) % n
def rotTo (b : Book) (f : Int) : Nat → List Tal
  | 0 => [] ++ b.tals
  | i + 1 => lset (rotTo b f i) (i : Int) (nth b.tals (((i : Int) + f) % (b.tals.length : Int)))
theorem rotTo_len (b : Book) (f : Int) : ∀ i, (rotTo b f i).length = b.tals.length
  | 0 => by simp [rotTo]
  | i + 1 => by rw [rotTo, lset_len, rotTo_len b f i]
theorem nth_lsT {l : List Tal} {k : Int} {x : Tal} (h0 : 0 ≤ k) (h : k < l.length) (j : Int) (hj : 0 ≤ j) : nth (lset l k x) j = if j = k then x else nth l j := by
  by_cases e : j = k
  · subst e
    have : j.toNat < l.length := by omega
    simp [nth, lset, List.getD_eq_getElem?_getD, this]
  · have e2 : ¬ k.toNat = j.toNat := by omega
    simp [nth, lset, List.getD_eq_getElem?_getD, e, List.getElem?_set, e2]
theorem rotTo_nth (b : Book) (f : Int) : ∀ (i : Nat), i ≤ b.tals.length → ∀ x : Int, 0 ≤ x → x < i → nth (rotTo b f i) x = nth b.tals ((x + f) % (b.tals.length : Int))
  | i + 1, hi, x, h0, h1 => by
    rw [rotTo, nth_lsT (by omega) (by rw [rotTo_len]; omega) x h0]
    split
    · rename_i e; rw [e]
    · exact rotTo_nth b f i (by omega) x h0 (by omega)
def Book.rot (b : Book) (f : Int) : Book := { b with tals := rotTo b f b.tals.length }
theorem rot_tals (b : Book) (f : Int) {x : Int} (h0 : 0 ≤ x) (h1 : x < b.tals.length) : nth (b.rot f).tals x = nth b.tals (rotI b.tals.length f x) := rotTo_nth b f _ (Nat.le_refl _) x h0 h1
theorem rot_len (b : Book) (f : Int) : (b.rot f).tals.length = b.tals.length := rotTo_len b f _
theorem rotI_in {n : Nat} {f x : Int} (h : 0 < n) : 0 ≤ rotI n f x ∧ rotI n f x < n := ⟨Int.emod_nonneg _ (by omega), Int.emod_lt_of_pos _ (by omega)⟩
theorem rotI_inv {n : Nat} {f x : Int} (h0 : 0 ≤ x) (h1 : x < n) : rotI n f (rotI n (-f) x) = x ∧ rotI n (-f) (rotI n f x) = x := by
  unfold rotI
  constructor
  · rw [Int.emod_add_emod, show x + -f + f = x by omega, Int.emod_eq_of_lt h0 h1]
  · rw [Int.emod_add_emod, show x + f + -f = x by omega, Int.emod_eq_of_lt h0 h1]
theorem rot_rel {b : Book} (hc : b.chk = true) (hs : b.set.length ≤ 1000) (f : Int) : Rel b (b.rot f) (rotI b.tals.length f) (rotI b.tals.length (-f)) := by
  have hchk : (b.rot f).chk = true := by
    simp only [Book.chk, Book.head, Bool.and_eq_true, decide_eq_true_eq] at hc ⊢
    obtain ⟨⟨⟨⟨⟨⟨h1, h2⟩, h3⟩, h4⟩, h5⟩, h6⟩, h7⟩ := hc
    refine ⟨⟨⟨⟨⟨⟨h1, h2⟩, h3⟩, h4⟩, by rw [rot_len]; exact h5⟩, h6⟩, ?_⟩
    refine allI_iff.2 fun i hi => ?_
    rw [rot_len] at hi
    have h8 := rotI_in (n := b.tals.length) (f := f) (x := (i : Int)) (by omega)
    have h9 := allI_iff.1 h7 (rotI b.tals.length f (i : Int)).toNat (by omega)
    unfold Book.talOK at h9 ⊢
    rw [rot_tals b f (by omega) (by omega)]
    rw [show (((rotI b.tals.length f (i : Int)).toNat : Nat) : Int) = rotI b.tals.length f (i : Int) by omega] at h9
    exact h9
  exact ⟨hc, hchk, hs, rfl, rfl, rfl, rot_len b f, fun x h0 h1 => rotI_in (by omega), fun x h0 h1 => rotI_in (by omega), fun x h0 h1 => (rotI_inv h0 h1).1, fun x h0 h1 => (rotI_inv h0 h1).2, fun x h0 h1 => rot_tals b f h0 h1⟩
structure OrderLaw (b : Book) (f m ed mi : Int) : Prop where
  c : (b.rot f).chk = true
  n : 0 ≤ countB b
  e : countB (b.rot f) = countB b
  z : askE b true = 0
  y : askE (b.rot f) true = 0
  s : nSt b = nSt (b.rot f)
  r : rdV b m ed mi = rdV (b.rot f) m ed mi
  q : rdE b m ed mi = rdE (b.rot f) m ed mi
  p : ∀ pg : Int, 0 ≤ pg → pg ≤ 3 → plE b pg = 0 ∧ plE (b.rot f) pg = 0 ∧ plV b pg = plV (b.rot f) pg
  l : ∀ i : Int, 0 ≤ i → i < b.tals.length → 0 ≤ lieB (b.rot f) i ∧ lieB (b.rot f) i = lieB b ((i + f) % (b.tals.length : Int))
theorem order_law {b : Book} (hc : b.chk = true) (hs : b.set.length ≤ 1000) (f m ed mi : Int) : OrderLaw b f m ed mi := by
  have r := rot_rel hc hs f
  have h8 := r.h8
  have g8 := r.g8
  have z : askE b true = 0 := askE_eq.2 ⟨hc, rfl⟩
  have y : askE (b.rot f) true = 0 := askE_eq.2 ⟨r.d, rfl⟩
  have hask : ∀ v, askE (b.rot f) v = askE b v := fun v => by unfold askE; rw [hc, r.d]
  have hq : rdE b m ed mi = rdE (b.rot f) m ed mi := (hask _).symm
  refine ⟨r.d, by rw [countB_eq hc]; omega, by rw [countB_eq hc, countB_eq r.d, r.few_eq], z, y, ?_, ?_, hq, fun pg h0 h1 => ?_, fun i h0 h1 => ?_⟩
  · rw [show nSt b = ((stS b).length : Int) from if_pos z, show nSt (b.rot f) = ((stS (b.rot f)).length : Int) from if_pos y]
    have h1 := r.stories
    have h2 := r.symm.stories
    omega
  · unfold rdV
    rw [← hq]
    split
    · refine (r.kn (f := rdS b m ed mi) (g := rdS (b.rot f) m ed mi) (P := fun l => ∀ j : Nat, j < (nth b.hall.eds ed).length → ∃ x ∈ othersR b l, (nth b.tals x).page = nth (nth b.hall.eds ed) (j : Int) ∧ (nth b.tals x).mach = m ∧ (nth b.tals x).min ≤ mi) (Q := fun l => ∀ j : Nat, j < (nth b.hall.eds ed).length → ∃ x ∈ othersR (b.rot f) l, (nth (b.rot f).tals x).page = nth (nth b.hall.eds ed) (j : Int) ∧ (nth (b.rot f).tals x).mach = m ∧ (nth (b.rot f).tals x).min ≤ mi) (fun s hs2 => rd_iff h8 (stS_256 h8 hs2)) (fun s hs2 => rd_iff g8 (stS_256 g8 hs2)) fun l hl => ?_).symm
      refine forall_congr' fun j => forall_congr' fun hj => ?_
      rw [r.others hl.1]
      constructor
      · rintro ⟨x, hx, h1⟩
        have h2 := rl_in (others_pw (b.rot f) l) x hx
        rw [r.n] at h2
        rw [r.t x h2.1 h2.2] at h1
        exact ⟨_, (r.mem2 (others_pw _ l) h2).2 hx, h1⟩
      · rintro ⟨x, hx, h1⟩
        obtain ⟨h2, h3, h4⟩ := (r.mem (others_pw _ l)).1 hx
        refine ⟨_, h4, ?_⟩
        have h5 := r.qi x h2 h3
        rw [r.t _ h5.1 h5.2, r.pq x h2 h3]; exact h1
    · rfl
  · have e1 : plE b pg = 0 := askE_eq.2 ⟨hc, by unfold within; rw [decide_eq_true h0, decide_eq_true h1]; rfl⟩
    have e2 : plE (b.rot f) pg = 0 := askE_eq.2 ⟨r.d, by unfold within; rw [decide_eq_true h0, decide_eq_true h1]; rfl⟩
    refine ⟨e1, e2, ?_⟩
    rw [show plV b pg = plTo b pg (stS b).length from if_pos e1, show plV (b.rot f) pg = plTo (b.rot f) pg (stS (b.rot f)).length from if_pos e2]
    have h2 := r.ends (pl_ends h8 pg) (pl_ends g8 pg)
    exact Prod.ext h2.1.symm h2.2.symm
  · have hin := rotI_in (n := b.tals.length) (f := f) (x := i) (by omega)
    have e1 := (lieV_eq r.d (n := i) ⟨h0, by rw [rot_len]; exact h1⟩).2.2
    have e2 := (lieV_eq hc (n := (i + f) % (b.tals.length : Int)) hin).2.2
    have h3 := knB_in (b.rot f) (bit i)
    refine ⟨by omega, ?_⟩
    rw [e1, e2]
    refine r.kn (P := fun l => (i + f) % (b.tals.length : Int) ∈ l) (Q := fun l => i ∈ l) (fun s hs2 => bit_mem (stS_256 h8 hs2) (by unfold rotI at hin; omega)) (fun s hs2 => bit_mem (stS_256 g8 hs2) (by omega)) fun l hl => ?_
    exact (r.mem2 hl.1 ⟨h0, h1⟩).symm
theorem rot_small {b : Book} (h : b.Small) (f : Int) : (b.rot f).Small := ⟨h.h, h.s, h.w, by rw [rot_len]; exact h.t⟩
end Go.Flong
