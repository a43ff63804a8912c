/- Part 5 of the texts behind the claim: FDTW13 EngTi FDTS1 FDTS3 FDTS4 FDTS5. -/
import Derived.Test.YtapgiededfphfaaGreatDoorUD4
set_option linter.unusedSimpArgs false
set_option linter.unusedVariables false
namespace Go.Flong
open Go Go.Eng Go.Proofs
theorem Z60 : Zero Tryz.prog 60 [ai (0), ai (0)] := .mk Tryz.zeroValue60 rfl rfl
theorem B60 : BldT Tryz.prog 60 [(0, 1), (1, 1)] [.int .i64 0, .int .i64 0] := BldT.mk (ns := [1, 1]) Tryz.underlying60 ⟨Tryz.sizeOf3, Tryz.sizeOf3, trivial⟩ rfl Tryz.zeroValue60 rfl
theorem G60 : TyG Tryz.prog 60 2 := ⟨Tryz.isAgg60, Tryz.sizeOf60⟩
theorem F60_0 : Fld Tryz.prog 60 0 0 := .mk Tryz.underlying60 rfl rfl rfl Tryz.sizeOf3 rfl
theorem F60_1 : Fld Tryz.prog 60 1 1 := .mk Tryz.underlying60 rfl rfl rfl Tryz.sizeOf3 rfl
theorem R30 : RowT Tryz.prog 30 77 3 24 [.int .i64 0, .int .i64 0, .int .i64 0] := ⟨Tryz.underlying30, ⟨Tryz.t77, _, by kernel_rfl, rfl, rfl, rfl, rfl⟩, rfl, by decide⟩
theorem e84 : Enters' Tryz.prog 84 := Tryz.call84
theorem e82 : Enters' Tryz.prog 82 := Tryz.call82
theorem w37 {b : Book} {n : Int} : ∀ x ∈ ([.e (.g [.q 0, .q 1, .q 2, ai (b.hall.change), .q 3, .q 4, .q 5, .q 6, ai (b.boys), .q 7]), .i (n)] : List SV), x.res (keys (α := Pred) [(0, PL ETm (b.hall.machs)), (1, PL EBd (b.hall.buns)), (2, PL EP.int (b.hall.trains)), (3, PL EP.int (b.hall.bores)), (4, PL (EP.sl EP.int) (b.hall.eds)), (5, PL EPl (b.set)), (6, PL EP.int (b.walk)), (7, PL ETa (b.tals)), (8, (Pred.tab 1 tz64))]) := by simp [SV.res, El.res, At.res, keys]
theorem r37 {b : Book} {n : Int} : SV.res (keys (α := Pred) []) (.t [.g [ai ((plV b n).1), ai ((plV b n).2)], .a (ai (plE b n))]) := by simp [SV.res, El.res, At.res, keys]
set_option maxHeartbeats 4000000 in
theorem c37 (b : Book) (n : Int) (hm : b.Small) : Sig Tryz.prog 37 [.e (.g [.q 0, .q 1, .q 2, ai (b.hall.change), .q 3, .q 4, .q 5, .q 6, ai (b.boys), .q 7]), .i (n)] [(0, PL ETm (b.hall.machs)), (1, PL EBd (b.hall.buns)), (2, PL EP.int (b.hall.trains)), (3, PL EP.int (b.hall.bores)), (4, PL (EP.sl EP.int) (b.hall.eds)), (5, PL EPl (b.set)), (6, PL EP.int (b.walk)), (7, PL ETa (b.tals)), (8, (Pred.tab 1 tz64))] (.t [.g [ai ((plV b n).1), ai ((plV b n).2)], .a (ai (plE b n))]) [] := by
  by_cases hf : plE b n = 0
  · have hcv := (askE_eq.1 hf).1; have hB := bookB hcv; have hsl := stS_len hB.t; have hst := stS_lt hB.t; have hdm := stS_dom hB.t; have hpo := (pow_ok hB.t).2.2.2.2; have ht8 := hB.t; have hrv := (askE_eq.1 hf).2
    refine Sig.intro Tryz.func37 rfl 9 [(0, .e (.g [.q 0, .q 1, .q 2, ai (b.hall.change), .q 3, .q 4, .q 5, .q 6, ai (b.boys), .q 7])), (1, .i (n))] rfl w37 rfl rfl fun I w => ?_
    refine WP.seq (WP.region ?_)
    refine WPl.l 9 10 rfl rfl rfl (o_boxg rfl) ?_
    refine WPl.l 10 11 rfl rfl rfl (o_alloc Z60) ?_
    refine WPl.v rfl (o_assign rfl) ?_
    refine WPl.nil (EX.then (WP.seq ?_))
    refine WP.draw (nf := 12) [⟨[16, 17], [], [], [], []⟩, ⟨[15], [], [], [], []⟩, ⟨[15], [], [], [], [1]⟩, ⟨[], [], [11], [11], [0, 1, 2]⟩, ⟨[], [], [], [], [0, 1, 2, 3]⟩, ⟨[20], [], [], [], [0, 1, 2, 3, 4]⟩, ⟨[19, 6], [], [], [], [0, 1, 2, 3, 4]⟩, ⟨[20], [], [], [], [0, 1, 2, 3, 4, 5]⟩, ⟨[], [], [], [], [0, 1, 2, 3, 4, 5, 6, 7]⟩] (by kernel_rfl) (by kernel_rfl) ?_
    refine DRQ.v rfl rfl rfl (o_ldpa G33 rfl rfl rfl) ?_
    refine DRQ.v rfl rfl rfl (o_move rfl) ?_
    refine DRQ.cs rfl rfl rfl rfl (o_sig 11 id (c103 n) e103 rfl rfl rfl w103 trivial r103) ?_
    refine DRQ.cs rfl rfl rfl rfl (o_sig 11 (ren [(0, 0), (1, 1), (2, 2), (3, 3), (4, 4), (5, 5), (6, 6), (7, 7), (8, 8)]) (c77 b (within n 0 3) hm hcv hrv) e77 rfl rfl rfl w77 ⟨(lx rfl), (lx rfl), (lx rfl), (lx rfl), (lx rfl), (lx rfl), (lx rfl), (lx rfl), (lx rfl), trivial⟩ r77) ?_
    refine DRQ.v rfl rfl rfl (o_move rfl) ?_
    refine DRQ.v rfl rfl rfl (o_extract rfl rfl) ?_
    refine DRQ.v rfl rfl rfl (o_extract rfl rfl) ?_
    refine DRQ.v rfl rfl rfl (o_assign rfl) ?_
    refine DRQ.v rfl rfl rfl (o_assign rfl) ?_
    refine DRQ.nil' ?_
    refine EX.then (WP.seq (WP.seq (WP.region ?_)))
    refine WPl.v rfl (o_move rfl) ?_
    refine WPl.v rfl (o_neq rfl rfl) ?_
    refine WPl.nil (EX.then ?_)
    refine WP.cond rfl (fun hc1 => ?_) (fun hc1 => ?_)
    · try simp only [cnd] at hc1
      simp at hc1
    · try simp only [cnd] at hc1
      refine WP.skip (EX.then (WP.seq (WP.region ?_)))
      refine WPl.v rfl (o_move rfl) ?_
      refine WPl.v rfl (o_nilq rfl (lx rfl)) ?_
      refine WPl.v rfl (o_fldq F109_0 rfl (lx rfl)) ?_
      refine WPl.v rfl (o_flde F33_4 rfl (lx rfl)) ?_
      refine WPl.x 12 13 rfl rfl rfl (o_ldex S31 rfl (lx rfl) (strS rfl)) ?_
      refine WPl.v rfl (o_lenq L31 rfl (lx rfl)) ?_
      refine WPl.v rfl (o_build B60 rfl ⟨rfl, trivial⟩ rfl rfl) ?_
      refine WPl.l 13 14 rfl rfl rfl (o_alloc Z60) ?_
      refine WPl.s1 (o_stag G60 rfl rfl rfl ⟨rfl, rfl, trivial⟩ rfl rfl) ?_
      refine WPl.nil (EX.then (WP.seq (WP.seq (WP.region ?_))))
      refine WPl.v rfl (o_move rfl) ?_
      refine WPl.v rfl (o_nilq rfl (lx rfl)) ?_
      refine WPl.v rfl (o_fldq F109_1 rfl (lx rfl)) ?_
      refine WPl.x 14 15 rfl rfl rfl (o_ldex S107 rfl (lx rfl) (strS rfl)) ?_
      refine WPl.v rfl (o_lenq L107 rfl (lx rfl)) ?_
      refine WPl.v rfl (o_move rfl) ?_
      refine WPl.nil (EX.then (WP.block ?_))
      refine WP.loop (Gh := Nat) (fun i => ⟨15, [(1, .i (n)), (4, .e (.a (.p 10 (0)))), (5, .i (0)), (6, .e (.a (.q 11))), (8, .e (.a (.p 13 (0)))), (35, .e (.a (.q 14))), (36, .i (((((⟨b, stS b⟩ : BookS)).sts).length : Int))), (37, .i ((i : Int)))], [(8, (Pred.tab 1 tz64)), (11, PP EBs ((⟨b, stS b⟩ : BookS))), (14, PL EP.u64 (((⟨b, stS b⟩ : BookS)).sts))], [(10, .blk [ai (0), ai (0)] 60), (13, .blk [ai ((plTo b n i).1), ai ((plTo b n i).2)] 60)], [], []⟩) (fun i => i ≤ (stS b).length) (fun i => (stS b).length - i) (0) id ?_ (LeR.of ⟨rfl, rfl, rfl, rfl, rfl, rfl, rfl, rfl, trivial⟩ ⟨(lx rfl), (lx rfl), (lx rfl), trivial⟩ ⟨rfl, (congrArg (fun z => some (Ent.blk z 60)) (List.cons_eq_cons.2 ⟨(congrArg (fun z => ai z) (show (((((⟨b, stS b⟩ : BookS)).bk.tals).length : Int)) = ((fun i => (plTo b n i).1) 0) from rfl)), (List.cons_eq_cons.2 ⟨(congrArg (fun z => ai z) (show (0) = ((fun i => (plTo b n i).2) 0) from rfl)), (Eq.refl [])⟩)⟩)), trivial⟩ rfl rfl rfl rfl rfl) ?_
      · first | trivial | omega | (constructor <;> omega) | simp
      intro i hφ
      have hi : i ≤ (stS b).length := hφ
      refine WP.seq (WP.region ?_)
      refine WPl.v rfl (o_lss rfl rfl) ?_
      refine WPl.nil (EX.then (WP.seq ?_))
      refine WP.cond rfl (fun hc2 => ?_) (fun hc2 => ?_)
      · try simp only [cnd] at hc2
        refine WP.skip (EX.then (WP.seq (WP.block (WP.seq (WP.region ?_)))))
        refine WPl.x 15 16 rfl rfl rfl (o_idx L107 rfl (lx rfl) rfl (by first | omega | (simp; omega)) (by first | omega | (simp; omega))) ?_
        refine WPl.v rfl (o_ldq S105 rfl (lx rfl) u64c) ?_
        refine WPl.v rfl (o_assign rfl) ?_
        refine WPl.nil (EX.then (WP.seq (WP.region ?_)))
        refine WPl.v rfl (o_assign rfl) ?_
        refine WPl.nil (EX.then (WP.seq (WP.seq (WP.region ?_))))
        refine WPl.v rfl (o_move rfl) ?_
        refine WPl.v rfl (o_nilq rfl (lx rfl)) ?_
        refine WPl.v rfl (o_fldq F109_0 rfl (lx rfl)) ?_
        refine WPl.v rfl (o_flde F33_4 rfl (lx rfl)) ?_
        refine WPl.x 16 17 rfl rfl rfl (o_ldex S31 rfl (lx rfl) (strS rfl)) ?_
        refine WPl.v rfl (o_lenq L31 rfl (lx rfl)) ?_
        refine WPl.v rfl (o_move rfl) ?_
        refine WPl.nil (EX.then (WP.block ?_))
        refine WP.loop (Gh := Nat) (fun j => ⟨17, [(1, .i (n)), (4, .e (.a (.p 10 (0)))), (5, .i (0)), (6, .e (.a (.q 11))), (8, .e (.a (.p 13 (0)))), (35, .e (.a (.q 14))), (36, .i (((((⟨b, stS b⟩ : BookS)).sts).length : Int))), (37, .i ((i : Int))), (38, .b (decide ((i : Int) < ((((⟨b, stS b⟩ : BookS)).sts).length : Int)))), (39, .e (.a (.q 15))), (40, .e (.a (.v (.int .u64 (((nth (((⟨b, stS b⟩ : BookS)).sts) (i : Int)) : Nat) : Int))))), (10, .e (.a (.v (.int .u64 (((nth (((⟨b, stS b⟩ : BookS)).sts) (i : Int)) : Nat) : Int))))), (11, .i (pgTo b n (nth (stS b) (i : Int)) j)), (41, .e (.a (.q 11))), (42, .e (.a (.q 11))), (43, .e (.a (.e 11 (0)))), (44, .e (.a (.e 11 (9)))), (45, .e (.a (.q 16))), (46, .i (((((⟨b, stS b⟩ : BookS)).bk.tals).length : Int))), (47, .i ((j : Int)))], [(8, (Pred.tab 1 tz64)), (11, PP EBs ((⟨b, stS b⟩ : BookS))), (14, PL EP.u64 (((⟨b, stS b⟩ : BookS)).sts)), (15, PP EP.u64 (nth (((⟨b, stS b⟩ : BookS)).sts) (i : Int))), (16, PL ETa (((⟨b, stS b⟩ : BookS)).bk.tals))], [(10, .blk [ai (0), ai (0)] 60), (13, .blk [ai ((plTo b n i).1), ai ((plTo b n i).2)] 60)], [], []⟩) (fun j => j ≤ b.tals.length) (fun j => b.tals.length - j) (0) id ?_ (LeR.of ⟨rfl, rfl, rfl, rfl, rfl, rfl, rfl, rfl, rfl, rfl, rfl, rfl, (congrArg (fun z => some (SV.i z)) (show (0) = ((fun j => pgTo b n (nth (stS b) (i : Int)) j) 0) from rfl)), rfl, rfl, rfl, rfl, rfl, rfl, rfl, trivial⟩ ⟨(lx rfl), (lx rfl), (lx rfl), (lx rfl), (lx rfl), trivial⟩ ⟨rfl, rfl, trivial⟩ rfl rfl rfl rfl rfl) ?_
        · first | trivial | omega | (constructor <;> omega) | simp
        intro j hφ
        have hj : j ≤ b.tals.length := hφ
        have hpb := pgTo_bnd b n (nth (stS b) (i : Int)) j
        refine WP.seq (WP.region ?_)
        refine WPl.v rfl (o_lss rfl rfl) ?_
        refine WPl.nil (EX.then (WP.seq ?_))
        refine WP.cond rfl (fun hc3 => ?_) (fun hc3 => ?_)
        · try simp only [cnd] at hc3
          refine WP.skip (EX.then (WP.seq (WP.block (WP.seq (WP.region ?_)))))
          refine WPl.v rfl (o_move rfl) ?_
          refine WPl.x 17 18 rfl rfl rfl (o_idx L31 rfl (lx rfl) rfl (by first | omega | (simp; omega)) (by first | omega | (simp; omega))) ?_
          refine WPl.v rfl (o_ldqg G58 rfl (lx rfl) (strG rfl) rfl rfl) ?_
          refine WPl.l 18 19 rfl rfl rfl (o_alloc Z58) ?_
          refine WPl.v rfl (o_assign rfl) ?_
          refine WPl.s1 (o_stag G58 rfl rfl rfl ⟨rfl, rfl, rfl, rfl, trivial⟩ rfl rfl) ?_
          refine WPl.nil (EX.then (WP.seq (WP.region ?_)))
          refine WPl.v rfl (o_fldp F58_1 rfl) ?_
          refine WPl.v rfl (o_ldp S3 rfl rfl rfl) ?_
          refine WPl.v rfl (o_move rfl) ?_
          refine WPl.v rfl (o_eql rfl rfl) ?_
          refine WPl.v rfl (o_move rfl) ?_
          refine WPl.bit 19 20 (decide (((nth (((⟨b, stS b⟩ : BookS)).bk.tals) (j : Int)).page) = n)) rfl rfl ?_
          refine WPl.gv 19 rfl rfl (.plain rfl Iff.rfl rfl) (fun hb => o_move rfl) ?_
          refine WPl.gv 19 rfl rfl (.plain rfl Iff.rfl rfl) (fun hb => o_move rfl) ?_
          refine WPl.gc0 19 rfl rfl (.plain rfl Iff.rfl rfl) (fun hb => o_sig 20 id (c85 (nth (stS b) (i : Int)) (j : Int) (hst i (by omega)) (by omega) (by omega)) e85 rfl rfl rfl w85 trivial r85) ?_
          refine WPl.gv 19 rfl rfl (.plain rfl Iff.rfl rfl) (fun hb => o_not rfl) ?_
          refine WPl.v rfl (o_and rfl rfl rfl id) ?_
          refine WPl.nil (EX.then ?_)
          refine WP.cond rfl (fun hc4 => ?_) (fun hc4 => ?_)
          · try simp only [cnd] at hc4
            refine WP.region ?_
            refine WPl.v rfl (o_move rfl) ?_
            refine WPl.v rfl (o_add rfl rfl (by first | omega | (simp; omega)) (by first | omega | (simp; omega))) ?_
            refine WPl.v rfl (o_assign rfl) ?_
            refine WPl.nil (EX.blk (EX.then (WP.region ?_)))
            refine WPl.v rfl (o_add rfl rfl (by first | omega | (simp; omega)) (by first | omega | (simp; omega))) ?_
            refine WPl.v rfl (o_move rfl) ?_
            refine WPl.nil ?_
            refine EX.again (j + 1) id (by first | omega | (constructor <;> omega)) (by omega) (LeR.of ⟨rfl, rfl, rfl, rfl, rfl, rfl, rfl, rfl, rfl, rfl, rfl, rfl, (congrArg (fun z => some (SV.i z)) (show ((pgTo b n (nth (stS b) (i : Int)) j) + 1) = ((fun j => pgTo b n (nth (stS b) (i : Int)) j) (j + 1)) from by dsimp only; simp only [pgTo]; rw [if_pos (by unfold pgAt; simpa using hc4)])), rfl, rfl, rfl, rfl, rfl, rfl, rfl, trivial⟩ ⟨(lx rfl), (lx rfl), (lx rfl), (lx rfl), (lx rfl), trivial⟩ ⟨rfl, rfl, trivial⟩ rfl rfl rfl rfl rfl)
          · try simp only [cnd] at hc4
            refine WP.skip (EX.blk (EX.then (WP.region ?_)))
            refine WPl.v rfl (o_add rfl rfl (by first | omega | (simp; omega)) (by first | omega | (simp; omega))) ?_
            refine WPl.v rfl (o_move rfl) ?_
            refine WPl.nil ?_
            refine EX.again (j + 1) id (by first | omega | (constructor <;> omega)) (by omega) (LeR.of ⟨rfl, rfl, rfl, rfl, rfl, rfl, rfl, rfl, rfl, rfl, rfl, rfl, (congrArg (fun z => some (SV.i z)) (show (pgTo b n (nth (stS b) (i : Int)) j) = ((fun j => pgTo b n (nth (stS b) (i : Int)) j) (j + 1)) from by dsimp only; simp only [pgTo]; rw [if_neg (by unfold pgAt; rcases hc4 with h | h; (simp [h]); (rw [Int.toNat_natCast] at h; simp [h]))])), rfl, rfl, rfl, rfl, rfl, rfl, rfl, trivial⟩ ⟨(lx rfl), (lx rfl), (lx rfl), (lx rfl), (lx rfl), trivial⟩ ⟨rfl, rfl, trivial⟩ rfl rfl rfl rfl rfl)
        · try simp only [cnd] at hc3
          refine WP.exit (EX.exit_then (EX.exit_then (EX.exit_blk (EX.then (WP.region ?_)))))
          refine WPl.v rfl (o_fldp F60_0 rfl) ?_
          refine WPl.v rfl (o_ldp S3 rfl rfl rfl) ?_
          refine WPl.v rfl (o_move rfl) ?_
          refine WPl.v rfl (o_min rfl rfl) ?_
          refine WPl.v rfl (o_fldp F60_1 rfl) ?_
          refine WPl.v rfl (o_ldp S3 rfl rfl rfl) ?_
          refine WPl.v rfl (o_move rfl) ?_
          refine WPl.v rfl (o_max rfl rfl) ?_
          refine WPl.v rfl (o_build B60 rfl ⟨rfl, rfl, trivial⟩ rfl rfl) ?_
          refine WPl.s1 (o_stag G60 rfl rfl rfl ⟨rfl, rfl, trivial⟩ rfl rfl) ?_
          refine WPl.nil (EX.blk (EX.then (WP.region ?_)))
          refine WPl.v rfl (o_add rfl rfl (by first | omega | (simp; omega)) (by first | omega | (simp; omega))) ?_
          refine WPl.v rfl (o_move rfl) ?_
          refine WPl.nil ?_
          have hje : j = b.tals.length := by omega
          refine EX.again (i + 1) id (by first | omega | (constructor <;> omega)) (by omega) (LeR.of ⟨rfl, rfl, rfl, rfl, rfl, rfl, rfl, rfl, trivial⟩ ⟨(lx rfl), (lx rfl), (lx rfl), trivial⟩ ⟨rfl, (congrArg (fun z => some (Ent.blk z 60)) (List.cons_eq_cons.2 ⟨(congrArg (fun z => ai z) (show (min ((plTo b n i).1) (pgTo b n (nth (stS b) (i : Int)) j)) = ((fun i => (plTo b n i).1) (i + 1)) from by rw [hje]; rfl)), (List.cons_eq_cons.2 ⟨(congrArg (fun z => ai z) (show (max ((plTo b n i).2) (pgTo b n (nth (stS b) (i : Int)) j)) = ((fun i => (plTo b n i).2) (i + 1)) from by rw [hje]; rfl)), (Eq.refl [])⟩)⟩)), trivial⟩ rfl rfl rfl rfl rfl)
      · try simp only [cnd] at hc2
        refine WP.exit (EX.exit_then (EX.exit_then (EX.exit_blk (EX.then (WP.seq (WP.region ?_))))))
        refine WPl.v rfl (o_ldpa G60 rfl rfl rfl) ?_
        refine WPl.s1 (o_stag G60 rfl rfl rfl ⟨rfl, rfl, trivial⟩ rfl rfl) ?_
        refine WPl.v rfl (o_assign rfl) ?_
        refine WPl.nil (EX.then (WP.ret ?_))
        have hie : i = (stS b).length := by omega
        subst hie
        rw [hf, show plV b n = plTo b n (stS b).length from if_pos hf]
        exact EX.fin id (.inl rfl) rfl (.cellg G60 rfl rfl rfl (.tmp rfl .nil)) rfl (by simp [SV.res, El.res, At.res, keys]) trivial (by simp) (by simp)
  · skip
    refine Sig.intro Tryz.func37 rfl 9 [(0, .e (.g [.q 0, .q 1, .q 2, ai (b.hall.change), .q 3, .q 4, .q 5, .q 6, ai (b.boys), .q 7])), (1, .i (n))] rfl w37 rfl rfl fun I w => ?_
    refine WP.seq (WP.region ?_)
    refine WPl.l 9 10 rfl rfl rfl (o_boxg rfl) ?_
    refine WPl.l 10 11 rfl rfl rfl (o_alloc Z60) ?_
    refine WPl.v rfl (o_assign rfl) ?_
    refine WPl.nil (EX.then (WP.seq ?_))
    refine WP.draw (nf := 11) [⟨[16, 17], [], [], [], []⟩, ⟨[15], [], [], [], []⟩, ⟨[15], [], [], [], [1]⟩, ⟨[], [], [], [], [0, 1, 2]⟩, ⟨[], [], [], [], [0, 1, 2, 3]⟩, ⟨[20], [], [], [], [0, 1, 2, 3, 4]⟩, ⟨[19, 6], [], [], [], [0, 1, 2, 3, 4]⟩, ⟨[20], [], [], [], [0, 1, 2, 3, 4, 5]⟩, ⟨[], [], [], [], [0, 1, 2, 3, 4, 5, 6, 7]⟩] (by kernel_rfl) (by kernel_rfl) ?_
    refine DRQ.v rfl rfl rfl (o_ldpa G33 rfl rfl rfl) ?_
    refine DRQ.v rfl rfl rfl (o_move rfl) ?_
    refine DRQ.cs rfl rfl rfl rfl (o_sig 11 id (c103 n) e103 rfl rfl rfl w103 trivial r103) ?_
    refine DRQ.cs rfl rfl rfl rfl (o_sig 11 (ren [(0, 0), (1, 1), (2, 2), (3, 3), (4, 4), (5, 5), (6, 6), (7, 7)]) (c77E b (within n 0 3) hm hf) e77 rfl rfl rfl w77E ⟨(lx rfl), (lx rfl), (lx rfl), (lx rfl), (lx rfl), (lx rfl), (lx rfl), (lx rfl), trivial⟩ r77E) ?_
    refine DRQ.v rfl rfl rfl (o_move rfl) ?_
    refine DRQ.v rfl rfl rfl (o_extract rfl rfl) ?_
    refine DRQ.v rfl rfl rfl (o_extract rfl rfl) ?_
    refine DRQ.v rfl rfl rfl (o_assign rfl) ?_
    refine DRQ.v rfl rfl rfl (o_assign rfl) ?_
    refine DRQ.nil' ?_
    refine EX.then (WP.seq (WP.seq (WP.region ?_)))
    refine WPl.v rfl (o_move rfl) ?_
    refine WPl.v rfl (o_neq rfl rfl) ?_
    refine WPl.nil (EX.then ?_)
    refine WP.cond rfl (fun hc1 => ?_) (fun hc1 => ?_)
    · try simp only [cnd] at hc1
      refine WP.seq (WP.region ?_)
      refine WPl.v rfl (o_build B60 rfl trivial rfl rfl) ?_
      refine WPl.v rfl (o_move rfl) ?_
      refine WPl.s1 (o_stag G60 rfl rfl rfl ⟨rfl, rfl, trivial⟩ rfl rfl) ?_
      refine WPl.v rfl (o_assign rfl) ?_
      refine WPl.nil (EX.then (WP.ret (EX.ret_then ?_)))
      rw [show plV b n = (0, 0) from if_neg hf, show plE b n = askE b (within n 0 3) from rfl]
      exact EX.fin id (.inl rfl) rfl (.cellg G60 rfl rfl rfl (.tmp rfl .nil)) rfl (by simp [SV.res, El.res, At.res, keys]) trivial (by simp) (by simp)
    · try simp only [cnd] at hc1
      exact absurd hc1 hf
theorem w30 {b : Book} : ∀ x ∈ ([.e (.g [.q 0, .q 1, .q 2, ai (b.hall.change), .q 3, .q 4, .q 5, .q 6, ai (b.boys), .q 7])] : List SV), x.res (keys (α := Pred) [(0, PL ETm (b.hall.machs)), (1, PL EBd (b.hall.buns)), (2, PL EP.int (b.hall.trains)), (3, PL EP.int (b.hall.bores)), (4, PL (EP.sl EP.int) (b.hall.eds)), (5, PL EPl (b.set)), (6, PL EP.int (b.walk)), (7, PL ETa (b.tals)), (8, (Pred.tab 1 tz64))]) := by simp [SV.res, El.res, At.res, keys]
theorem r30 {b : Book} : SV.res (keys (α := Pred) [(0, PL EPl (lfV b))]) (.t [.a (.q 0), .a (ai (askE b true))]) := by simp [SV.res, El.res, At.res, keys]
set_option maxHeartbeats 4000000 in
theorem c30 (b : Book) (hm : b.Small) : Sig Tryz.prog 30 [.e (.g [.q 0, .q 1, .q 2, ai (b.hall.change), .q 3, .q 4, .q 5, .q 6, ai (b.boys), .q 7])] [(0, PL ETm (b.hall.machs)), (1, PL EBd (b.hall.buns)), (2, PL EP.int (b.hall.trains)), (3, PL EP.int (b.hall.bores)), (4, PL (EP.sl EP.int) (b.hall.eds)), (5, PL EPl (b.set)), (6, PL EP.int (b.walk)), (7, PL ETa (b.tals)), (8, (Pred.tab 1 tz64))] (.t [.a (.q 0), .a (ai (askE b true))]) [(0, PL EPl (lfV b))] := by
  have hm1 := hm.h.m
  have hm2 := hm.h.b
  have hm3 := hm.h.t
  have hm4 := hm.h.o
  have hm5 := hm.h.e
  have hm6 := hm.s
  have hm7 := hm.w
  have hm8 := hm.t
  by_cases hf : askE b true = 0
  · have hcv := (askE_eq.1 hf).1; have hB := bookB hcv; have hsl := stS_len hB.t; have hst := stS_lt hB.t; have hdm := stS_dom hB.t; have hpo := (pow_ok hB.t).2.2.2.2; have ht8 := hB.t
    refine Sig.intro Tryz.func30 rfl 9 [(0, .e (.g [.q 0, .q 1, .q 2, ai (b.hall.change), .q 3, .q 4, .q 5, .q 6, ai (b.boys), .q 7]))] rfl w30 rfl rfl fun I w => ?_
    refine WP.seq (WP.region ?_)
    refine WPl.l 9 10 rfl rfl rfl (o_boxg rfl) ?_
    refine WPl.v rfl (o_assign rfl) ?_
    refine WPl.v rfl (o_assign rfl) ?_
    refine WPl.nil (EX.then (WP.seq (WP.region ?_)))
    refine WPl.v rfl (o_ldpa G33 rfl rfl rfl) ?_
    refine WPl.cs 11 rfl rfl rfl rfl (o_sig 10 (ren [(0, 0), (1, 1), (2, 2), (3, 3), (4, 4), (5, 5), (6, 6), (7, 7), (8, 8)]) (c77 b true hm hcv rfl) e77 rfl rfl rfl w77 ⟨(lx rfl), (lx rfl), (lx rfl), (lx rfl), (lx rfl), (lx rfl), (lx rfl), (lx rfl), (lx rfl), trivial⟩ r77) ?_
    refine WPl.v rfl (o_move rfl) ?_
    refine WPl.v rfl (o_extract rfl rfl) ?_
    refine WPl.v rfl (o_extract rfl rfl) ?_
    refine WPl.v rfl (o_assign rfl) ?_
    refine WPl.v rfl (o_assign rfl) ?_
    refine WPl.nil (EX.then (WP.seq (WP.seq (WP.region ?_))))
    refine WPl.v rfl (o_move rfl) ?_
    refine WPl.v rfl (o_neq rfl rfl) ?_
    refine WPl.nil (EX.then ?_)
    refine WP.cond rfl (fun hc1 => ?_) (fun hc1 => ?_)
    · try simp only [cnd] at hc1
      simp at hc1
    · try simp only [cnd] at hc1
      refine WP.skip (EX.then (WP.seq (WP.region ?_)))
      refine WPl.mkmapS true 2 11 12 rfl rfl rfl fun b20 => ?_
      refine WPl.v rfl (o_assign rfl) ?_
      refine WPl.nil (EX.then (WP.seq (WP.seq (WP.region ?_))))
      refine WPl.v rfl (o_move rfl) ?_
      refine WPl.v rfl (o_nilq rfl (lx rfl)) ?_
      refine WPl.v rfl (o_fldq F109_0 rfl (lx rfl)) ?_
      refine WPl.v rfl (o_flde F33_4 rfl (lx rfl)) ?_
      refine WPl.x 12 13 rfl rfl rfl (o_ldex S31 rfl (lx rfl) (strS rfl)) ?_
      refine WPl.v rfl (o_lenq L31 rfl (lx rfl)) ?_
      refine WPl.v rfl (o_move rfl) ?_
      refine WPl.nil (EX.then (WP.block ?_))
      refine WP.loop (Gh := Nat) (fun i => ⟨13, [(2, .e (.a (.v (.slice none 0 0)))), (3, .i (0)), (4, .e (.a (.q 10))), (6, .e (.a (.v (.map (some b20))))), (25, .e (.a (.q 12))), (26, .i (((((⟨b, stS b⟩ : BookS)).bk.tals).length : Int))), (27, .i ((i : Int)))], [(8, (Pred.tab 1 tz64)), (10, PP EBs ((⟨b, stS b⟩ : BookS))), (12, PL ETa (((⟨b, stS b⟩ : BookS)).bk.tals))], [(11, .ext (mapSP true 2 b20 (brTo b (nth (stS b) 0) i)))], [], []⟩) (fun i => i ≤ b.tals.length) (fun i => b.tals.length - i) (0) id ?_ (LeR.of ⟨rfl, rfl, rfl, rfl, rfl, rfl, rfl, trivial⟩ ⟨(lx rfl), (lx rfl), (lx rfl), trivial⟩ ⟨(congrArg (fun z => some (Ent.ext (mapSP true 2 b20 z))) (show ([]) = ((fun i => brTo b (nth (stS b) 0) i) 0) from rfl)), trivial⟩ rfl rfl rfl rfl rfl) ?_
      · first | trivial | omega | (constructor <;> omega) | simp
      intro i hφ
      have hi : i ≤ b.tals.length := hφ
      refine WP.seq (WP.region ?_)
      refine WPl.v rfl (o_lss rfl rfl) ?_
      refine WPl.nil (EX.then (WP.seq ?_))
      refine WP.cond rfl (fun hc2 => ?_) (fun hc2 => ?_)
      · try simp only [cnd] at hc2
        have hai := hB.a (i : Int) (by omega) (by omega)
        have hbr := br_le b (nth (stS b) 0) i (b.key (i : Int))
        refine WP.skip (EX.then (WP.seq (WP.block (WP.seq (WP.region ?_)))))
        refine WPl.v rfl (o_move rfl) ?_
        refine WPl.x 13 14 rfl rfl rfl (o_idx L31 rfl (lx rfl) rfl (by first | omega | (simp; omega)) (by first | omega | (simp; omega))) ?_
        refine WPl.v rfl (o_ldqg G58 rfl (lx rfl) (strG rfl) rfl rfl) ?_
        refine WPl.l 14 15 rfl rfl rfl (o_alloc Z58) ?_
        refine WPl.v rfl (o_assign rfl) ?_
        refine WPl.s1 (o_stag G58 rfl rfl rfl ⟨rfl, rfl, rfl, rfl, trivial⟩ rfl rfl) ?_
        refine WPl.nil (EX.then (WP.seq (WP.region ?_)))
        refine WPl.v rfl (o_move rfl) ?_
        refine WPl.v rfl (o_nilq rfl (lx rfl)) ?_
        refine WPl.v rfl (o_fldq F109_1 rfl (lx rfl)) ?_
        refine WPl.x 15 16 rfl rfl rfl (o_ldex S107 rfl (lx rfl) (strS rfl)) ?_
        refine WPl.x 16 17 rfl rfl rfl (o_idx L107 rfl (lx rfl) rfl (by first | omega | (simp; omega)) (by first | omega | (simp; omega))) ?_
        refine WPl.v rfl (o_ldq S105 rfl (lx rfl) u64c) ?_
        refine WPl.v rfl (o_move rfl) ?_
        refine WPl.cs 17 rfl rfl rfl rfl (o_sig 17 id (c85 (nth (stS b) 0) (i : Int) (hst 0 hsl.1) (by omega) (by omega)) e85 rfl rfl rfl w85 trivial r85) ?_
        refine WPl.v rfl (o_not rfl) ?_
        refine WPl.nil (EX.then ?_)
        refine WP.cond rfl (fun hc3 => ?_) (fun hc3 => ?_)
        · try simp only [cnd] at hc3
          refine WP.tree (S' := ⟨17, [(2, .e (.a (.v (.slice none 0 0)))), (3, .i (0)), (4, .e (.a (.q 10))), (6, .e (.a (.v (.map (some b20))))), (25, .e (.a (.q 12))), (26, .i (((((⟨b, stS b⟩ : BookS)).bk.tals).length : Int))), (27, .i ((i : Int))), (28, .b (decide ((i : Int) < ((((⟨b, stS b⟩ : BookS)).bk.tals).length : Int)))), (29, .i ((i : Int))), (30, .e (.a (.q 13))), (31, .e (.g [ai ((nth (((⟨b, stS b⟩ : BookS)).bk.tals) (i : Int)).boy), ai ((nth (((⟨b, stS b⟩ : BookS)).bk.tals) (i : Int)).page), ai ((nth (((⟨b, stS b⟩ : BookS)).bk.tals) (i : Int)).mach), ai ((nth (((⟨b, stS b⟩ : BookS)).bk.tals) (i : Int)).min)])), (8, .e (.a (.p 14 (0)))), (7, .i ((i : Int))), (32, .e (.a (.q 10))), (33, .e (.a (.q 10))), (34, .e (.a (.e 10 (10)))), (35, .e (.a (.q 15))), (36, .e (.a (.q 16))), (37, .e (.a (.v (.int .u64 (((nth (((⟨b, stS b⟩ : BookS)).sts) 0) : Nat) : Int))))), (38, .i ((i : Int))), (39, .b ((nth (stS b) 0).testBit (i : Int).toNat)), (40, .b (!((nth (stS b) 0).testBit (i : Int).toNat))), (41, .e (.a (.v (.map (some b20))))), (42, .e (.a (.q 10))), (43, .e (.g [ai ((nth (((⟨b, stS b⟩ : BookS)).bk.tals) (i : Int)).boy), ai ((nth (((⟨b, stS b⟩ : BookS)).bk.tals) (i : Int)).page), ai ((nth (((⟨b, stS b⟩ : BookS)).bk.tals) (i : Int)).mach), ai ((nth (((⟨b, stS b⟩ : BookS)).bk.tals) (i : Int)).min)])), (44, .e (.g [ai ((nth b.tals (i : Int)).page), ai (nth b.hall.bores (nth b.tals (i : Int)).mach)])), (45, .i ((mget (brTo b (nth (stS b) 0) i) [(nth b.tals (i : Int)).page, nth b.hall.bores (nth b.tals (i : Int)).mach]).getD 0)), (46, .i (((mget (brTo b (nth (stS b) 0) i) [(nth b.tals (i : Int)).page, nth b.hall.bores (nth b.tals (i : Int)).mach]).getD 0) + 1)), (47, .t [.a (ai ((mget (brTo b (nth (stS b) 0) i) [(nth b.tals (i : Int)).page, nth b.hall.bores (nth b.tals (i : Int)).mach]).getD 0)), .a (ai ((midx (brTo b (nth (stS b) 0) i) [(nth b.tals (i : Int)).page, nth b.hall.bores (nth b.tals (i : Int)).mach] : Int)))]), (48, .i ((midx (brTo b (nth (stS b) 0) i) [(nth b.tals (i : Int)).page, nth b.hall.bores (nth b.tals (i : Int)).mach] : Int)))], [(8, (Pred.tab 1 tz64)), (10, PP EBs ((⟨b, stS b⟩ : BookS))), (12, PL ETa (((⟨b, stS b⟩ : BookS)).bk.tals)), (13, PP ETa (nth (((⟨b, stS b⟩ : BookS)).bk.tals) (i : Int))), (15, PL EP.u64 (((⟨b, stS b⟩ : BookS)).sts)), (16, PP EP.u64 (nth (((⟨b, stS b⟩ : BookS)).sts) 0))], [(11, .ext (mapSP true 2 b20 (mset (brTo b (nth (stS b) 0) i) [(nth b.tals (i : Int)).page, nth b.hall.bores (nth b.tals (i : Int)).mach] (((mget (brTo b (nth (stS b) 0) i) [(nth b.tals (i : Int)).page, nth b.hall.bores (nth b.tals (i : Int)).mach]).getD 0) + 1)))), (14, .blk [ai ((nth (((⟨b, stS b⟩ : BookS)).bk.tals) (i : Int)).boy), ai ((nth (((⟨b, stS b⟩ : BookS)).bk.tals) (i : Int)).page), ai ((nth (((⟨b, stS b⟩ : BookS)).bk.tals) (i : Int)).mach), ai ((nth (((⟨b, stS b⟩ : BookS)).bk.tals) (i : Int)).min)] 58)], [], []⟩) (by kernel_rfl) (fun Q hQ => ?_) ?_
          · skip
            refine AnyS.cut 5 #[true, true, true, true, false, false, false, false, false] ⟨17, [(2, .e (.a (.v (.slice none 0 0)))), (3, .i (0)), (4, .e (.a (.q 10))), (6, .e (.a (.v (.map (some b20))))), (25, .e (.a (.q 12))), (26, .i (((((⟨b, stS b⟩ : BookS)).bk.tals).length : Int))), (27, .i ((i : Int))), (28, .b (decide ((i : Int) < ((((⟨b, stS b⟩ : BookS)).bk.tals).length : Int)))), (29, .i ((i : Int))), (30, .e (.a (.q 13))), (31, .e (.g [ai ((nth (((⟨b, stS b⟩ : BookS)).bk.tals) (i : Int)).boy), ai ((nth (((⟨b, stS b⟩ : BookS)).bk.tals) (i : Int)).page), ai ((nth (((⟨b, stS b⟩ : BookS)).bk.tals) (i : Int)).mach), ai ((nth (((⟨b, stS b⟩ : BookS)).bk.tals) (i : Int)).min)])), (8, .e (.a (.p 14 (0)))), (7, .i ((i : Int))), (32, .e (.a (.q 10))), (33, .e (.a (.q 10))), (34, .e (.a (.e 10 (10)))), (35, .e (.a (.q 15))), (36, .e (.a (.q 16))), (37, .e (.a (.v (.int .u64 (((nth (((⟨b, stS b⟩ : BookS)).sts) 0) : Nat) : Int))))), (38, .i ((i : Int))), (39, .b ((nth (stS b) 0).testBit (i : Int).toNat)), (40, .b (!((nth (stS b) 0).testBit (i : Int).toNat))), (41, .e (.a (.v (.map (some b20))))), (42, .e (.a (.q 10))), (43, .e (.g [ai ((nth (((⟨b, stS b⟩ : BookS)).bk.tals) (i : Int)).boy), ai ((nth (((⟨b, stS b⟩ : BookS)).bk.tals) (i : Int)).page), ai ((nth (((⟨b, stS b⟩ : BookS)).bk.tals) (i : Int)).mach), ai ((nth (((⟨b, stS b⟩ : BookS)).bk.tals) (i : Int)).min)])), (44, .e (.g [ai ((nth b.tals (i : Int)).page), ai (nth b.hall.bores (nth b.tals (i : Int)).mach)]))], [(8, (Pred.tab 1 tz64)), (10, PP EBs ((⟨b, stS b⟩ : BookS))), (12, PL ETa (((⟨b, stS b⟩ : BookS)).bk.tals)), (13, PP ETa (nth (((⟨b, stS b⟩ : BookS)).bk.tals) (i : Int))), (15, PL EP.u64 (((⟨b, stS b⟩ : BookS)).sts)), (16, PP EP.u64 (nth (((⟨b, stS b⟩ : BookS)).sts) 0))], [(11, .ext (mapSP true 2 b20 (brTo b (nth (stS b) 0) i))), (14, .blk [ai ((nth (((⟨b, stS b⟩ : BookS)).bk.tals) (i : Int)).boy), ai ((nth (((⟨b, stS b⟩ : BookS)).bk.tals) (i : Int)).page), ai ((nth (((⟨b, stS b⟩ : BookS)).bk.tals) (i : Int)).mach), ai ((nth (((⟨b, stS b⟩ : BookS)).bk.tals) (i : Int)).min)] 58)], [], []⟩ ?_ fun hcut4 => ?_
            · skip
              refine AnyS.step 4 [6] (by kernel_rfl) ⟨?_, ?_, trivial⟩
              · refine StepS.v rfl rfl (o_lookSv (v := (mget (brTo b (nth (stS b) 0) i) [(nth b.tals (i : Int)).page, nth b.hall.bores (nth b.tals (i : Int)).mach]).getD 0) (km := 11) (a := [(nth b.tals (i : Int)).page, nth b.hall.bores (nth b.tals (i : Int)).mach]) M125 rfl rfl isKey.g rfl rfl rfl) ?_
                refine AnyS.step 5 [6] (by kernel_rfl) ⟨?_, ?_, trivial⟩
                · refine StepS.v rfl rfl (o_add rfl rfl (by unfold Book.key at hbr; omega) (by unfold Book.key at hbr; omega)) ?_
                  refine AnyS.step 6 [] (by kernel_rfl) ⟨?_, trivial⟩
                  refine StepS.vl rfl rfl (o_entry (km := 11) (a := [(nth b.tals (i : Int)).page, nth b.hall.bores (nth b.tals (i : Int)).mach]) M125 rfl rfl isKey.g rfl rfl) ?_
                  refine AnyS.step 7 [] (by kernel_rfl) ⟨?_, trivial⟩
                  refine StepS.v rfl rfl (o_extract rfl rfl) ?_
                  refine AnyS.step 8 [] (by kernel_rfl) ⟨?_, trivial⟩
                  refine StepS.s rfl (o_estore (km := 11) (a := [(nth b.tals (i : Int)).page, nth b.hall.bores (nth b.tals (i : Int)).mach]) (u := (mget (brTo b (nth (stS b) 0) i) [(nth b.tals (i : Int)).page, nth b.hall.bores (nth b.tals (i : Int)).mach]).getD 0) rfl rfl rfl rfl) ?_
                  exact AnyS.done (by kernel_rfl) (EX.sub hQ (AllLk.c rfl (AllLk.c rfl (AllLk.c rfl (AllLk.c rfl (AllLk.c rfl (AllLk.c rfl (AllLk.c rfl (AllLk.c rfl (AllLk.c rfl (AllLk.c rfl (AllLk.c rfl (AllLk.c rfl (AllLk.c rfl (AllLk.c rfl (AllLk.c rfl (AllLk.c rfl (AllLk.c rfl (AllLk.c rfl (AllLk.c rfl (AllLk.c rfl (AllLk.c rfl (AllLk.c rfl (AllLk.c rfl (AllLk.c rfl (AllLk.c rfl (AllLk.c rfl (AllLk.c rfl (AllLk.c rfl (AllLk.c rfl (AllLk.c rfl AllLk.n)))))))))))))))))))))))))))))) (AllLk.c rfl (AllLk.c rfl (AllLk.c rfl (AllLk.c rfl (AllLk.c rfl (AllLk.c rfl AllLk.n)))))) (AllLk.c rfl (AllLk.c rfl AllLk.n)) rfl rfl AllLk.n)
                · refine StepS.vl rfl rfl (o_entry (km := 11) (a := [(nth b.tals (i : Int)).page, nth b.hall.bores (nth b.tals (i : Int)).mach]) M125 rfl rfl isKey.g rfl rfl) ?_
                  refine AnyS.step 5 [7] (by kernel_rfl) ⟨?_, ?_, trivial⟩
                  · refine StepS.v rfl rfl (o_add rfl rfl (by unfold Book.key at hbr; omega) (by unfold Book.key at hbr; omega)) ?_
                    refine AnyS.step 7 [] (by kernel_rfl) ⟨?_, trivial⟩
                    refine StepS.v rfl rfl (o_extract rfl rfl) ?_
                    refine AnyS.step 8 [] (by kernel_rfl) ⟨?_, trivial⟩
                    refine StepS.s rfl (o_estore (km := 11) (a := [(nth b.tals (i : Int)).page, nth b.hall.bores (nth b.tals (i : Int)).mach]) (u := (mget (brTo b (nth (stS b) 0) i) [(nth b.tals (i : Int)).page, nth b.hall.bores (nth b.tals (i : Int)).mach]).getD 0) rfl rfl rfl rfl) ?_
                    exact AnyS.done (by kernel_rfl) (EX.sub hQ (AllLk.c rfl (AllLk.c rfl (AllLk.c rfl (AllLk.c rfl (AllLk.c rfl (AllLk.c rfl (AllLk.c rfl (AllLk.c rfl (AllLk.c rfl (AllLk.c rfl (AllLk.c rfl (AllLk.c rfl (AllLk.c rfl (AllLk.c rfl (AllLk.c rfl (AllLk.c rfl (AllLk.c rfl (AllLk.c rfl (AllLk.c rfl (AllLk.c rfl (AllLk.c rfl (AllLk.c rfl (AllLk.c rfl (AllLk.c rfl (AllLk.c rfl (AllLk.c rfl (AllLk.c rfl (AllLk.c rfl (AllLk.c rfl (AllLk.c rfl AllLk.n)))))))))))))))))))))))))))))) (AllLk.c rfl (AllLk.c rfl (AllLk.c rfl (AllLk.c rfl (AllLk.c rfl (AllLk.c rfl AllLk.n)))))) (AllLk.c rfl (AllLk.c rfl AllLk.n)) rfl rfl AllLk.n)
                  · refine StepS.v rfl rfl (o_extract rfl rfl) ?_
                    refine AnyS.step 5 [] (by kernel_rfl) ⟨?_, trivial⟩
                    refine StepS.v rfl rfl (o_add rfl rfl (by unfold Book.key at hbr; omega) (by unfold Book.key at hbr; omega)) ?_
                    refine AnyS.step 8 [] (by kernel_rfl) ⟨?_, trivial⟩
                    refine StepS.s rfl (o_estore (km := 11) (a := [(nth b.tals (i : Int)).page, nth b.hall.bores (nth b.tals (i : Int)).mach]) (u := (mget (brTo b (nth (stS b) 0) i) [(nth b.tals (i : Int)).page, nth b.hall.bores (nth b.tals (i : Int)).mach]).getD 0) rfl rfl rfl rfl) ?_
                    exact AnyS.done (by kernel_rfl) (EX.sub hQ (AllLk.c rfl (AllLk.c rfl (AllLk.c rfl (AllLk.c rfl (AllLk.c rfl (AllLk.c rfl (AllLk.c rfl (AllLk.c rfl (AllLk.c rfl (AllLk.c rfl (AllLk.c rfl (AllLk.c rfl (AllLk.c rfl (AllLk.c rfl (AllLk.c rfl (AllLk.c rfl (AllLk.c rfl (AllLk.c rfl (AllLk.c rfl (AllLk.c rfl (AllLk.c rfl (AllLk.c rfl (AllLk.c rfl (AllLk.c rfl (AllLk.c rfl (AllLk.c rfl (AllLk.c rfl (AllLk.c rfl (AllLk.c rfl (AllLk.c rfl AllLk.n)))))))))))))))))))))))))))))) (AllLk.c rfl (AllLk.c rfl (AllLk.c rfl (AllLk.c rfl (AllLk.c rfl (AllLk.c rfl AllLk.n)))))) (AllLk.c rfl (AllLk.c rfl AllLk.n)) rfl rfl AllLk.n)
              · refine StepS.vl rfl rfl (o_entry (km := 11) (a := [(nth b.tals (i : Int)).page, nth b.hall.bores (nth b.tals (i : Int)).mach]) M125 rfl rfl isKey.g rfl rfl) ?_
                refine AnyS.step 4 [7] (by kernel_rfl) ⟨?_, ?_, trivial⟩
                · refine StepS.v rfl rfl (o_lookSv (v := (mget (brTo b (nth (stS b) 0) i) [(nth b.tals (i : Int)).page, nth b.hall.bores (nth b.tals (i : Int)).mach]).getD 0) (km := 11) (a := [(nth b.tals (i : Int)).page, nth b.hall.bores (nth b.tals (i : Int)).mach]) M125 rfl rfl isKey.g rfl rfl (mget_self _ _ _)) ?_
                  refine AnyS.step 5 [7] (by kernel_rfl) ⟨?_, ?_, trivial⟩
                  · refine StepS.v rfl rfl (o_add rfl rfl (by unfold Book.key at hbr; omega) (by unfold Book.key at hbr; omega)) ?_
                    refine AnyS.step 7 [] (by kernel_rfl) ⟨?_, trivial⟩
                    refine StepS.v rfl rfl (o_extract rfl rfl) ?_
                    refine AnyS.step 8 [] (by kernel_rfl) ⟨?_, trivial⟩
                    refine StepS.s rfl (o_estore (km := 11) (a := [(nth b.tals (i : Int)).page, nth b.hall.bores (nth b.tals (i : Int)).mach]) (u := (mget (brTo b (nth (stS b) 0) i) [(nth b.tals (i : Int)).page, nth b.hall.bores (nth b.tals (i : Int)).mach]).getD 0) rfl rfl rfl rfl) ?_
                    exact AnyS.done (by kernel_rfl) (EX.sub hQ (AllLk.c rfl (AllLk.c rfl (AllLk.c rfl (AllLk.c rfl (AllLk.c rfl (AllLk.c rfl (AllLk.c rfl (AllLk.c rfl (AllLk.c rfl (AllLk.c rfl (AllLk.c rfl (AllLk.c rfl (AllLk.c rfl (AllLk.c rfl (AllLk.c rfl (AllLk.c rfl (AllLk.c rfl (AllLk.c rfl (AllLk.c rfl (AllLk.c rfl (AllLk.c rfl (AllLk.c rfl (AllLk.c rfl (AllLk.c rfl (AllLk.c rfl (AllLk.c rfl (AllLk.c rfl (AllLk.c rfl (AllLk.c rfl (AllLk.c rfl AllLk.n)))))))))))))))))))))))))))))) (AllLk.c rfl (AllLk.c rfl (AllLk.c rfl (AllLk.c rfl (AllLk.c rfl (AllLk.c rfl AllLk.n)))))) (AllLk.c rfl (AllLk.c rfl AllLk.n)) rfl rfl AllLk.n)
                  · refine StepS.v rfl rfl (o_extract rfl rfl) ?_
                    refine AnyS.step 5 [] (by kernel_rfl) ⟨?_, trivial⟩
                    refine StepS.v rfl rfl (o_add rfl rfl (by unfold Book.key at hbr; omega) (by unfold Book.key at hbr; omega)) ?_
                    refine AnyS.step 8 [] (by kernel_rfl) ⟨?_, trivial⟩
                    refine StepS.s rfl (o_estore (km := 11) (a := [(nth b.tals (i : Int)).page, nth b.hall.bores (nth b.tals (i : Int)).mach]) (u := (mget (brTo b (nth (stS b) 0) i) [(nth b.tals (i : Int)).page, nth b.hall.bores (nth b.tals (i : Int)).mach]).getD 0) rfl rfl rfl rfl) ?_
                    exact AnyS.done (by kernel_rfl) (EX.sub hQ (AllLk.c rfl (AllLk.c rfl (AllLk.c rfl (AllLk.c rfl (AllLk.c rfl (AllLk.c rfl (AllLk.c rfl (AllLk.c rfl (AllLk.c rfl (AllLk.c rfl (AllLk.c rfl (AllLk.c rfl (AllLk.c rfl (AllLk.c rfl (AllLk.c rfl (AllLk.c rfl (AllLk.c rfl (AllLk.c rfl (AllLk.c rfl (AllLk.c rfl (AllLk.c rfl (AllLk.c rfl (AllLk.c rfl (AllLk.c rfl (AllLk.c rfl (AllLk.c rfl (AllLk.c rfl (AllLk.c rfl (AllLk.c rfl (AllLk.c rfl AllLk.n)))))))))))))))))))))))))))))) (AllLk.c rfl (AllLk.c rfl (AllLk.c rfl (AllLk.c rfl (AllLk.c rfl (AllLk.c rfl AllLk.n)))))) (AllLk.c rfl (AllLk.c rfl AllLk.n)) rfl rfl AllLk.n)
                · refine StepS.v rfl rfl (o_extract rfl rfl) ?_
                  refine AnyS.step 4 [] (by kernel_rfl) ⟨?_, trivial⟩
                  refine StepS.v rfl rfl (o_lookSv (v := (mget (brTo b (nth (stS b) 0) i) [(nth b.tals (i : Int)).page, nth b.hall.bores (nth b.tals (i : Int)).mach]).getD 0) (km := 11) (a := [(nth b.tals (i : Int)).page, nth b.hall.bores (nth b.tals (i : Int)).mach]) M125 rfl rfl isKey.g rfl rfl (mget_self _ _ _)) ?_
                  refine AnyS.step 5 [] (by kernel_rfl) ⟨?_, trivial⟩
                  refine StepS.v rfl rfl (o_add rfl rfl (by unfold Book.key at hbr; omega) (by unfold Book.key at hbr; omega)) ?_
                  refine AnyS.step 8 [] (by kernel_rfl) ⟨?_, trivial⟩
                  refine StepS.s rfl (o_estore (km := 11) (a := [(nth b.tals (i : Int)).page, nth b.hall.bores (nth b.tals (i : Int)).mach]) (u := (mget (brTo b (nth (stS b) 0) i) [(nth b.tals (i : Int)).page, nth b.hall.bores (nth b.tals (i : Int)).mach]).getD 0) rfl rfl rfl rfl) ?_
                  exact AnyS.done (by kernel_rfl) (EX.sub hQ (AllLk.c rfl (AllLk.c rfl (AllLk.c rfl (AllLk.c rfl (AllLk.c rfl (AllLk.c rfl (AllLk.c rfl (AllLk.c rfl (AllLk.c rfl (AllLk.c rfl (AllLk.c rfl (AllLk.c rfl (AllLk.c rfl (AllLk.c rfl (AllLk.c rfl (AllLk.c rfl (AllLk.c rfl (AllLk.c rfl (AllLk.c rfl (AllLk.c rfl (AllLk.c rfl (AllLk.c rfl (AllLk.c rfl (AllLk.c rfl (AllLk.c rfl (AllLk.c rfl (AllLk.c rfl (AllLk.c rfl (AllLk.c rfl (AllLk.c rfl AllLk.n)))))))))))))))))))))))))))))) (AllLk.c rfl (AllLk.c rfl (AllLk.c rfl (AllLk.c rfl (AllLk.c rfl (AllLk.c rfl AllLk.n)))))) (AllLk.c rfl (AllLk.c rfl AllLk.n)) rfl rfl AllLk.n)
            · skip
              refine AnyS.step 0 [1, 2] (by kernel_rfl) ⟨?_, ?_, ?_, trivial⟩
              · refine StepS.v rfl rfl (o_move rfl) ?_
                refine AnyS.step 1 [2] (by kernel_rfl) ⟨?_, ?_, trivial⟩
                · refine StepS.v rfl rfl (o_move rfl) ?_
                  refine AnyS.step 2 [] (by kernel_rfl) ⟨?_, trivial⟩
                  refine StepS.v rfl rfl (o_ldpa G58 rfl rfl rfl) ?_
                  refine AnyS.step 3 [] (by kernel_rfl) ⟨?_, trivial⟩
                  refine StepS.v rfl rfl (o_sig 17 (ren [(0, 10)]) (c98 b (nth b.tals (i : Int)) ⟨hai.1, hai.2.1⟩) e98 rfl rfl rfl w98 ⟨(Has.of (lx rfl) bs_bk), trivial⟩ r98) ?_
                  exact AnyS.sub hcut4 rfl (by kernel_rfl) (AllLk.c rfl (AllLk.c rfl (AllLk.c rfl (AllLk.c rfl (AllLk.c rfl (AllLk.c rfl (AllLk.c rfl (AllLk.c rfl (AllLk.c rfl (AllLk.c rfl (AllLk.c rfl (AllLk.c rfl (AllLk.c rfl (AllLk.c rfl (AllLk.c rfl (AllLk.c rfl (AllLk.c rfl (AllLk.c rfl (AllLk.c rfl (AllLk.c rfl (AllLk.c rfl (AllLk.c rfl (AllLk.c rfl (AllLk.c rfl (AllLk.c rfl (AllLk.c rfl AllLk.n)))))))))))))))))))))))))) (AllLk.c rfl (AllLk.c rfl (AllLk.c rfl (AllLk.c rfl (AllLk.c rfl (AllLk.c rfl AllLk.n)))))) (AllLk.c rfl (AllLk.c rfl AllLk.n)) rfl rfl AllLk.n
                · refine StepS.v rfl rfl (o_ldpa G58 rfl rfl rfl) ?_
                  refine AnyS.step 1 [] (by kernel_rfl) ⟨?_, trivial⟩
                  refine StepS.v rfl rfl (o_move rfl) ?_
                  refine AnyS.step 3 [] (by kernel_rfl) ⟨?_, trivial⟩
                  refine StepS.v rfl rfl (o_sig 17 (ren [(0, 10)]) (c98 b (nth b.tals (i : Int)) ⟨hai.1, hai.2.1⟩) e98 rfl rfl rfl w98 ⟨(Has.of (lx rfl) bs_bk), trivial⟩ r98) ?_
                  exact AnyS.sub hcut4 rfl (by kernel_rfl) (AllLk.c rfl (AllLk.c rfl (AllLk.c rfl (AllLk.c rfl (AllLk.c rfl (AllLk.c rfl (AllLk.c rfl (AllLk.c rfl (AllLk.c rfl (AllLk.c rfl (AllLk.c rfl (AllLk.c rfl (AllLk.c rfl (AllLk.c rfl (AllLk.c rfl (AllLk.c rfl (AllLk.c rfl (AllLk.c rfl (AllLk.c rfl (AllLk.c rfl (AllLk.c rfl (AllLk.c rfl (AllLk.c rfl (AllLk.c rfl (AllLk.c rfl (AllLk.c rfl AllLk.n)))))))))))))))))))))))))) (AllLk.c rfl (AllLk.c rfl (AllLk.c rfl (AllLk.c rfl (AllLk.c rfl (AllLk.c rfl AllLk.n)))))) (AllLk.c rfl (AllLk.c rfl AllLk.n)) rfl rfl AllLk.n
              · refine StepS.v rfl rfl (o_move rfl) ?_
                refine AnyS.step 0 [2] (by kernel_rfl) ⟨?_, ?_, trivial⟩
                · refine StepS.v rfl rfl (o_move rfl) ?_
                  refine AnyS.step 2 [] (by kernel_rfl) ⟨?_, trivial⟩
                  refine StepS.v rfl rfl (o_ldpa G58 rfl rfl rfl) ?_
                  refine AnyS.step 3 [] (by kernel_rfl) ⟨?_, trivial⟩
                  refine StepS.v rfl rfl (o_sig 17 (ren [(0, 10)]) (c98 b (nth b.tals (i : Int)) ⟨hai.1, hai.2.1⟩) e98 rfl rfl rfl w98 ⟨(Has.of (lx rfl) bs_bk), trivial⟩ r98) ?_
                  exact AnyS.sub hcut4 rfl (by kernel_rfl) (AllLk.c rfl (AllLk.c rfl (AllLk.c rfl (AllLk.c rfl (AllLk.c rfl (AllLk.c rfl (AllLk.c rfl (AllLk.c rfl (AllLk.c rfl (AllLk.c rfl (AllLk.c rfl (AllLk.c rfl (AllLk.c rfl (AllLk.c rfl (AllLk.c rfl (AllLk.c rfl (AllLk.c rfl (AllLk.c rfl (AllLk.c rfl (AllLk.c rfl (AllLk.c rfl (AllLk.c rfl (AllLk.c rfl (AllLk.c rfl (AllLk.c rfl (AllLk.c rfl AllLk.n)))))))))))))))))))))))))) (AllLk.c rfl (AllLk.c rfl (AllLk.c rfl (AllLk.c rfl (AllLk.c rfl (AllLk.c rfl AllLk.n)))))) (AllLk.c rfl (AllLk.c rfl AllLk.n)) rfl rfl AllLk.n
                · refine StepS.v rfl rfl (o_ldpa G58 rfl rfl rfl) ?_
                  refine AnyS.step 0 [3] (by kernel_rfl) ⟨?_, ?_, trivial⟩
                  · refine StepS.v rfl rfl (o_move rfl) ?_
                    refine AnyS.step 3 [] (by kernel_rfl) ⟨?_, trivial⟩
                    refine StepS.v rfl rfl (o_sig 17 (ren [(0, 10)]) (c98 b (nth b.tals (i : Int)) ⟨hai.1, hai.2.1⟩) e98 rfl rfl rfl w98 ⟨(Has.of (lx rfl) bs_bk), trivial⟩ r98) ?_
                    exact AnyS.sub hcut4 rfl (by kernel_rfl) (AllLk.c rfl (AllLk.c rfl (AllLk.c rfl (AllLk.c rfl (AllLk.c rfl (AllLk.c rfl (AllLk.c rfl (AllLk.c rfl (AllLk.c rfl (AllLk.c rfl (AllLk.c rfl (AllLk.c rfl (AllLk.c rfl (AllLk.c rfl (AllLk.c rfl (AllLk.c rfl (AllLk.c rfl (AllLk.c rfl (AllLk.c rfl (AllLk.c rfl (AllLk.c rfl (AllLk.c rfl (AllLk.c rfl (AllLk.c rfl (AllLk.c rfl (AllLk.c rfl AllLk.n)))))))))))))))))))))))))) (AllLk.c rfl (AllLk.c rfl (AllLk.c rfl (AllLk.c rfl (AllLk.c rfl (AllLk.c rfl AllLk.n)))))) (AllLk.c rfl (AllLk.c rfl AllLk.n)) rfl rfl AllLk.n
                  · refine StepS.v rfl rfl (o_sig 17 (ren [(0, 10)]) (c98 b (nth b.tals (i : Int)) ⟨hai.1, hai.2.1⟩) e98 rfl rfl rfl w98 ⟨(Has.of (lx rfl) bs_bk), trivial⟩ r98) ?_
                    refine AnyS.step 0 [] (by kernel_rfl) ⟨?_, trivial⟩
                    refine StepS.v rfl rfl (o_move rfl) ?_
                    exact AnyS.sub hcut4 rfl (by kernel_rfl) (AllLk.c rfl (AllLk.c rfl (AllLk.c rfl (AllLk.c rfl (AllLk.c rfl (AllLk.c rfl (AllLk.c rfl (AllLk.c rfl (AllLk.c rfl (AllLk.c rfl (AllLk.c rfl (AllLk.c rfl (AllLk.c rfl (AllLk.c rfl (AllLk.c rfl (AllLk.c rfl (AllLk.c rfl (AllLk.c rfl (AllLk.c rfl (AllLk.c rfl (AllLk.c rfl (AllLk.c rfl (AllLk.c rfl (AllLk.c rfl (AllLk.c rfl (AllLk.c rfl AllLk.n)))))))))))))))))))))))))) (AllLk.c rfl (AllLk.c rfl (AllLk.c rfl (AllLk.c rfl (AllLk.c rfl (AllLk.c rfl AllLk.n)))))) (AllLk.c rfl (AllLk.c rfl AllLk.n)) rfl rfl AllLk.n
              · refine StepS.v rfl rfl (o_ldpa G58 rfl rfl rfl) ?_
                refine AnyS.step 0 [1] (by kernel_rfl) ⟨?_, ?_, trivial⟩
                · refine StepS.v rfl rfl (o_move rfl) ?_
                  refine AnyS.step 1 [] (by kernel_rfl) ⟨?_, trivial⟩
                  refine StepS.v rfl rfl (o_move rfl) ?_
                  refine AnyS.step 3 [] (by kernel_rfl) ⟨?_, trivial⟩
                  refine StepS.v rfl rfl (o_sig 17 (ren [(0, 10)]) (c98 b (nth b.tals (i : Int)) ⟨hai.1, hai.2.1⟩) e98 rfl rfl rfl w98 ⟨(Has.of (lx rfl) bs_bk), trivial⟩ r98) ?_
                  exact AnyS.sub hcut4 rfl (by kernel_rfl) (AllLk.c rfl (AllLk.c rfl (AllLk.c rfl (AllLk.c rfl (AllLk.c rfl (AllLk.c rfl (AllLk.c rfl (AllLk.c rfl (AllLk.c rfl (AllLk.c rfl (AllLk.c rfl (AllLk.c rfl (AllLk.c rfl (AllLk.c rfl (AllLk.c rfl (AllLk.c rfl (AllLk.c rfl (AllLk.c rfl (AllLk.c rfl (AllLk.c rfl (AllLk.c rfl (AllLk.c rfl (AllLk.c rfl (AllLk.c rfl (AllLk.c rfl (AllLk.c rfl AllLk.n)))))))))))))))))))))))))) (AllLk.c rfl (AllLk.c rfl (AllLk.c rfl (AllLk.c rfl (AllLk.c rfl (AllLk.c rfl AllLk.n)))))) (AllLk.c rfl (AllLk.c rfl AllLk.n)) rfl rfl AllLk.n
                · refine StepS.v rfl rfl (o_move rfl) ?_
                  refine AnyS.step 0 [3] (by kernel_rfl) ⟨?_, ?_, trivial⟩
                  · refine StepS.v rfl rfl (o_move rfl) ?_
                    refine AnyS.step 3 [] (by kernel_rfl) ⟨?_, trivial⟩
                    refine StepS.v rfl rfl (o_sig 17 (ren [(0, 10)]) (c98 b (nth b.tals (i : Int)) ⟨hai.1, hai.2.1⟩) e98 rfl rfl rfl w98 ⟨(Has.of (lx rfl) bs_bk), trivial⟩ r98) ?_
                    exact AnyS.sub hcut4 rfl (by kernel_rfl) (AllLk.c rfl (AllLk.c rfl (AllLk.c rfl (AllLk.c rfl (AllLk.c rfl (AllLk.c rfl (AllLk.c rfl (AllLk.c rfl (AllLk.c rfl (AllLk.c rfl (AllLk.c rfl (AllLk.c rfl (AllLk.c rfl (AllLk.c rfl (AllLk.c rfl (AllLk.c rfl (AllLk.c rfl (AllLk.c rfl (AllLk.c rfl (AllLk.c rfl (AllLk.c rfl (AllLk.c rfl (AllLk.c rfl (AllLk.c rfl (AllLk.c rfl (AllLk.c rfl AllLk.n)))))))))))))))))))))))))) (AllLk.c rfl (AllLk.c rfl (AllLk.c rfl (AllLk.c rfl (AllLk.c rfl (AllLk.c rfl AllLk.n)))))) (AllLk.c rfl (AllLk.c rfl AllLk.n)) rfl rfl AllLk.n
                  · refine StepS.v rfl rfl (o_sig 17 (ren [(0, 10)]) (c98 b (nth b.tals (i : Int)) ⟨hai.1, hai.2.1⟩) e98 rfl rfl rfl w98 ⟨(Has.of (lx rfl) bs_bk), trivial⟩ r98) ?_
                    refine AnyS.step 0 [] (by kernel_rfl) ⟨?_, trivial⟩
                    refine StepS.v rfl rfl (o_move rfl) ?_
                    exact AnyS.sub hcut4 rfl (by kernel_rfl) (AllLk.c rfl (AllLk.c rfl (AllLk.c rfl (AllLk.c rfl (AllLk.c rfl (AllLk.c rfl (AllLk.c rfl (AllLk.c rfl (AllLk.c rfl (AllLk.c rfl (AllLk.c rfl (AllLk.c rfl (AllLk.c rfl (AllLk.c rfl (AllLk.c rfl (AllLk.c rfl (AllLk.c rfl (AllLk.c rfl (AllLk.c rfl (AllLk.c rfl (AllLk.c rfl (AllLk.c rfl (AllLk.c rfl (AllLk.c rfl (AllLk.c rfl (AllLk.c rfl AllLk.n)))))))))))))))))))))))))) (AllLk.c rfl (AllLk.c rfl (AllLk.c rfl (AllLk.c rfl (AllLk.c rfl (AllLk.c rfl AllLk.n)))))) (AllLk.c rfl (AllLk.c rfl AllLk.n)) rfl rfl AllLk.n
          refine EX.blk (EX.then (WP.region ?_))
          refine WPl.v rfl (o_add rfl rfl (by first | omega | (simp; omega)) (by first | omega | (simp; omega))) ?_
          refine WPl.v rfl (o_move rfl) ?_
          refine WPl.nil ?_
          refine EX.again (i + 1) id (by first | omega | (constructor <;> omega)) (by omega) (LeR.of ⟨rfl, rfl, rfl, rfl, rfl, rfl, rfl, trivial⟩ ⟨(lx rfl), (lx rfl), (lx rfl), trivial⟩ ⟨(congrArg (fun z => some (Ent.ext (mapSP true 2 b20 z))) (show (mset (brTo b (nth (stS b) 0) i) [(nth b.tals (i : Int)).page, nth b.hall.bores (nth b.tals (i : Int)).mach] (((mget (brTo b (nth (stS b) 0) i) [(nth b.tals (i : Int)).page, nth b.hall.bores (nth b.tals (i : Int)).mach]).getD 0) + 1)) = ((fun i => brTo b (nth (stS b) 0) i) (i + 1)) from by dsimp only; simp only [brTo]; rw [if_neg (by have h := hc3; simpa using h)]; try rfl)), trivial⟩ rfl rfl rfl rfl rfl)
        · try simp only [cnd] at hc3
          refine WP.skip (EX.blk (EX.then (WP.region ?_)))
          refine WPl.v rfl (o_add rfl rfl (by first | omega | (simp; omega)) (by first | omega | (simp; omega))) ?_
          refine WPl.v rfl (o_move rfl) ?_
          refine WPl.nil ?_
          refine EX.again (i + 1) id (by first | omega | (constructor <;> omega)) (by omega) (LeR.of ⟨rfl, rfl, rfl, rfl, rfl, rfl, rfl, trivial⟩ ⟨(lx rfl), (lx rfl), (lx rfl), trivial⟩ ⟨(congrArg (fun z => some (Ent.ext (mapSP true 2 b20 z))) (show (brTo b (nth (stS b) 0) i) = ((fun i => brTo b (nth (stS b) 0) i) (i + 1)) from by dsimp only; simp only [brTo]; rw [if_pos (by have h := hc3; simpa using h)]; try rfl)), trivial⟩ rfl rfl rfl rfl rfl)
      · try simp only [cnd] at hc2
        refine WP.exit (EX.exit_then (EX.exit_then (EX.exit_blk (EX.then (WP.seq (WP.region ?_))))))
        refine WPl.v rfl (o_assign rfl) ?_
        refine WPl.imp (Imp.namo EPl 13 14 77 rfl rfl) ?_
        refine WPl.imp (Imp.swF 9 13 rfl (lx rfl)) ?_
        refine WPl.nil (EX.then (WP.seq (WP.seq (WP.region ?_))))
        refine WPl.v rfl (o_move rfl) ?_
        refine WPl.v rfl (o_nilq rfl (lx rfl)) ?_
        refine WPl.v rfl (o_fldq F109_0 rfl (lx rfl)) ?_
        refine WPl.v rfl (o_flde F33_1 rfl (lx rfl)) ?_
        refine WPl.x 14 15 rfl rfl rfl (o_ldex S30 rfl (lx rfl) (strS rfl)) ?_
        refine WPl.v rfl (o_lenq L30 rfl (lx rfl)) ?_
        refine WPl.v rfl (o_move rfl) ?_
        refine WPl.nil (EX.then (WP.block ?_))
        refine WP.loop (Gh := Nat) (fun i => ⟨15, [(2, .e (.a (.v (.slice none 0 0)))), (3, .i (0)), (6, .e (.a (.v (.map (some b20))))), (9, .e (.a (.q 13))), (54, .e (.a (.q 14))), (55, .i (((((⟨b, stS b⟩ : BookS)).bk.set).length : Int))), (56, .i ((i : Int)))], [(8, (Pred.tab 1 tz64)), (14, PL EPl (((⟨b, stS b⟩ : BookS)).bk.set))], [(11, .ext (mapSP true 2 b20 (brS b))), (13, .own 77 EPl.size (lfTo b i).length (RP EPl (lfTo b i)))], [], []⟩) (fun i => i ≤ b.set.length) (fun i => b.set.length - i) (0) id ?_ (LeR.of ⟨rfl, rfl, rfl, rfl, rfl, rfl, rfl, trivial⟩ ⟨(lx rfl), (lx rfl), trivial⟩ ⟨(congrArg (fun z => some (Ent.ext (mapSP true 2 b20 z))) (show (brTo b (nth (stS b) 0) i) = ((fun i => brS b) 0) from by rw [show i = b.tals.length by omega]; rfl)), (congrArg (fun z => some (Ent.own 77 EPl.size (List.length z) (RP EPl z))) (show ([]) = ((fun i => lfTo b i) 0) from rfl)), trivial⟩ rfl rfl rfl rfl rfl) ?_
        · first | trivial | omega | (constructor <;> omega) | simp
        intro i hφ
        have hi : i ≤ b.set.length := hφ
        have hpl : 0 ≤ (mget (brS b) [(nth b.set (i : Int)).page, (nth b.set (i : Int)).bore]).getD 0 ∧ (mget (brS b) [(nth b.set (i : Int)).page, (nth b.set (i : Int)).bore]).getD 0 ≤ b.tals.length := br_le b (nth (stS b) 0) b.tals.length _
        refine WP.seq (WP.region ?_)
        refine WPl.v rfl (o_lss rfl rfl) ?_
        refine WPl.nil (EX.then (WP.seq ?_))
        refine WP.cond rfl (fun hc4 => ?_) (fun hc4 => ?_)
        · try simp only [cnd] at hc4
          have hsb := isSetB hB.p (show i < b.set.length by omega)
          refine WP.skip (EX.then (WP.seq (WP.block (WP.seq (WP.region ?_)))))
          refine WPl.x 15 16 rfl rfl rfl (o_idx L30 rfl (lx rfl) rfl (by first | omega | (simp; omega)) (by first | omega | (simp; omega))) ?_
          refine WPl.v rfl (o_ldqg G77 rfl (lx rfl) (strG rfl) rfl rfl) ?_
          refine WPl.l 16 17 rfl rfl rfl (o_alloc Z77) ?_
          refine WPl.s1 (o_stag G77 rfl rfl rfl ⟨rfl, rfl, rfl, trivial⟩ rfl rfl) ?_
          refine WPl.nil (EX.then (WP.seq ?_))
          refine WP.draw (nf := 17) [⟨[62, 63, 64, 65, 66, 67, 68], [], [], [], []⟩, ⟨[62, 63, 64, 65, 66, 67, 68], [], [], [], [0]⟩, ⟨[60, 61, 63, 64, 65, 66, 67], [], [], [], []⟩, ⟨[60, 61, 62, 65, 66], [], [], [], []⟩, ⟨[60, 61, 62, 65, 66], [], [], [], [3]⟩, ⟨[60, 61, 62, 63, 64], [], [], [], []⟩, ⟨[60, 61, 62, 63, 64], [], [], [], [5]⟩, ⟨[60, 61, 62], [], [], [], [3, 4, 5, 6]⟩, ⟨[60, 61], [], [], [], [2, 3, 4, 5, 6, 7]⟩, ⟨[], [], [], [], [0, 1, 2, 3, 4, 5, 6, 7, 8]⟩, ⟨[], [], [], [], [0, 1, 2, 3, 4, 5, 6, 7, 8, 9]⟩, ⟨[], [], [], [16], [0, 1, 2, 3, 4, 5, 6, 7, 8, 9, 10]⟩] (by kernel_rfl) (by kernel_rfl) ?_
          refine DRQ.v rfl rfl rfl (o_fldp F77_2 rfl) ?_
          refine DRQ.v rfl rfl rfl (o_ldp S3 rfl rfl rfl) ?_
          refine DRQ.v rfl rfl rfl (o_move rfl) ?_
          refine DRQ.v rfl rfl rfl (o_fldp F77_0 rfl) ?_
          refine DRQ.v rfl rfl rfl (o_ldp S3 rfl rfl rfl) ?_
          refine DRQ.v rfl rfl rfl (o_fldp F77_1 rfl) ?_
          refine DRQ.v rfl rfl rfl (o_ldp S3 rfl rfl rfl) ?_
          refine DRQ.v rfl rfl rfl (o_build B127 rfl ⟨rfl, rfl, trivial⟩ rfl rfl) ?_
          refine DRQ.v rfl rfl rfl (o_lookS (km := 11) (a := [(nth (((⟨b, stS b⟩ : BookS)).bk.set) (i : Int)).page, (nth (((⟨b, stS b⟩ : BookS)).bk.set) (i : Int)).bore]) M125 rfl rfl isKey.g rfl rfl) ?_
          refine DRQ.v rfl rfl rfl (o_sub rfl rfl (by dsimp only; omega) (by dsimp only; omega)) ?_
          refine DRQ.v rfl rfl rfl (o_fldp F77_2 rfl) ?_
          refine DRQ.s 16 rfl rfl rfl (o_sta S3 rfl rfl rfl rfl rfl) ?_
          refine DRQ.nil' ?_
          refine EX.then (WP.seq (WP.region ?_))
          refine WPl.v rfl (o_fldp F77_2 rfl) ?_
          refine WPl.v rfl (o_ldp S3 rfl rfl rfl) ?_
          refine WPl.v rfl (o_gtr rfl rfl) ?_
          refine WPl.nil (EX.then ?_)
          refine WP.cond rfl (fun hc5 => ?_) (fun hc5 => ?_)
          · try simp only [cnd] at hc5
            refine WP.region ?_
            refine WPl.v rfl (o_move rfl) ?_
            refine WPl.v rfl (o_ldpa G77 rfl rfl rfl) ?_
            refine WPl.l 17 18 rfl rfl rfl (o_bsl (E := EPl) (l := [(⟨(nth b.set (i : Int)).page, (nth b.set (i : Int)).bore, remN b i⟩ : Plate)]) R30 rfl rfl (.cons (⟨rfl, rfl, rfl, trivial⟩) rfl (eok_str ⟨rfl, rfl, rfl, trivial⟩) (.nil)) rfl rfl) ?_
            refine WPl.u1 (k := 18) (m := 19) rfl rfl rfl (o_appo R30 EP.str_one rfl rfl rfl rfl (by have := lfTo_len b i; first | omega | (simp; omega)) (by have := lfTo_len b i; first | omega | (simp; omega))) ?_
            refine WPl.v rfl (o_assign rfl) ?_
            refine WPl.nil (EX.blk (EX.then (WP.region ?_)))
            refine WPl.v rfl (o_add rfl rfl (by first | omega | (simp; omega)) (by first | omega | (simp; omega))) ?_
            refine WPl.v rfl (o_move rfl) ?_
            refine WPl.nil ?_
            refine EX.again (i + 1) (ren [(13, 18)]) (by first | omega | (constructor <;> omega)) (by omega) (LeR.of ⟨rfl, rfl, rfl, rfl, rfl, rfl, rfl, trivial⟩ ⟨(lx rfl), (lx rfl), trivial⟩ ⟨(congrArg (fun z => some (Ent.ext (mapSP true 2 b20 z))) (show (brS b) = ((fun i => brS b) (i + 1)) from rfl)), (congrArg (fun z => some (Ent.own 77 EPl.size (List.length z) (RP EPl z))) (show ((lfTo b i) ++ [(⟨(nth b.set (i : Int)).page, (nth b.set (i : Int)).bore, remN b i⟩ : Plate)]) = ((fun i => lfTo b i) (i + 1)) from by dsimp only; simp only [lfTo]; rw [if_pos (show 0 < remN b i from hc5)])), trivial⟩ rfl rfl rfl rfl rfl)
          · try simp only [cnd] at hc5
            refine WP.skip (EX.blk (EX.then (WP.region ?_)))
            refine WPl.v rfl (o_add rfl rfl (by first | omega | (simp; omega)) (by first | omega | (simp; omega))) ?_
            refine WPl.v rfl (o_move rfl) ?_
            refine WPl.nil ?_
            refine EX.again (i + 1) id (by first | omega | (constructor <;> omega)) (by omega) (LeR.of ⟨rfl, rfl, rfl, rfl, rfl, rfl, rfl, trivial⟩ ⟨(lx rfl), (lx rfl), trivial⟩ ⟨(congrArg (fun z => some (Ent.ext (mapSP true 2 b20 z))) (show (brS b) = ((fun i => brS b) (i + 1)) from rfl)), (congrArg (fun z => some (Ent.own 77 EPl.size (List.length z) (RP EPl z))) (show (lfTo b i) = ((fun i => lfTo b i) (i + 1)) from by dsimp only; simp only [lfTo]; rw [if_neg (show ¬ 0 < remN b i from hc5)])), trivial⟩ rfl rfl rfl rfl rfl)
        · try simp only [cnd] at hc4
          refine WP.exit (EX.exit_then (EX.exit_then (EX.exit_blk (EX.then (WP.seq (WP.region ?_))))))
          refine WPl.v rfl (o_move rfl) ?_
          refine WPl.v rfl (o_assign rfl) ?_
          refine WPl.v rfl (o_assign rfl) ?_
          refine WPl.nil (EX.then (WP.ret ?_))
          refine EX.imp (Imp.frz (E := EPl) (l := lfTo b i) 13 rfl rfl) ?_
          have hie : i = b.set.length := by omega
          subst hie
          rw [hf, show lfV b = lfTo b b.set.length from if_pos hf]
          exact EX.fin (ren [(0, 13)]) (.inl rfl) rfl (.tmp rfl (.tmp rfl .nil)) rfl (by simp [SV.res, El.res, At.res, keys]) ⟨(lx rfl), trivial⟩ (by simp) (by simp)
  · skip
    refine Sig.intro Tryz.func30 rfl 9 [(0, .e (.g [.q 0, .q 1, .q 2, ai (b.hall.change), .q 3, .q 4, .q 5, .q 6, ai (b.boys), .q 7]))] rfl w30 rfl rfl fun I w => ?_
    refine WP.seq (WP.region ?_)
    refine WPl.l 9 10 rfl rfl rfl (o_boxg rfl) ?_
    refine WPl.v rfl (o_assign rfl) ?_
    refine WPl.v rfl (o_assign rfl) ?_
    refine WPl.nil (EX.then (WP.seq (WP.region ?_)))
    refine WPl.v rfl (o_ldpa G33 rfl rfl rfl) ?_
    refine WPl.cs 10 rfl rfl rfl rfl (o_sig 10 (ren [(0, 0), (1, 1), (2, 2), (3, 3), (4, 4), (5, 5), (6, 6), (7, 7)]) (c77E b true hm hf) e77 rfl rfl rfl w77E ⟨(lx rfl), (lx rfl), (lx rfl), (lx rfl), (lx rfl), (lx rfl), (lx rfl), (lx rfl), trivial⟩ r77E) ?_
    refine WPl.v rfl (o_move rfl) ?_
    refine WPl.v rfl (o_extract rfl rfl) ?_
    refine WPl.v rfl (o_extract rfl rfl) ?_
    refine WPl.v rfl (o_assign rfl) ?_
    refine WPl.v rfl (o_assign rfl) ?_
    refine WPl.nil (EX.then (WP.seq (WP.seq (WP.region ?_))))
    refine WPl.v rfl (o_move rfl) ?_
    refine WPl.v rfl (o_neq rfl rfl) ?_
    refine WPl.nil (EX.then ?_)
    refine WP.cond rfl (fun hc1 => ?_) (fun hc1 => ?_)
    · try simp only [cnd] at hc1
      refine WP.seq (WP.region ?_)
      refine WPl.v rfl (o_move rfl) ?_
      refine WPl.v rfl (o_assign rfl) ?_
      refine WPl.v rfl (o_assign rfl) ?_
      refine WPl.nil (EX.then (WP.ret (EX.ret_then ?_)))
      refine EX.imp (Imp.nam 10 11 (.slice none 0 0) (R := PN EPl) pn_ok rfl rfl) ?_
      refine EX.imp (Imp.swF 2 10 rfl (lxr rfl)) ?_
      rw [show lfV b = [] from if_neg hf]
      exact EX.fin (ren [(0, 10)]) (.inl rfl) rfl (.tmp rfl (.tmp rfl .nil)) rfl (by simp [SV.res, El.res, At.res, keys]) ⟨lxl rfl, trivial⟩ (by simp) (by simp)
    · try simp only [cnd] at hc1
      exact absurd hc1 hf
theorem w84 {pg : Int} {b : Book} {m mi : Int} {s : Nat} : ∀ x ∈ ([.i (pg), .e (.a (.q 0)), .e (.a (.q 1)), .e (.a (.q 2)), .e (.a (.q 3))] : List SV), x.res (keys (α := Pred) [(0, PP (EP.box (PP EBs ((⟨b, stS b⟩ : BookS)))) ()), (1, PP EP.int (m)), (2, PP EP.int (mi)), (3, PP EP.u64 (s))]) := by simp [SV.res, El.res, At.res, keys]
set_option maxHeartbeats 4000000 in
theorem c84 (pg : Int) (b : Book) (m mi : Int) (s : Nat) (h : s < 256) (h8 : b.tals.length ≤ 8) : Sig Tryz.prog 84 [.i (pg), .e (.a (.q 0)), .e (.a (.q 1)), .e (.a (.q 2)), .e (.a (.q 3))] [(0, PP (EP.box (PP EBs ((⟨b, stS b⟩ : BookS)))) ()), (1, PP EP.int (m)), (2, PP EP.int (mi)), (3, PP EP.u64 (s))] (.b (lackS b m mi s pg)) [] := by
  refine Sig.intro Tryz.func84 rfl 4 [(0, .i (pg)), (1, .e (.a (.q 0))), (2, .e (.a (.q 1))), (3, .e (.a (.q 2))), (4, .e (.a (.q 3)))] rfl w84 rfl rfl fun I w => ?_
  refine WP.seq (WP.region ?_)
  refine WPl.v rfl (o_assign rfl) ?_
  refine WPl.nil (EX.then (WP.seq (WP.seq (WP.region ?_))))
  refine WPl.x 4 5 rfl rfl rfl (o_ldqx S99 rfl (lx rfl) boxx) ?_
  refine WPl.v rfl (o_nilq rfl (lx rfl)) ?_
  refine WPl.v rfl (o_fldq F109_0 rfl (lx rfl)) ?_
  refine WPl.v rfl (o_flde F33_4 rfl (lx rfl)) ?_
  refine WPl.x 5 6 rfl rfl rfl (o_ldex S31 rfl (lx rfl) (strS rfl)) ?_
  refine WPl.v rfl (o_lenq L31 rfl (lx rfl)) ?_
  refine WPl.v rfl (o_move rfl) ?_
  refine WPl.nil (EX.then (WP.block ?_))
  refine WP.loop (Gh := Nat) (fun i => ⟨6, [(0, .i (pg)), (2, .e (.a (.q 1))), (3, .e (.a (.q 2))), (4, .e (.a (.q 3))), (6, .b (false)), (13, .e (.a (.q 5))), (14, .i (((((⟨b, stS b⟩ : BookS)).bk.tals).length : Int))), (15, .i ((i : Int)))], [(1, PP EP.int (m)), (2, PP EP.int (mi)), (3, PP EP.u64 (s)), (5, PL ETa (((⟨b, stS b⟩ : BookS)).bk.tals))], [], [], []⟩) (fun i => i ≤ b.tals.length ∧ allI (rdAt b m mi s pg) i = true) (fun i => b.tals.length - i) (0) id ?_ (LeR.of ⟨rfl, rfl, rfl, rfl, rfl, rfl, rfl, rfl, trivial⟩ ⟨(lx rfl), (lx rfl), (lx rfl), (lx rfl), trivial⟩ trivial rfl rfl rfl rfl rfl) ?_
  · exact ⟨by omega, rfl⟩
  intro i hφ
  have hi : i ≤ b.tals.length := hφ.1
  have hall := hφ.2
  refine WP.seq (WP.region ?_)
  refine WPl.v rfl (o_lss rfl rfl) ?_
  refine WPl.nil (EX.then (WP.seq ?_))
  refine WP.cond rfl (fun hc1 => ?_) (fun hc1 => ?_)
  · try simp only [cnd] at hc1
    refine WP.skip (EX.then (WP.seq (WP.block (WP.seq (WP.region ?_)))))
    refine WPl.v rfl (o_move rfl) ?_
    refine WPl.x 6 7 rfl rfl rfl (o_idx L31 rfl (lx rfl) rfl (by first | omega | (simp; omega)) (by first | omega | (simp; omega))) ?_
    refine WPl.v rfl (o_ldqg G58 rfl (lx rfl) (strG rfl) rfl rfl) ?_
    refine WPl.l 7 8 rfl rfl rfl (o_alloc Z58) ?_
    refine WPl.v rfl (o_assign rfl) ?_
    refine WPl.s1 (o_stag G58 rfl rfl rfl ⟨rfl, rfl, rfl, rfl, trivial⟩ rfl rfl) ?_
    refine WPl.nil (EX.then (WP.seq (WP.region ?_)))
    refine WPl.v rfl (o_fldp F58_1 rfl) ?_
    refine WPl.v rfl (o_ldp S3 rfl rfl rfl) ?_
    refine WPl.v rfl (o_move rfl) ?_
    refine WPl.v rfl (o_eql rfl rfl) ?_
    refine WPl.v rfl (o_move rfl) ?_
    refine WPl.bit 8 9 (decide (((nth (((⟨b, stS b⟩ : BookS)).bk.tals) (i : Int)).page) = pg)) rfl rfl ?_
    refine WPl.gv 8 rfl rfl (.plain rfl Iff.rfl rfl) (fun hb => o_fldp F58_2 rfl) ?_
    refine WPl.gv 8 rfl rfl (.plain rfl Iff.rfl rfl) (fun hb => o_ldp S3 rfl rfl rfl) ?_
    refine WPl.gv 8 rfl rfl (.plain rfl Iff.rfl rfl) (fun hb => o_ldq S3 rfl (lx rfl) intc) ?_
    refine WPl.gv 8 rfl rfl (.plain rfl Iff.rfl rfl) (fun hb => o_eql rfl rfl) ?_
    refine WPl.v rfl (o_and rfl rfl rfl id) ?_
    refine WPl.v rfl (o_move rfl) ?_
    refine WPl.bit 9 10 ((decide (((nth (((⟨b, stS b⟩ : BookS)).bk.tals) (i : Int)).page) = pg)) && (decide (((nth (((⟨b, stS b⟩ : BookS)).bk.tals) (i : Int)).mach) = m))) rfl rfl ?_
    refine WPl.gv 9 rfl rfl (.plain rfl Iff.rfl rfl) (fun hb => o_fldp F58_3 rfl) ?_
    refine WPl.gv 9 rfl rfl (.plain rfl Iff.rfl rfl) (fun hb => o_ldp S3 rfl rfl rfl) ?_
    refine WPl.gv 9 rfl rfl (.plain rfl Iff.rfl rfl) (fun hb => o_ldq S3 rfl (lx rfl) intc) ?_
    refine WPl.gv 9 rfl rfl (.plain rfl Iff.rfl rfl) (fun hb => o_leq rfl rfl) ?_
    refine WPl.v rfl (o_and rfl rfl rfl id) ?_
    refine WPl.v rfl (o_move rfl) ?_
    refine WPl.bit 10 11 (((decide (((nth (((⟨b, stS b⟩ : BookS)).bk.tals) (i : Int)).page) = pg)) && (decide (((nth (((⟨b, stS b⟩ : BookS)).bk.tals) (i : Int)).mach) = m))) && (decide (((nth (((⟨b, stS b⟩ : BookS)).bk.tals) (i : Int)).min) ≤ mi))) rfl rfl ?_
    refine WPl.gv 10 rfl rfl (.plain rfl Iff.rfl rfl) (fun hb => o_ldq S105 rfl (lx rfl) u64c) ?_
    refine WPl.gv 10 rfl rfl (.plain rfl Iff.rfl rfl) (fun hb => o_move rfl) ?_
    refine WPl.gc0 10 rfl rfl (.plain rfl Iff.rfl rfl) (fun hb => o_sig 11 id (c85 s (i : Int) h (by omega) (by omega)) e85 rfl rfl rfl w85 trivial r85) ?_
    refine WPl.gv 10 rfl rfl (.plain rfl Iff.rfl rfl) (fun hb => o_not rfl) ?_
    refine WPl.v rfl (o_and rfl rfl rfl id) ?_
    refine WPl.nil (EX.then ?_)
    refine WP.cond rfl (fun hc2 => ?_) (fun hc2 => ?_)
    · try simp only [cnd] at hc2
      refine WP.seq (WP.region ?_)
      refine WPl.v rfl (o_assign rfl) ?_
      refine WPl.nil (EX.then (WP.ret (EX.ret_blk (EX.ret_then (EX.ret_then (EX.ret_blk (EX.ret_then ?_)))))))
      rw [show lackS b m mi s pg = false from not_allI (show i < b.tals.length by omega) (by unfold rdAt; simpa using hc2)]
      exact EX.fin id (.inl rfl) rfl (.tmp rfl .nil) rfl (by simp [SV.res, El.res, At.res, keys]) trivial (by simp) (by simp)
    · try simp only [cnd] at hc2
      refine WP.skip (EX.blk (EX.then (WP.region ?_)))
      refine WPl.v rfl (o_add rfl rfl (by first | omega | (simp; omega)) (by first | omega | (simp; omega))) ?_
      refine WPl.v rfl (o_move rfl) ?_
      refine WPl.nil ?_
      refine EX.again (i + 1) id (by exact ⟨by omega, by simp only [allI, hall, Bool.true_and]; unfold rdAt; simpa using hc2⟩) (by omega) (LeR.of ⟨rfl, rfl, rfl, rfl, rfl, rfl, rfl, rfl, trivial⟩ ⟨(lx rfl), (lx rfl), (lx rfl), (lx rfl), trivial⟩ trivial rfl rfl rfl rfl rfl)
  · try simp only [cnd] at hc1
    refine WP.exit (EX.exit_then (EX.exit_then (EX.exit_blk (EX.then (WP.seq (WP.region ?_))))))
    refine WPl.v rfl (o_assign rfl) ?_
    refine WPl.nil (EX.then (WP.ret ?_))
    have he : i = b.tals.length := by omega
    subst he
    rw [show lackS b m mi s pg = true from hall]
    exact EX.fin id (.inl rfl) rfl (.tmp rfl .nil) rfl (by simp [SV.res, El.res, At.res, keys]) trivial (by simp) (by simp)
theorem w82 {s : Nat} {b : Book} {m ed mi : Int} : ∀ x ∈ ([.e (.a (.v (.int .u64 (s : Int)))), .e (.a (.q 0)), .e (.a (.q 1)), .e (.a (.q 2)), .e (.a (.q 3)), .e (.a (.q 4))] : List SV), x.res (keys (α := Pred) [(0, PP EBk (b)), (1, PP EP.int (ed)), (2, PP (EP.box (PP EBs ((⟨b, stS b⟩ : BookS)))) ()), (3, PP EP.int (m)), (4, PP EP.int (mi))]) := by simp [SV.res, El.res, At.res, keys]
set_option maxHeartbeats 4000000 in
theorem c82 (s : Nat) (b : Book) (m ed mi : Int) (h : s < 256) (h8 : b.tals.length ≤ 8) (hed : 0 ≤ ed ∧ ed < b.hall.eds.length) (hm : b.Small) : Sig Tryz.prog 82 [.e (.a (.v (.int .u64 (s : Int)))), .e (.a (.q 0)), .e (.a (.q 1)), .e (.a (.q 2)), .e (.a (.q 3)), .e (.a (.q 4))] [(0, PP EBk (b)), (1, PP EP.int (ed)), (2, PP (EP.box (PP EBs ((⟨b, stS b⟩ : BookS)))) ()), (3, PP EP.int (m)), (4, PP EP.int (mi))] (.b (rdS b m ed mi s)) [] := by
  have hpl := hm.h.p ed.toNat (by omega)
  rw [show ((ed.toNat : Nat) : Int) = ed by omega] at hpl
  refine Sig.intro Tryz.func82 rfl 5 [(0, .e (.a (.v (.int .u64 (s : Int))))), (1, .e (.a (.q 0))), (2, .e (.a (.q 1))), (3, .e (.a (.q 2))), (4, .e (.a (.q 3))), (5, .e (.a (.q 4)))] rfl w82 rfl rfl fun I w => ?_
  refine WP.seq (WP.region ?_)
  refine WPl.l 5 6 rfl rfl rfl (o_boxa rfl rfl) ?_
  refine WPl.v rfl (o_assign rfl) ?_
  refine WPl.nil (EX.then (WP.seq (WP.region ?_)))
  refine WPl.v rfl (o_fldq F33_0 rfl (lx rfl)) ?_
  refine WPl.v rfl (o_flde F29_2 rfl (lx rfl)) ?_
  refine WPl.x 6 7 rfl rfl rfl (o_ldex S27 rfl (lx rfl) (strS rfl)) ?_
  refine WPl.v rfl (o_ldq S3 rfl (lx rfl) intc) ?_
  refine WPl.x 7 8 rfl rfl rfl (o_idx L27 rfl (lx rfl) rfl (by first | omega | (simp; omega)) (by first | omega | (simp; omega))) ?_
  refine WPl.x 8 9 rfl rfl rfl (o_ldqx S24 rfl (lx rfl) slx) ?_
  refine WPl.imp (Imp.frzb (E := EP.u64) (y := s) 5 9 10 rfl rfl (fun _ _ _ _ _ _ => rfl) rfl rfl rfl) ?_
  refine WPl.x 10 11 rfl rfl rfl (o_mkfve (svs := fun (o : Dom.all.T) => [.i (o.1)]) (X0 := fun (o : Dom.all.T) => []) (sv := fun (o : Dom.all.T) => .b ((lackS b m mi s) o.1)) (X := fun (o : Dom.all.T) => []) (cs := [.e (.a (.q 0)), .e (.a (.q 1)), .e (.a (.q 2)), .e (.a (.q 3))]) (Xc := [(0, PP (EP.box (PP EBs ((⟨b, stS b⟩ : BookS)))) ()), (1, PP EP.int (m)), (2, PP EP.int (mi)), (3, PP EP.u64 (s))]) 10 (ren [(0, 2), (1, 3), (2, 4), (3, 9)]) (fun (o : Dom.all.T) => (c84 o.1 b m mi s h h8)) e84 (fun _ => rfl) rfl SvsOK.rf (fun _ => (by simp [SV.res, El.res, At.res, keys])) (by simp [SV.res, El.res, At.res, keys]) ⟨(lx rfl), (lx rfl), (lx rfl), (lx rfl), trivial⟩) ?_
  refine WPl.cs 11 rfl rfl rfl rfl (o_sig 11 (ren [(0, 8), (1, 10)]) (c83 (nth b.hall.eds ed) Dom.all (lackS b m mi s) (by omega) (fun _ _ => trivial)) e83 rfl rfl rfl w83 ⟨(lx rfl), (lx rfl), trivial⟩ r83) ?_
  refine WPl.v rfl (o_not rfl) ?_
  refine WPl.v rfl (o_assign rfl) ?_
  refine WPl.nil (EX.then (WP.ret ?_))
  rw [show rdS b m ed mi s = !anyG (lackS b m mi s) (nth b.hall.eds ed) from rfl]
  exact EX.fin id (.inl rfl) rfl (.tmp rfl .nil) rfl (by simp [SV.res, El.res, At.res, keys]) trivial (by simp) (by simp)
theorem w21 {b : Book} {m ed mi : Int} : ∀ x ∈ ([.e (.g [.q 0, .q 1, .q 2, ai (b.hall.change), .q 3, .q 4, .q 5, .q 6, ai (b.boys), .q 7]), .i (m), .i (ed), .i (mi)] : List SV), x.res (keys (α := Pred) [(0, PL ETm (b.hall.machs)), (1, PL EBd (b.hall.buns)), (2, PL EP.int (b.hall.trains)), (3, PL EP.int (b.hall.bores)), (4, PL (EP.sl EP.int) (b.hall.eds)), (5, PL EPl (b.set)), (6, PL EP.int (b.walk)), (7, PL ETa (b.tals)), (8, (Pred.tab 1 tz64))]) := by simp [SV.res, El.res, At.res, keys]
theorem r21 {b : Book} {m ed mi : Int} : SV.res (keys (α := Pred) []) (.t [.a (ai (rdV b m ed mi)), .a (ai (rdE b m ed mi))]) := by simp [SV.res, El.res, At.res, keys]
set_option maxHeartbeats 4000000 in
theorem c21 (b : Book) (m ed mi : Int) (hm : b.Small) : Sig Tryz.prog 21 [.e (.g [.q 0, .q 1, .q 2, ai (b.hall.change), .q 3, .q 4, .q 5, .q 6, ai (b.boys), .q 7]), .i (m), .i (ed), .i (mi)] [(0, PL ETm (b.hall.machs)), (1, PL EBd (b.hall.buns)), (2, PL EP.int (b.hall.trains)), (3, PL EP.int (b.hall.bores)), (4, PL (EP.sl EP.int) (b.hall.eds)), (5, PL EPl (b.set)), (6, PL EP.int (b.walk)), (7, PL ETa (b.tals)), (8, (Pred.tab 1 tz64))] (.t [.a (ai (rdV b m ed mi)), .a (ai (rdE b m ed mi))]) [] := by
  have hm1 := hm.h.m
  have hm2 := hm.h.b
  have hm3 := hm.h.t
  have hm4 := hm.h.o
  have hm5 := hm.h.e
  have hm6 := hm.s
  have hm7 := hm.w
  have hm8 := hm.t
  by_cases hf : rdE b m ed mi = 0
  · have hcv := (askE_eq.1 hf).1; have hB := bookB hcv; have hsl := stS_len hB.t; have hst := stS_lt hB.t; have hdm := stS_dom hB.t; have hpo := (pow_ok hB.t).2.2.2.2; have ht8 := hB.t; have hrv := (askE_eq.1 hf).2; have hre := hrv; simp only [rdOK, within, Bool.and_eq_true, decide_eq_true_eq] at hre
    refine Sig.intro Tryz.func21 rfl 9 [(0, .e (.g [.q 0, .q 1, .q 2, ai (b.hall.change), .q 3, .q 4, .q 5, .q 6, ai (b.boys), .q 7])), (1, .i (m)), (2, .i (ed)), (3, .i (mi))] rfl w21 rfl rfl fun I w => ?_
    refine WP.seq (WP.region ?_)
    refine WPl.l 9 10 rfl rfl rfl (o_boxg rfl) ?_
    refine WPl.l 10 11 rfl rfl rfl (o_boxa rfl rfl) ?_
    refine WPl.l 11 12 rfl rfl rfl (o_boxa rfl rfl) ?_
    refine WPl.l 12 13 rfl rfl rfl (o_boxa rfl rfl) ?_
    refine WPl.v rfl (o_assign rfl) ?_
    refine WPl.v rfl (o_assign rfl) ?_
    refine WPl.nil (EX.then (WP.seq ?_))
    refine WP.imp (Imp.bit 13 14 (within m 0 ((b.hall.bores.length : Int) - 1)) rfl rfl) ?_
    refine WP.imp (Imp.bit 14 15 ((within m 0 ((b.hall.bores.length : Int) - 1)) && (within ed 0 ((b.hall.eds.length : Int) - 1))) rfl rfl) ?_
    refine WP.draw (nf := 17) [⟨[14, 15, 16, 17, 18, 19, 20, 21, 22, 23, 24, 25, 26, 27, 28, 29, 10], [16], [], [], []⟩, ⟨[13, 15, 10], [16], [], [], []⟩, ⟨[13, 14, 10], [16], [], [], []⟩, ⟨[13, 10], [16], [], [], [1, 2]⟩, ⟨[13, 10], [16], [], [], [1, 2, 3]⟩, ⟨[13, 19, 20, 21, 22, 23, 10], [16], [], [], [1, 2, 3, 4]⟩, ⟨[13, 18, 10], [16], [], [], [1, 2, 3, 4]⟩, ⟨[13, 18, 10], [16], [], [], [1, 2, 3, 4, 6]⟩, ⟨[13, 18, 10], [16], [], [], [1, 2, 3, 4, 6, 7]⟩, ⟨[13, 18, 10], [16], [], [], [1, 2, 3, 4, 6, 7, 8]⟩, ⟨[13, 18, 10], [16], [], [], [1, 2, 3, 4, 6, 7, 8, 9]⟩, ⟨[13, 10], [16], [], [], [1, 2, 3, 4, 5, 6, 7, 8, 9, 10]⟩, ⟨[13, 10], [16], [], [], [1, 2, 3, 4, 5, 6, 7, 8, 9, 10, 11]⟩, ⟨[13, 10], [16], [], [], [1, 2, 3, 4, 5, 6, 7, 8, 9, 10, 11, 12]⟩, ⟨[13, 10], [16], [], [], [1, 2, 3, 4, 5, 6, 7, 8, 9, 10, 11, 12, 13]⟩, ⟨[13, 10], [16], [], [], [1, 2, 3, 4, 5, 6, 7, 8, 9, 10, 11, 12, 13, 14]⟩, ⟨[13, 10], [16], [], [], [1, 2, 3, 4, 5, 6, 7, 8, 9, 10, 11, 12, 13, 14, 15]⟩, ⟨[10], [16], [15], [15], [0, 1, 2, 3, 4, 5, 6, 7, 8, 9, 10, 11, 12, 13, 14, 15, 16]⟩, ⟨[10], [16], [], [], [0, 1, 2, 3, 4, 5, 6, 7, 8, 9, 10, 11, 12, 13, 14, 15, 16, 17]⟩, ⟨[32, 10], [16], [], [], [0, 1, 2, 3, 4, 5, 6, 7, 8, 9, 10, 11, 12, 13, 14, 15, 16, 17, 18]⟩, ⟨[31, 10], [16], [], [], [0, 1, 2, 3, 4, 5, 6, 7, 8, 9, 10, 11, 12, 13, 14, 15, 16, 17, 18]⟩, ⟨[13, 14, 15, 16, 17, 18, 19, 20, 21, 22, 23, 24, 25, 26, 27, 28, 29, 30, 12, 31, 32], [15], [16], [16], []⟩, ⟨[32], [], [], [16], [0, 1, 2, 3, 4, 5, 6, 7, 8, 9, 10, 11, 12, 13, 14, 15, 16, 17, 18, 19, 21]⟩, ⟨[], [], [], [], [0, 1, 2, 3, 4, 5, 6, 7, 8, 9, 10, 11, 12, 13, 14, 15, 16, 17, 18, 19, 20, 21, 22]⟩] (by kernel_rfl) (by kernel_rfl) ?_
    refine DRQ.v rfl rfl rfl (o_ldpa G33 rfl rfl rfl) ?_
    refine DRQ.v rfl rfl rfl (o_ldpa G33 rfl rfl rfl) ?_
    refine DRQ.v rfl rfl rfl (o_ldp S3 rfl rfl rfl) ?_
    refine DRQ.cs rfl rfl rfl rfl (o_sig 15 (ren [(0, 0), (1, 1), (2, 2), (3, 3), (4, 4), (5, 5), (6, 6), (7, 7)]) (c78 b m (by omega)) e78 rfl rfl rfl w78 ⟨(lx rfl), (lx rfl), (lx rfl), (lx rfl), (lx rfl), (lx rfl), (lx rfl), (lx rfl), trivial⟩ r78) ?_
    refine DRQ.v rfl rfl rfl (o_move rfl) ?_
    refine DRQ.gv 13 rfl rfl (.plain rfl Iff.rfl rfl) rfl (fun hb => o_ldp S3 rfl rfl rfl) ?_
    refine DRQ.gv 13 rfl rfl (.plain rfl Iff.rfl rfl) rfl (fun hb => o_fldp F33_0 rfl) ?_
    refine DRQ.gv 13 rfl rfl (.plain rfl Iff.rfl rfl) rfl (fun hb => o_fldp F29_2 rfl) ?_
    refine DRQ.gv 13 rfl rfl (.plain rfl Iff.rfl rfl) rfl (fun hb => o_ldp S27 rfl rfl rfl) ?_
    refine DRQ.gv 13 rfl rfl (.plain rfl Iff.rfl rfl) rfl (fun hb => o_lenq L27 rfl (lx rfl)) ?_
    refine DRQ.gv 13 rfl rfl (.plain rfl Iff.rfl rfl) rfl (fun hb => o_sub rfl rfl (by first | omega | (simp; omega)) (by first | omega | (simp; omega))) ?_
    refine DRQ.gv 13 rfl rfl (.plain rfl Iff.rfl rfl) rfl (fun hb => o_sig 15 id (c79 ed 0 ((b.hall.eds.length : Int) - 1)) e79 rfl rfl rfl w79 trivial r79) ?_
    refine DRQ.v rfl rfl rfl (o_and rfl rfl rfl id) ?_
    refine DRQ.v rfl rfl rfl (o_move rfl) ?_
    refine DRQ.gv 14 rfl rfl (.plain rfl Iff.rfl rfl) rfl (fun hb => o_ldp S3 rfl rfl rfl) ?_
    refine DRQ.gv 14 rfl rfl (.plain rfl Iff.rfl rfl) rfl (fun hb => o_sig 15 id (c80 mi) e80 rfl rfl rfl w80 trivial r80) ?_
    refine DRQ.v rfl rfl rfl (o_and rfl rfl rfl id) ?_
    refine DRQ.cs rfl rfl rfl rfl (o_sig 15 (ren [(0, 0), (1, 1), (2, 2), (3, 3), (4, 4), (5, 5), (6, 6), (7, 7), (8, 8)]) (c77 b (((within m 0 ((b.hall.bores.length : Int) - 1)) && (within ed 0 ((b.hall.eds.length : Int) - 1))) && (within mi 0 99)) hm hcv hrv) e77 rfl rfl rfl w77 ⟨(lx rfl), (lx rfl), (lx rfl), (lx rfl), (lx rfl), (lx rfl), (lx rfl), (lx rfl), (lx rfl), trivial⟩ r77) ?_
    refine DRQ.v rfl rfl rfl (o_move rfl) ?_
    refine DRQ.v rfl rfl rfl (o_extract rfl rfl) ?_
    refine DRQ.v rfl rfl rfl (o_extract rfl rfl) ?_
    refine DRQ.l 16 rfl rfl rfl rfl (o_alloc Z99) ?_
    refine DRQ.s 16 rfl rfl rfl (o_sta S99 rfl rfl rfl (.inl ⟨_, (lx rfl), PP.one⟩) rfl) ?_
    refine DRQ.v rfl rfl rfl (o_assign rfl) ?_
    refine DRQ.nil' ?_
    refine EX.then (WP.seq (WP.seq (WP.region ?_)))
    refine WPl.v rfl (o_move rfl) ?_
    refine WPl.v rfl (o_neq rfl rfl) ?_
    refine WPl.nil (EX.then ?_)
    refine WP.cond rfl (fun hc1 => ?_) (fun hc1 => ?_)
    · try simp only [cnd] at hc1
      simp at hc1
    · try simp only [cnd] at hc1
      refine WP.skip (EX.then (WP.seq (WP.region ?_)))
      refine WPl.v rfl (o_ldp S99 rfl rfl rfl) ?_
      refine WPl.imp (Imp.frzb (E := EBk) (y := b) 9 17 18 rfl rfl (bok_str ⟨⟨_, rfl, (lx rfl)⟩, ⟨_, rfl, (lx rfl)⟩, ⟨_, rfl, (lx rfl)⟩, rfl, ⟨_, rfl, (lx rfl)⟩, ⟨_, rfl, (lx rfl)⟩, ⟨_, rfl, (lx rfl)⟩, ⟨_, rfl, (lx rfl)⟩, rfl, ⟨_, rfl, (lx rfl)⟩, trivial⟩) rfl rfl rfl) ?_
      refine WPl.imp (Imp.frzb (E := EP.int) (y := ed) 11 18 19 rfl rfl (bok_int) rfl rfl rfl) ?_
      refine WPl.imp (Imp.frzb (E := EP.box (PP EBs ((⟨b, stS b⟩ : BookS)))) (y := ()) 16 19 20 rfl rfl (bok_box (lx rfl)) rfl rfl rfl) ?_
      refine WPl.imp (Imp.frzb (E := EP.int) (y := m) 10 20 21 rfl rfl (bok_int) rfl rfl rfl) ?_
      refine WPl.imp (Imp.frzb (E := EP.int) (y := mi) 12 21 22 rfl rfl (bok_int) rfl rfl rfl) ?_
      refine WPl.x 22 23 rfl rfl rfl (o_mkfve (svs := fun (o : (StyB (2 ^ b.tals.length))) => [.e (.a (.v (.int .u64 (o.1 : Int))))]) (X0 := fun (o : (StyB (2 ^ b.tals.length))) => []) (sv := fun (o : (StyB (2 ^ b.tals.length))) => .b ((rdS b m ed mi) o.1)) (X := fun (o : (StyB (2 ^ b.tals.length))) => []) (cs := [.e (.a (.q 0)), .e (.a (.q 1)), .e (.a (.q 2)), .e (.a (.q 3)), .e (.a (.q 4))]) (Xc := [(0, PP EBk (b)), (1, PP EP.int (ed)), (2, PP (EP.box (PP EBs ((⟨b, stS b⟩ : BookS)))) ()), (3, PP EP.int (m)), (4, PP EP.int (mi))]) 22 (ren [(0, 17), (1, 18), (2, 19), (3, 20), (4, 21)]) (fun (o : (StyB (2 ^ b.tals.length))) => (c82 o.1 b m ed mi (Nat.lt_of_lt_of_le o.2 hpo) ht8 (by omega) hm)) e82 (fun _ => rfl) rfl SvsOK.rf (fun _ => (by simp [SV.res, El.res, At.res, keys])) (by simp [SV.res, El.res, At.res, keys]) ⟨(lx rfl), (lx rfl), (lx rfl), (lx rfl), (lx rfl), trivial⟩) ?_
      refine WPl.cs 23 rfl rfl rfl rfl (o_sig 23 (ren [(0, 15), (1, 22)]) (c81 (⟨b, stS b⟩ : BookS) (2 ^ b.tals.length) (rdS b m ed mi) hsl.2 hdm) e81 rfl rfl rfl w81 ⟨(lx rfl), (lx rfl), trivial⟩ r81) ?_
      refine WPl.v rfl (o_assign rfl) ?_
      refine WPl.v rfl (o_assign rfl) ?_
      refine WPl.nil (EX.then (WP.ret ?_))
      rw [hf, show rdV b m ed mi = knownS ⟨b, stS b⟩ (rdS b m ed mi) from if_pos hf]
      exact EX.fin id (.inl rfl) rfl (.tmp rfl (.tmp rfl .nil)) rfl (by simp [SV.res, El.res, At.res, keys]) trivial (by simp) (by simp)
  · skip
    refine Sig.intro Tryz.func21 rfl 9 [(0, .e (.g [.q 0, .q 1, .q 2, ai (b.hall.change), .q 3, .q 4, .q 5, .q 6, ai (b.boys), .q 7])), (1, .i (m)), (2, .i (ed)), (3, .i (mi))] rfl w21 rfl rfl fun I w => ?_
    refine WP.seq (WP.region ?_)
    refine WPl.l 9 10 rfl rfl rfl (o_boxg rfl) ?_
    refine WPl.l 10 11 rfl rfl rfl (o_boxa rfl rfl) ?_
    refine WPl.l 11 12 rfl rfl rfl (o_boxa rfl rfl) ?_
    refine WPl.l 12 13 rfl rfl rfl (o_boxa rfl rfl) ?_
    refine WPl.v rfl (o_assign rfl) ?_
    refine WPl.v rfl (o_assign rfl) ?_
    refine WPl.nil (EX.then (WP.seq ?_))
    refine WP.imp (Imp.bit 13 14 (within m 0 ((b.hall.bores.length : Int) - 1)) rfl rfl) ?_
    refine WP.imp (Imp.bit 14 15 ((within m 0 ((b.hall.bores.length : Int) - 1)) && (within ed 0 ((b.hall.eds.length : Int) - 1))) rfl rfl) ?_
    refine WP.draw (nf := 16) [⟨[14, 15, 16, 17, 18, 19, 20, 21, 22, 23, 24, 25, 26, 27, 28, 29, 10], [15], [], [], []⟩, ⟨[13, 15, 10], [15], [], [], []⟩, ⟨[13, 14, 10], [15], [], [], []⟩, ⟨[13, 10], [15], [], [], [1, 2]⟩, ⟨[13, 10], [15], [], [], [1, 2, 3]⟩, ⟨[13, 19, 20, 21, 22, 23, 10], [15], [], [], [1, 2, 3, 4]⟩, ⟨[13, 18, 10], [15], [], [], [1, 2, 3, 4]⟩, ⟨[13, 18, 10], [15], [], [], [1, 2, 3, 4, 6]⟩, ⟨[13, 18, 10], [15], [], [], [1, 2, 3, 4, 6, 7]⟩, ⟨[13, 18, 10], [15], [], [], [1, 2, 3, 4, 6, 7, 8]⟩, ⟨[13, 18, 10], [15], [], [], [1, 2, 3, 4, 6, 7, 8, 9]⟩, ⟨[13, 10], [15], [], [], [1, 2, 3, 4, 5, 6, 7, 8, 9, 10]⟩, ⟨[13, 10], [15], [], [], [1, 2, 3, 4, 5, 6, 7, 8, 9, 10, 11]⟩, ⟨[13, 10], [15], [], [], [1, 2, 3, 4, 5, 6, 7, 8, 9, 10, 11, 12]⟩, ⟨[13, 10], [15], [], [], [1, 2, 3, 4, 5, 6, 7, 8, 9, 10, 11, 12, 13]⟩, ⟨[13, 10], [15], [], [], [1, 2, 3, 4, 5, 6, 7, 8, 9, 10, 11, 12, 13, 14]⟩, ⟨[13, 10], [15], [], [], [1, 2, 3, 4, 5, 6, 7, 8, 9, 10, 11, 12, 13, 14, 15]⟩, ⟨[10], [15], [], [], [0, 1, 2, 3, 4, 5, 6, 7, 8, 9, 10, 11, 12, 13, 14, 15, 16]⟩, ⟨[10], [15], [], [], [0, 1, 2, 3, 4, 5, 6, 7, 8, 9, 10, 11, 12, 13, 14, 15, 16, 17]⟩, ⟨[32, 10], [15], [], [], [0, 1, 2, 3, 4, 5, 6, 7, 8, 9, 10, 11, 12, 13, 14, 15, 16, 17, 18]⟩, ⟨[31, 10], [15], [], [], [0, 1, 2, 3, 4, 5, 6, 7, 8, 9, 10, 11, 12, 13, 14, 15, 16, 17, 18]⟩, ⟨[13, 14, 15, 16, 17, 18, 19, 20, 21, 22, 23, 24, 25, 26, 27, 28, 29, 30, 12, 31, 32], [], [15], [15], []⟩, ⟨[32], [], [], [15], [0, 1, 2, 3, 4, 5, 6, 7, 8, 9, 10, 11, 12, 13, 14, 15, 16, 17, 18, 19, 21]⟩, ⟨[], [], [], [], [0, 1, 2, 3, 4, 5, 6, 7, 8, 9, 10, 11, 12, 13, 14, 15, 16, 17, 18, 19, 20, 21, 22]⟩] (by kernel_rfl) (by kernel_rfl) ?_
    refine DRQ.v rfl rfl rfl (o_ldpa G33 rfl rfl rfl) ?_
    refine DRQ.v rfl rfl rfl (o_ldpa G33 rfl rfl rfl) ?_
    refine DRQ.v rfl rfl rfl (o_ldp S3 rfl rfl rfl) ?_
    refine DRQ.cs rfl rfl rfl rfl (o_sig 15 (ren [(0, 0), (1, 1), (2, 2), (3, 3), (4, 4), (5, 5), (6, 6), (7, 7)]) (c78 b m (by omega)) e78 rfl rfl rfl w78 ⟨(lx rfl), (lx rfl), (lx rfl), (lx rfl), (lx rfl), (lx rfl), (lx rfl), (lx rfl), trivial⟩ r78) ?_
    refine DRQ.v rfl rfl rfl (o_move rfl) ?_
    refine DRQ.gv 13 rfl rfl (.plain rfl Iff.rfl rfl) rfl (fun hb => o_ldp S3 rfl rfl rfl) ?_
    refine DRQ.gv 13 rfl rfl (.plain rfl Iff.rfl rfl) rfl (fun hb => o_fldp F33_0 rfl) ?_
    refine DRQ.gv 13 rfl rfl (.plain rfl Iff.rfl rfl) rfl (fun hb => o_fldp F29_2 rfl) ?_
    refine DRQ.gv 13 rfl rfl (.plain rfl Iff.rfl rfl) rfl (fun hb => o_ldp S27 rfl rfl rfl) ?_
    refine DRQ.gv 13 rfl rfl (.plain rfl Iff.rfl rfl) rfl (fun hb => o_lenq L27 rfl (lx rfl)) ?_
    refine DRQ.gv 13 rfl rfl (.plain rfl Iff.rfl rfl) rfl (fun hb => o_sub rfl rfl (by first | omega | (simp; omega)) (by first | omega | (simp; omega))) ?_
    refine DRQ.gv 13 rfl rfl (.plain rfl Iff.rfl rfl) rfl (fun hb => o_sig 15 id (c79 ed 0 ((b.hall.eds.length : Int) - 1)) e79 rfl rfl rfl w79 trivial r79) ?_
    refine DRQ.v rfl rfl rfl (o_and rfl rfl rfl id) ?_
    refine DRQ.v rfl rfl rfl (o_move rfl) ?_
    refine DRQ.gv 14 rfl rfl (.plain rfl Iff.rfl rfl) rfl (fun hb => o_ldp S3 rfl rfl rfl) ?_
    refine DRQ.gv 14 rfl rfl (.plain rfl Iff.rfl rfl) rfl (fun hb => o_sig 15 id (c80 mi) e80 rfl rfl rfl w80 trivial r80) ?_
    refine DRQ.v rfl rfl rfl (o_and rfl rfl rfl id) ?_
    refine DRQ.cs rfl rfl rfl rfl (o_sig 15 (ren [(0, 0), (1, 1), (2, 2), (3, 3), (4, 4), (5, 5), (6, 6), (7, 7)]) (c77E b (((within m 0 ((b.hall.bores.length : Int) - 1)) && (within ed 0 ((b.hall.eds.length : Int) - 1))) && (within mi 0 99)) hm hf) e77 rfl rfl rfl w77E ⟨(lx rfl), (lx rfl), (lx rfl), (lx rfl), (lx rfl), (lx rfl), (lx rfl), (lx rfl), trivial⟩ r77E) ?_
    refine DRQ.v rfl rfl rfl (o_move rfl) ?_
    refine DRQ.v rfl rfl rfl (o_extract rfl rfl) ?_
    refine DRQ.v rfl rfl rfl (o_extract rfl rfl) ?_
    refine DRQ.l 15 rfl rfl rfl rfl (o_alloc Z99) ?_
    refine DRQ.s 15 rfl rfl rfl (o_sta S99 rfl rfl rfl rfl rfl) ?_
    refine DRQ.v rfl rfl rfl (o_assign rfl) ?_
    refine DRQ.nil' ?_
    refine EX.then (WP.seq (WP.seq (WP.region ?_)))
    refine WPl.v rfl (o_move rfl) ?_
    refine WPl.v rfl (o_neq rfl rfl) ?_
    refine WPl.nil (EX.then ?_)
    refine WP.cond rfl (fun hc1 => ?_) (fun hc1 => ?_)
    · try simp only [cnd] at hc1
      refine WP.seq (WP.region ?_)
      refine WPl.v rfl (o_move rfl) ?_
      refine WPl.v rfl (o_assign rfl) ?_
      refine WPl.v rfl (o_assign rfl) ?_
      refine WPl.nil (EX.then (WP.ret (EX.ret_then ?_)))
      rw [show rdV b m ed mi = 0 from if_neg hf, show rdE b m ed mi = askE b ((within m 0 ((b.hall.bores.length : Int) - 1) && within ed 0 ((b.hall.eds.length : Int) - 1)) && within mi 0 99) from rfl]
      exact EX.fin id (.inl rfl) rfl (.tmp rfl (.tmp rfl .nil)) rfl (by simp [SV.res, El.res, At.res, keys]) trivial (by simp) (by simp)
    · try simp only [cnd] at hc1
      exact absurd hc1 hf
end Go.Flong
namespace Go.Eng
open Go
section
variable {cx : Cx} {S : St} {dst : Option Tmp} {ty : TypeId} {pos : String} {af : Array Edge} {gd : Option (Nat × Bool)} {x y : Operand} {t t' : TypeId} {a b : Int}
theorem o_rem (hx : S.op x = some (.i a)) (hy : S.op y = some (.i b)) (h1 : 0 ≤ a) (hb : 0 < b ∧ b ≤ 1000000) : OpG cx S ⟨dst, .binOp .rem t x y t', ty, pos, af, gd⟩ (.val (.i (a % b))) := by
  have hb0 : b ≠ 0 := by omega
  have : OpG cx S ⟨dst, .binOp .rem t x y t', ty, pos, af, gd⟩ (.val (.i (a.tmod b))) := o_bin hx hy fun w => by simp [eqGuard, binOp, Op.intDiv, hb0]
  rw [Int.tmod_eq_emod_of_nonneg h1] at this
  exact this
end
end Go.Eng
namespace Go.Flong
open Go Go.Eng Go.Proofs
theorem B77 : BldT Tryz.prog 77 [(0, 1), (1, 1), (2, 1)] [.int .i64 0, .int .i64 0, .int .i64 0] := BldT.mk (ns := [1, 1, 1]) Tryz.underlying77 ⟨Tryz.sizeOf3, Tryz.sizeOf3, Tryz.sizeOf3, trivial⟩ rfl Tryz.zeroValue77 rfl
theorem e36 : Enters' Tryz.prog 36 := Tryz.call36
theorem e102 : Enters' Tryz.prog 102 := Tryz.call102
theorem e35 : Enters' Tryz.prog 35 := Tryz.call35
theorem e115 : Enters' Tryz.prog 115 := Tryz.call115
theorem e116 : Enters' Tryz.prog 116 := Tryz.call116
theorem e117 : Enters' Tryz.prog 117 := Tryz.call117
theorem e29 : Enters' Tryz.prog 29 := Tryz.call29
theorem w36 {l : List Plate} : ∀ x ∈ ([.e (.a (.q 0))] : List SV), x.res (keys (α := Pred) [(0, PL EPl (l))]) := by simp [SV.res, El.res, At.res, keys]
theorem r36 {l : List Plate} : SV.res (keys (α := Pred) [(0, PL EP.int (countsR l))]) (.e (.a (.q 0))) := by simp [SV.res, El.res, At.res, keys]
set_option maxHeartbeats 4000000 in
theorem c36 (l : List Plate) (h : PlsOK l) : Sig Tryz.prog 36 [.e (.a (.q 0))] [(0, PL EPl (l))] (.e (.a (.q 0))) [(0, PL EP.int (countsR l))] := by
  have hn := h.n
  refine Sig.intro Tryz.func36 rfl 1 [(0, .e (.a (.q 0)))] rfl w36 rfl rfl fun I w => ?_
  refine WP.seq (WP.region ?_)
  refine WPl.v rfl (o_assign rfl) ?_
  refine WPl.nil (EX.then (WP.seq (WP.region ?_)))
  refine WPl.l 1 2 rfl rfl rfl (o_make (z := 0) (E := EP.int) 12 R24 (fun _ => rfl) rfl rfl (by first | omega | (simp; omega)) (by first | omega | (simp; omega))) ?_
  refine WPl.v rfl (o_assign rfl) ?_
  refine WPl.nil (EX.then (WP.seq (WP.seq (WP.region ?_))))
  refine WPl.v rfl (o_assign rfl) ?_
  refine WPl.nil (EX.then (WP.block ?_))
  refine WP.loop (Gh := Nat) (fun i => ⟨2, [(0, .e (.a (.q 0))), (2, .e (.a (.v (.slice none 0 0)))), (3, .e (.a (.q 1))), (4, .i ((i : Int)))], [(0, PL EPl (l))], [(1, .own 3 EP.int.size (cntTo l i).length (RP EP.int (cntTo l i)))], [], []⟩) (fun i => i ≤ l.length) (fun i => l.length - i) (0) id ?_ (LeR.of ⟨rfl, rfl, rfl, rfl, trivial⟩ ⟨(lx rfl), trivial⟩ ⟨rfl, trivial⟩ rfl rfl rfl rfl rfl) ?_
  · first | trivial | omega | (constructor <;> omega) | simp
  intro i hφ
  have hi : i ≤ l.length := hφ
  refine WP.seq (WP.seq (WP.region ?_))
  refine WPl.v rfl (o_move rfl) ?_
  refine WPl.v rfl (o_move rfl) ?_
  refine WPl.v rfl (o_lenq L30 rfl (lx rfl)) ?_
  refine WPl.v rfl (o_lss rfl rfl) ?_
  refine WPl.nil (EX.then ?_)
  refine WP.cond rfl (fun hc1 => ?_) (fun hc1 => ?_)
  · try simp only [cnd] at hc1
    have hp := h.p i (by omega)
    have hpi := plc_in (x := (nth l (i : Int)).page) (y := (nth l (i : Int)).bore) (by omega)
    have hcb := cntTo_bnd h (i := i) (by omega) hpi.1 hpi.2
    have hlen := cntTo_len l i
    refine WP.skip (EX.then (WP.seq (WP.block ?_)))
    refine WP.draw (nf := 5) [⟨[13, 14, 15, 16, 17, 18, 19, 20, 21, 22, 23, 26, 27, 28, 29, 30], [2, 3, 4], [], [], []⟩, ⟨[12, 14, 18, 19, 20, 21, 22, 26, 27, 28, 29, 30], [3, 4], [], [], []⟩, ⟨[12, 13, 18, 19, 20, 21, 22, 26, 27, 28, 29, 30], [3, 4], [], [], []⟩, ⟨[12, 18, 19, 20, 21, 22, 26, 27, 28, 29, 30], [3, 4], [2], [2], [1, 2]⟩, ⟨[12, 18, 19, 20, 21, 22, 26, 27, 28, 29, 30], [3, 4], [], [], [1, 2, 3]⟩, ⟨[12, 18, 19, 20, 21, 22, 26, 27, 28, 29, 30], [3, 4], [], [], [1, 2, 3, 4]⟩, ⟨[12, 13, 14, 15, 16, 17, 19, 26, 27, 28, 29, 30], [2, 4], [], [], []⟩, ⟨[12, 13, 14, 15, 16, 17, 18, 26, 27, 28, 29, 30], [2, 4], [], [], []⟩, ⟨[12, 13, 14, 15, 16, 17, 26, 27, 28, 29, 30], [2, 4], [3], [3], [6, 7]⟩, ⟨[12, 13, 14, 15, 16, 17, 26, 27, 28, 29, 30], [2, 4], [], [], [6, 7, 8]⟩, ⟨[12, 13, 14, 15, 16, 17, 26, 27, 28, 29, 30], [2, 4], [], [], [6, 7, 8, 9]⟩, ⟨[12, 26, 27, 28, 29, 30], [4], [], [], [1, 2, 3, 4, 5, 6, 7, 8, 9, 10]⟩, ⟨[26, 27, 28, 29, 30], [4], [], [], [0, 1, 2, 3, 4, 5, 6, 7, 8, 9, 10, 11]⟩, ⟨[26, 27, 28, 29, 30], [4], [], [], [0, 1, 2, 3, 4, 5, 6, 7, 8, 9, 10, 11, 12]⟩, ⟨[12, 13, 14, 15, 16, 17, 18, 19, 20, 21, 22, 23, 24, 25, 27], [2, 3], [], [], []⟩, ⟨[12, 13, 14, 15, 16, 17, 18, 19, 20, 21, 22, 23, 24, 25, 26], [2, 3], [], [], []⟩, ⟨[12, 13, 14, 15, 16, 17, 18, 19, 20, 21, 22, 23, 24, 25], [2, 3], [4], [4], [14, 15]⟩, ⟨[12, 13, 14, 15, 16, 17, 18, 19, 20, 21, 22, 23, 24, 25], [2, 3], [], [], [14, 15, 16]⟩, ⟨[12, 13, 14, 15, 16, 17, 18, 19, 20, 21, 22, 23, 24, 25], [2, 3], [], [], [14, 15, 16, 17]⟩, ⟨[], [], [], [], [0, 1, 2, 3, 4, 5, 6, 7, 8, 9, 10, 11, 12, 13, 14, 15, 16, 17, 18]⟩, ⟨[], [], [], [], [0, 1, 2, 3, 4, 5, 6, 7, 8, 9, 10, 11, 12, 13, 14, 15, 16, 17, 18, 19]⟩, ⟨[], [], [], [1], [0, 1, 2, 3, 4, 5, 6, 7, 8, 9, 10, 11, 12, 13, 14, 15, 16, 17, 18, 19, 20]⟩] (by kernel_rfl) (by kernel_rfl) ?_
    refine DRQ.v rfl rfl rfl (o_move rfl) ?_
    refine DRQ.v rfl rfl rfl (o_move rfl) ?_
    refine DRQ.v rfl rfl rfl (o_move rfl) ?_
    refine DRQ.x 2 rfl rfl rfl rfl (o_idx L30 rfl (lx rfl) rfl (by first | omega | (simp; omega)) (by first | omega | (simp; omega))) ?_
    refine DRQ.v rfl rfl rfl (o_fldq F77_0 rfl (lx rfl)) ?_
    refine DRQ.v rfl rfl rfl (o_lde S3 rfl (lx rfl) (strI rfl)) ?_
    refine DRQ.v rfl rfl rfl (o_move rfl) ?_
    refine DRQ.v rfl rfl rfl (o_move rfl) ?_
    refine DRQ.x 3 rfl rfl rfl rfl (o_idx L30 rfl (lx rfl) rfl (by first | omega | (simp; omega)) (by first | omega | (simp; omega))) ?_
    refine DRQ.v rfl rfl rfl (o_fldq F77_1 rfl (lx rfl)) ?_
    refine DRQ.v rfl rfl rfl (o_lde S3 rfl (lx rfl) (strI rfl)) ?_
    refine DRQ.cs rfl rfl rfl rfl (o_sig 4 id (c101 ((nth l (i : Int)).page) ((nth l (i : Int)).bore) (by omega) (by omega)) e101 rfl rfl rfl w101 trivial r101) ?_
    refine DRQ.v rfl rfl rfl (o_idxo L24 rfl rfl rfl (by first | omega | (simp; omega)) (by first | omega | (simp; omega))) ?_
    refine DRQ.v rfl rfl rfl (o_ldoi S3 rfl rfl rfl rfl (by first | omega | (simp; omega)) (by first | omega | (simp; omega))) ?_
    refine DRQ.v rfl rfl rfl (o_move rfl) ?_
    refine DRQ.v rfl rfl rfl (o_move rfl) ?_
    refine DRQ.x 4 rfl rfl rfl rfl (o_idx L30 rfl (lx rfl) rfl (by first | omega | (simp; omega)) (by first | omega | (simp; omega))) ?_
    refine DRQ.v rfl rfl rfl (o_fldq F77_2 rfl (lx rfl)) ?_
    refine DRQ.v rfl rfl rfl (o_lde S3 rfl (lx rfl) (strI rfl)) ?_
    refine DRQ.v rfl rfl rfl (o_add rfl rfl (by first | omega | (simp; omega)) (by first | omega | (simp; omega))) ?_
    refine DRQ.v rfl rfl rfl (o_idxo L24 rfl rfl rfl (by first | omega | (simp; omega)) (by first | omega | (simp; omega))) ?_
    refine DRQ.s 1 rfl rfl rfl (o_steE2 Tryz.sizeOf3 rfl rfl rfl rfl eok_int rfl rfl rfl (by first | omega | (simp; omega)) (by first | omega | (simp; omega))) ?_
    refine DRQ.nil' ?_
    refine EX.blk (EX.then (WP.region ?_))
    refine WPl.v rfl (o_move rfl) ?_
    refine WPl.v rfl (o_add rfl rfl (by first | omega | (simp; omega)) (by first | omega | (simp; omega))) ?_
    refine WPl.v rfl (o_assign rfl) ?_
    refine WPl.nil ?_
    refine EX.again (i + 1) id (by first | omega | (constructor <;> omega)) (by omega) (LeR.of ⟨rfl, rfl, rfl, rfl, trivial⟩ ⟨(lx rfl), trivial⟩ ⟨rfl, trivial⟩ rfl rfl rfl rfl rfl)
  · try simp only [cnd] at hc1
    refine WP.exit (EX.exit_then (EX.exit_then (EX.exit_blk (EX.then (WP.seq (WP.region ?_))))))
    refine WPl.v rfl (o_move rfl) ?_
    refine WPl.v rfl (o_assign rfl) ?_
    refine WPl.nil (EX.then (WP.ret ?_))
    refine EX.imp (Imp.frz (E := EP.int) (l := cntTo l i) 1 rfl rfl) ?_
    have he : i = l.length := by omega
    subst he
    exact EX.fin (ren [(0, 1)]) (.inl rfl) rfl (.tmp rfl .nil) rfl (by simp [SV.res, El.res, At.res, keys]) ⟨(lx rfl), trivial⟩ (by simp) (by simp)
theorem w36O {l : List Plate} : ∀ x ∈ ([.e (.a (.q 0))] : List SV), x.res (keys (α := Pred) [(0, PL EPl (l))]) := by simp [SV.res, El.res, At.res, keys]
theorem r36O  : SV.res (keys (α := Pred) [(0, Pred.top)]) (.e (.a (.q 0))) := by simp [SV.res, El.res, At.res, keys]
set_option maxHeartbeats 4000000 in
theorem c36O (l : List Plate) (h : PlsOK l) : SigO Tryz.prog 36 [.e (.a (.q 0))] [(0, PL EPl (l))] (.e (.a (.q 0))) [(0, Pred.top)] [(0, .own 3 EP.int.size (countsR l).length (RP EP.int (countsR l)))] := by
  have hn := h.n
  refine SigO.intro Tryz.func36 rfl 1 [(0, .e (.a (.q 0)))] rfl w36O rfl rfl fun I w => ?_
  refine WP.seq (WP.region ?_)
  refine WPl.v rfl (o_assign rfl) ?_
  refine WPl.nil (EX.then (WP.seq (WP.region ?_)))
  refine WPl.l 1 2 rfl rfl rfl (o_make (z := 0) (E := EP.int) 12 R24 (fun _ => rfl) rfl rfl (by first | omega | (simp; omega)) (by first | omega | (simp; omega))) ?_
  refine WPl.v rfl (o_assign rfl) ?_
  refine WPl.nil (EX.then (WP.seq (WP.seq (WP.region ?_))))
  refine WPl.v rfl (o_assign rfl) ?_
  refine WPl.nil (EX.then (WP.block ?_))
  refine WP.loop (Gh := Nat) (fun i => ⟨2, [(0, .e (.a (.q 0))), (2, .e (.a (.v (.slice none 0 0)))), (3, .e (.a (.q 1))), (4, .i ((i : Int)))], [(0, PL EPl (l))], [(1, .own 3 EP.int.size (cntTo l i).length (RP EP.int (cntTo l i)))], [], []⟩) (fun i => i ≤ l.length) (fun i => l.length - i) (0) id ?_ (LeR.of ⟨rfl, rfl, rfl, rfl, trivial⟩ ⟨(lx rfl), trivial⟩ ⟨rfl, trivial⟩ rfl rfl rfl rfl rfl) ?_
  · first | trivial | omega | (constructor <;> omega) | simp
  intro i hφ
  have hi : i ≤ l.length := hφ
  refine WP.seq (WP.seq (WP.region ?_))
  refine WPl.v rfl (o_move rfl) ?_
  refine WPl.v rfl (o_move rfl) ?_
  refine WPl.v rfl (o_lenq L30 rfl (lx rfl)) ?_
  refine WPl.v rfl (o_lss rfl rfl) ?_
  refine WPl.nil (EX.then ?_)
  refine WP.cond rfl (fun hc1 => ?_) (fun hc1 => ?_)
  · try simp only [cnd] at hc1
    have hp := h.p i (by omega)
    have hpi := plc_in (x := (nth l (i : Int)).page) (y := (nth l (i : Int)).bore) (by omega)
    have hcb := cntTo_bnd h (i := i) (by omega) hpi.1 hpi.2
    have hlen := cntTo_len l i
    refine WP.skip (EX.then (WP.seq (WP.block ?_)))
    refine WP.draw (nf := 5) [⟨[13, 14, 15, 16, 17, 18, 19, 20, 21, 22, 23, 26, 27, 28, 29, 30], [2, 3, 4], [], [], []⟩, ⟨[12, 14, 18, 19, 20, 21, 22, 26, 27, 28, 29, 30], [3, 4], [], [], []⟩, ⟨[12, 13, 18, 19, 20, 21, 22, 26, 27, 28, 29, 30], [3, 4], [], [], []⟩, ⟨[12, 18, 19, 20, 21, 22, 26, 27, 28, 29, 30], [3, 4], [2], [2], [1, 2]⟩, ⟨[12, 18, 19, 20, 21, 22, 26, 27, 28, 29, 30], [3, 4], [], [], [1, 2, 3]⟩, ⟨[12, 18, 19, 20, 21, 22, 26, 27, 28, 29, 30], [3, 4], [], [], [1, 2, 3, 4]⟩, ⟨[12, 13, 14, 15, 16, 17, 19, 26, 27, 28, 29, 30], [2, 4], [], [], []⟩, ⟨[12, 13, 14, 15, 16, 17, 18, 26, 27, 28, 29, 30], [2, 4], [], [], []⟩, ⟨[12, 13, 14, 15, 16, 17, 26, 27, 28, 29, 30], [2, 4], [3], [3], [6, 7]⟩, ⟨[12, 13, 14, 15, 16, 17, 26, 27, 28, 29, 30], [2, 4], [], [], [6, 7, 8]⟩, ⟨[12, 13, 14, 15, 16, 17, 26, 27, 28, 29, 30], [2, 4], [], [], [6, 7, 8, 9]⟩, ⟨[12, 26, 27, 28, 29, 30], [4], [], [], [1, 2, 3, 4, 5, 6, 7, 8, 9, 10]⟩, ⟨[26, 27, 28, 29, 30], [4], [], [], [0, 1, 2, 3, 4, 5, 6, 7, 8, 9, 10, 11]⟩, ⟨[26, 27, 28, 29, 30], [4], [], [], [0, 1, 2, 3, 4, 5, 6, 7, 8, 9, 10, 11, 12]⟩, ⟨[12, 13, 14, 15, 16, 17, 18, 19, 20, 21, 22, 23, 24, 25, 27], [2, 3], [], [], []⟩, ⟨[12, 13, 14, 15, 16, 17, 18, 19, 20, 21, 22, 23, 24, 25, 26], [2, 3], [], [], []⟩, ⟨[12, 13, 14, 15, 16, 17, 18, 19, 20, 21, 22, 23, 24, 25], [2, 3], [4], [4], [14, 15]⟩, ⟨[12, 13, 14, 15, 16, 17, 18, 19, 20, 21, 22, 23, 24, 25], [2, 3], [], [], [14, 15, 16]⟩, ⟨[12, 13, 14, 15, 16, 17, 18, 19, 20, 21, 22, 23, 24, 25], [2, 3], [], [], [14, 15, 16, 17]⟩, ⟨[], [], [], [], [0, 1, 2, 3, 4, 5, 6, 7, 8, 9, 10, 11, 12, 13, 14, 15, 16, 17, 18]⟩, ⟨[], [], [], [], [0, 1, 2, 3, 4, 5, 6, 7, 8, 9, 10, 11, 12, 13, 14, 15, 16, 17, 18, 19]⟩, ⟨[], [], [], [1], [0, 1, 2, 3, 4, 5, 6, 7, 8, 9, 10, 11, 12, 13, 14, 15, 16, 17, 18, 19, 20]⟩] (by kernel_rfl) (by kernel_rfl) ?_
    refine DRQ.v rfl rfl rfl (o_move rfl) ?_
    refine DRQ.v rfl rfl rfl (o_move rfl) ?_
    refine DRQ.v rfl rfl rfl (o_move rfl) ?_
    refine DRQ.x 2 rfl rfl rfl rfl (o_idx L30 rfl (lx rfl) rfl (by first | omega | (simp; omega)) (by first | omega | (simp; omega))) ?_
    refine DRQ.v rfl rfl rfl (o_fldq F77_0 rfl (lx rfl)) ?_
    refine DRQ.v rfl rfl rfl (o_lde S3 rfl (lx rfl) (strI rfl)) ?_
    refine DRQ.v rfl rfl rfl (o_move rfl) ?_
    refine DRQ.v rfl rfl rfl (o_move rfl) ?_
    refine DRQ.x 3 rfl rfl rfl rfl (o_idx L30 rfl (lx rfl) rfl (by first | omega | (simp; omega)) (by first | omega | (simp; omega))) ?_
    refine DRQ.v rfl rfl rfl (o_fldq F77_1 rfl (lx rfl)) ?_
    refine DRQ.v rfl rfl rfl (o_lde S3 rfl (lx rfl) (strI rfl)) ?_
    refine DRQ.cs rfl rfl rfl rfl (o_sig 4 id (c101 ((nth l (i : Int)).page) ((nth l (i : Int)).bore) (by omega) (by omega)) e101 rfl rfl rfl w101 trivial r101) ?_
    refine DRQ.v rfl rfl rfl (o_idxo L24 rfl rfl rfl (by first | omega | (simp; omega)) (by first | omega | (simp; omega))) ?_
    refine DRQ.v rfl rfl rfl (o_ldoi S3 rfl rfl rfl rfl (by first | omega | (simp; omega)) (by first | omega | (simp; omega))) ?_
    refine DRQ.v rfl rfl rfl (o_move rfl) ?_
    refine DRQ.v rfl rfl rfl (o_move rfl) ?_
    refine DRQ.x 4 rfl rfl rfl rfl (o_idx L30 rfl (lx rfl) rfl (by first | omega | (simp; omega)) (by first | omega | (simp; omega))) ?_
    refine DRQ.v rfl rfl rfl (o_fldq F77_2 rfl (lx rfl)) ?_
    refine DRQ.v rfl rfl rfl (o_lde S3 rfl (lx rfl) (strI rfl)) ?_
    refine DRQ.v rfl rfl rfl (o_add rfl rfl (by first | omega | (simp; omega)) (by first | omega | (simp; omega))) ?_
    refine DRQ.v rfl rfl rfl (o_idxo L24 rfl rfl rfl (by first | omega | (simp; omega)) (by first | omega | (simp; omega))) ?_
    refine DRQ.s 1 rfl rfl rfl (o_steE2 Tryz.sizeOf3 rfl rfl rfl rfl eok_int rfl rfl rfl (by first | omega | (simp; omega)) (by first | omega | (simp; omega))) ?_
    refine DRQ.nil' ?_
    refine EX.blk (EX.then (WP.region ?_))
    refine WPl.v rfl (o_move rfl) ?_
    refine WPl.v rfl (o_add rfl rfl (by first | omega | (simp; omega)) (by first | omega | (simp; omega))) ?_
    refine WPl.v rfl (o_assign rfl) ?_
    refine WPl.nil ?_
    refine EX.again (i + 1) id (by first | omega | (constructor <;> omega)) (by omega) (LeR.of ⟨rfl, rfl, rfl, rfl, trivial⟩ ⟨(lx rfl), trivial⟩ ⟨rfl, trivial⟩ rfl rfl rfl rfl rfl)
  · try simp only [cnd] at hc1
    refine WP.exit (EX.exit_then (EX.exit_then (EX.exit_blk (EX.then (WP.seq (WP.region ?_))))))
    refine WPl.v rfl (o_move rfl) ?_
    refine WPl.v rfl (o_assign rfl) ?_
    refine WPl.nil (EX.then (WP.ret ?_))
    refine EX.imp (Imp.topX 1 rfl) ?_
    have he : i = l.length := by omega
    subst he
    exact EX.finO (ren [(0, 1)]) rfl (.inl rfl) rfl (.tmp rfl .nil) rfl (by simp [SV.res, El.res, At.res, keys]) ⟨lx rfl, trivial⟩ ⟨rfl, trivial⟩ rfl rfl (by simp) (by simp)
theorem w102 {b : Book} {n : Int} : ∀ x ∈ ([.e (.g [.q 0, .q 1, .q 2, ai (b.hall.change), .q 3, .q 4, .q 5, .q 6, ai (b.boys), .q 7]), .i (n)] : List SV), x.res (keys (α := Pred) [(0, PL ETm (b.hall.machs)), (1, PL EBd (b.hall.buns)), (2, PL EP.int (b.hall.trains)), (3, PL EP.int (b.hall.bores)), (4, PL (EP.sl EP.int) (b.hall.eds)), (5, PL EPl (b.set)), (6, PL EP.int (b.walk)), (7, PL ETa (b.tals))]) := by simp [SV.res, El.res, At.res, keys]
theorem r102 {b : Book} {n : Int} : SV.res (keys (α := Pred) []) (.e (.g [ai ((nth b.tals n).page), ai (nth b.hall.bores (nth b.tals n).mach), ai (1)])) := by simp [SV.res, El.res, At.res, keys]
set_option maxHeartbeats 4000000 in
theorem c102 (b : Book) (n : Int) (hB : BookB b) (hn : 0 ≤ n ∧ n < b.tals.length) : Sig Tryz.prog 102 [.e (.g [.q 0, .q 1, .q 2, ai (b.hall.change), .q 3, .q 4, .q 5, .q 6, ai (b.boys), .q 7]), .i (n)] [(0, PL ETm (b.hall.machs)), (1, PL EBd (b.hall.buns)), (2, PL EP.int (b.hall.trains)), (3, PL EP.int (b.hall.bores)), (4, PL (EP.sl EP.int) (b.hall.eds)), (5, PL EPl (b.set)), (6, PL EP.int (b.walk)), (7, PL ETa (b.tals))] (.e (.g [ai ((nth b.tals n).page), ai (nth b.hall.bores (nth b.tals n).mach), ai (1)])) [] := by
  have ha := hB.a n hn.1 hn.2
  refine Sig.intro Tryz.func102 rfl 8 [(0, .e (.g [.q 0, .q 1, .q 2, ai (b.hall.change), .q 3, .q 4, .q 5, .q 6, ai (b.boys), .q 7])), (1, .i (n))] rfl w102 rfl rfl fun I w => ?_
  refine WP.seq (WP.region ?_)
  refine WPl.l 8 9 rfl rfl rfl (o_boxg rfl) ?_
  refine WPl.l 9 10 rfl rfl rfl (o_alloc Z77) ?_
  refine WPl.nil (EX.then (WP.seq (WP.region ?_)))
  refine WPl.v rfl (o_fldp F33_4 rfl) ?_
  refine WPl.v rfl (o_ldp S31 rfl rfl rfl) ?_
  refine WPl.v rfl (o_move rfl) ?_
  refine WPl.x 10 11 rfl rfl rfl (o_idx L31 rfl (lx rfl) rfl (by first | omega | (simp; omega)) (by first | omega | (simp; omega))) ?_
  refine WPl.v rfl (o_ldqg G58 rfl (lx rfl) (strG rfl) rfl rfl) ?_
  refine WPl.l 11 12 rfl rfl rfl (o_alloc Z58) ?_
  refine WPl.s1 (o_stag G58 rfl rfl rfl ⟨rfl, rfl, rfl, rfl, trivial⟩ rfl rfl) ?_
  refine WPl.nil (EX.then (WP.seq ?_))
  refine WP.draw (nf := 13) [⟨[13, 14, 15, 16, 17, 18, 19], [12], [], [], []⟩, ⟨[13, 14, 15, 16, 17, 18, 19], [12], [], [], [0]⟩, ⟨[11, 12, 16, 17], [], [], [], []⟩, ⟨[11, 12, 16, 17], [], [], [], [2]⟩, ⟨[11, 12, 16, 17], [], [], [], [2, 3]⟩, ⟨[11, 12, 13, 14, 15], [], [], [], []⟩, ⟨[11, 12, 13, 14, 15], [], [], [], [5]⟩, ⟨[11, 12], [], [12], [12], [2, 3, 4, 5, 6]⟩, ⟨[11, 12], [], [], [], [2, 3, 4, 5, 6, 7]⟩, ⟨[], [], [], [], [0, 1, 2, 3, 4, 5, 6, 7, 8]⟩, ⟨[], [], [], [9], [0, 1, 2, 3, 4, 5, 6, 7, 8, 9]⟩] (by kernel_rfl) (by kernel_rfl) ?_
  refine DRQ.v rfl rfl rfl (o_fldp F58_1 rfl) ?_
  refine DRQ.v rfl rfl rfl (o_ldp S3 rfl rfl rfl) ?_
  refine DRQ.v rfl rfl rfl (o_fldp F33_0 rfl) ?_
  refine DRQ.v rfl rfl rfl (o_fldp F29_1 rfl) ?_
  refine DRQ.v rfl rfl rfl (o_ldp S24 rfl rfl rfl) ?_
  refine DRQ.v rfl rfl rfl (o_fldp F58_2 rfl) ?_
  refine DRQ.v rfl rfl rfl (o_ldp S3 rfl rfl rfl) ?_
  refine DRQ.x 12 rfl rfl rfl rfl (o_idx L24 rfl (lx rfl) rfl (by first | omega | (simp; omega)) (by first | omega | (simp; omega))) ?_
  refine DRQ.v rfl rfl rfl (o_ldq S3 rfl (lx rfl) intc) ?_
  refine DRQ.v rfl rfl rfl (o_build B77 rfl ⟨rfl, rfl, rfl, trivial⟩ rfl rfl) ?_
  refine DRQ.s 9 rfl rfl rfl (o_stag G77 rfl rfl rfl ⟨rfl, rfl, rfl, trivial⟩ rfl rfl) ?_
  refine DRQ.nil' ?_
  refine EX.then (WP.ret ?_)
  exact EX.fin id (.inl rfl) rfl (.cellg G77 rfl rfl rfl (.nil)) rfl r102 trivial (by simp) (by simp)
theorem w35 {b : Book} {l : List Int} : ∀ x ∈ ([.e (.g [.q 0, .q 1, .q 2, ai (b.hall.change), .q 3, .q 4, .q 5, .q 6, ai (b.boys), .q 7]), .e (.a (.q 8))] : List SV), x.res (keys (α := Pred) [(0, PL ETm (b.hall.machs)), (1, PL EBd (b.hall.buns)), (2, PL EP.int (b.hall.trains)), (3, PL EP.int (b.hall.bores)), (4, PL (EP.sl EP.int) (b.hall.eds)), (5, PL EPl (b.set)), (6, PL EP.int (b.walk)), (7, PL ETa (b.tals)), (8, PL EP.int (l))]) := by simp [SV.res, El.res, At.res, keys]
theorem r35 {b : Book} {l : List Int} : SV.res (keys (α := Pred) [(0, PL EP.int (broughtR b l))]) (.e (.a (.q 0))) := by simp [SV.res, El.res, At.res, keys]
set_option maxHeartbeats 4000000 in
theorem c35 (b : Book) (l : List Int) (hB : BookB b) (hl : l.length ≤ 1000) (hin : inBook b l) : Sig Tryz.prog 35 [.e (.g [.q 0, .q 1, .q 2, ai (b.hall.change), .q 3, .q 4, .q 5, .q 6, ai (b.boys), .q 7]), .e (.a (.q 8))] [(0, PL ETm (b.hall.machs)), (1, PL EBd (b.hall.buns)), (2, PL EP.int (b.hall.trains)), (3, PL EP.int (b.hall.bores)), (4, PL (EP.sl EP.int) (b.hall.eds)), (5, PL EPl (b.set)), (6, PL EP.int (b.walk)), (7, PL ETa (b.tals)), (8, PL EP.int (l))] (.e (.a (.q 0))) [(0, PL EP.int (broughtR b l))] := by
  refine Sig.intro Tryz.func35 rfl 9 [(0, .e (.g [.q 0, .q 1, .q 2, ai (b.hall.change), .q 3, .q 4, .q 5, .q 6, ai (b.boys), .q 7])), (1, .e (.a (.q 8)))] rfl w35 rfl rfl fun I w => ?_
  refine WP.seq (WP.region ?_)
  refine WPl.l 9 10 rfl rfl rfl (o_boxg rfl) ?_
  refine WPl.v rfl (o_assign rfl) ?_
  refine WPl.nil (EX.then (WP.seq (WP.region ?_)))
  refine WPl.imp (Imp.nam 10 11 (.slice none 0 0) (R := PN EPl) pn_ok rfl rfl) ?_
  refine WPl.cL 12 rfl rfl rfl rfl rfl (o_sigo 11 (ren [(0, 10)]) (c36O [] nilPls) e36 rfl rfl ⟨.inr ⟨_, _, rfl, fun _ => rfl, (lxr rfl)⟩, trivial⟩ w36O ⟨(lxl rfl), trivial⟩ r36O rfl rfl) ?_
  refine WPl.v rfl (o_assign rfl) ?_
  refine WPl.nil (EX.then (WP.seq (WP.seq (WP.region ?_))))
  refine WPl.v rfl (o_assign rfl) ?_
  refine WPl.nil (EX.then (WP.block ?_))
  refine WP.loop (Gh := Nat) (fun i => ⟨12, [(1, .e (.a (.q 8))), (2, .e (.a (.p 9 (0)))), (4, .e (.a (.v (.slice none 0 0)))), (5, .e (.a (.q 11))), (6, .i ((i : Int)))], [(0, PL ETm (b.hall.machs)), (1, PL EBd (b.hall.buns)), (2, PL EP.int (b.hall.trains)), (3, PL EP.int (b.hall.bores)), (4, PL (EP.sl EP.int) (b.hall.eds)), (5, PL EPl (b.set)), (6, PL EP.int (b.walk)), (7, PL ETa (b.tals)), (8, PL EP.int (l))], [(9, .blk [.q 0, .q 1, .q 2, ai (b.hall.change), .q 3, .q 4, .q 5, .q 6, ai (b.boys), .q 7] 33), (11, .own 3 EP.int.size (brR b l i).length (RP EP.int (brR b l i)))], [], []⟩) (fun i => i ≤ l.length) (fun i => l.length - i) (0) id ?_ (LeR.of ⟨rfl, rfl, rfl, rfl, rfl, trivial⟩ ⟨(lx rfl), (lx rfl), (lx rfl), (lx rfl), (lx rfl), (lx rfl), (lx rfl), (lx rfl), (lx rfl), trivial⟩ ⟨rfl, rfl, trivial⟩ rfl rfl rfl rfl rfl) ?_
  · first | trivial | omega | (constructor <;> omega) | simp
  intro i hφ
  have hi : i ≤ l.length := hφ
  refine WP.seq (WP.seq (WP.region ?_))
  refine WPl.v rfl (o_move rfl) ?_
  refine WPl.v rfl (o_move rfl) ?_
  refine WPl.v rfl (o_lenq L24 rfl (lx rfl)) ?_
  refine WPl.v rfl (o_lss rfl rfl) ?_
  refine WPl.nil (EX.then ?_)
  refine WP.cond rfl (fun hc1 => ?_) (fun hc1 => ?_)
  · try simp only [cnd] at hc1
    have hi1 := hin i (by omega)
    have hlc := countsR_len [plateT b (nth l (i : Int))]
    refine WP.skip (EX.then (WP.seq (WP.block (WP.seq ?_))))
    refine WP.draw (nf := 15) [⟨[17, 18, 19, 20], [12], [], [], []⟩, ⟨[16, 18], [], [], [], []⟩, ⟨[16, 17], [], [], [], []⟩, ⟨[16], [], [12], [12], [1, 2]⟩, ⟨[16], [], [], [], [1, 2, 3]⟩, ⟨[], [], [], [], [0, 1, 2, 3, 4]⟩, ⟨[], [], [13], [13], [0, 1, 2, 3, 4, 5]⟩, ⟨[], [], [14], [14], [0, 1, 2, 3, 4, 5, 6]⟩, ⟨[], [], [], [], [0, 1, 2, 3, 4, 5, 6, 7]⟩] (by kernel_rfl) (by kernel_rfl) ?_
    refine DRQ.v rfl rfl rfl (o_ldpa G33 rfl rfl rfl) ?_
    refine DRQ.v rfl rfl rfl (o_move rfl) ?_
    refine DRQ.v rfl rfl rfl (o_move rfl) ?_
    refine DRQ.x 12 rfl rfl rfl rfl (o_idx L24 rfl (lx rfl) rfl (by first | omega | (simp; omega)) (by first | omega | (simp; omega))) ?_
    refine DRQ.v rfl rfl rfl (o_ldq S3 rfl (lx rfl) intc) ?_
    refine DRQ.cs rfl rfl rfl rfl (o_sig 13 (ren [(0, 0), (1, 1), (2, 2), (3, 3), (4, 4), (5, 5), (6, 6), (7, 7)]) (c102 b (nth l (i : Int)) hB hi1) e102 rfl rfl rfl w102 ⟨(lx rfl), (lx rfl), (lx rfl), (lx rfl), (lx rfl), (lx rfl), (lx rfl), (lx rfl), trivial⟩ r102) ?_
    refine DRQ.x 13 rfl rfl rfl rfl (OpG.settle0 (o_bsl (E := EPl) (l := [(plateT b (nth l (i : Int)))]) R30 rfl rfl (.cons (⟨rfl, rfl, rfl, trivial⟩) rfl (eok_str ⟨rfl, rfl, rfl, trivial⟩) (.nil)) rfl rfl)) ?_
    refine DRQ.cs rfl rfl rfl rfl (o_sig 14 (ren [(0, 13)]) (c36 [(plateT b (nth l (i : Int)))] (plateT_ok hB hi1.1 hi1.2)) e36 rfl rfl rfl w36 ⟨(lx rfl), trivial⟩ r36) ?_
    refine DRQ.v rfl rfl rfl (o_assign rfl) ?_
    refine DRQ.nil' ?_
    refine EX.then (WP.seq (WP.region ?_))
    refine WPl.v rfl (o_assign rfl) ?_
    refine WPl.nil (EX.then (WP.block ?_))
    refine WP.loop (Gh := Nat) (fun j => ⟨15, [(1, .e (.a (.q 8))), (2, .e (.a (.p 9 (0)))), (4, .e (.a (.v (.slice none 0 0)))), (5, .e (.a (.q 11))), (6, .i ((i : Int))), (10, .i ((i : Int))), (11, .e (.a (.q 8))), (12, .i ((l.length : Int))), (13, .b (decide ((i : Int) < (l.length : Int)))), (16, .e (.g [.q 0, .q 1, .q 2, ai (b.hall.change), .q 3, .q 4, .q 5, .q 6, ai (b.boys), .q 7])), (17, .e (.a (.q 8))), (18, .i ((i : Int))), (19, .e (.a (.q 12))), (20, .i (nth l (i : Int))), (21, .e (.g [ai ((nth b.tals (nth l (i : Int))).page), ai (nth b.hall.bores (nth b.tals (nth l (i : Int))).mach), ai (1)])), (22, .e (.a (.q 13))), (23, .e (.a (.q 14))), (7, .e (.a (.q 14))), (8, .i ((j : Int)))], [(0, PL ETm (b.hall.machs)), (1, PL EBd (b.hall.buns)), (2, PL EP.int (b.hall.trains)), (3, PL EP.int (b.hall.bores)), (4, PL (EP.sl EP.int) (b.hall.eds)), (5, PL EPl (b.set)), (6, PL EP.int (b.walk)), (7, PL ETa (b.tals)), (8, PL EP.int (l)), (12, PP EP.int (nth l (i : Int))), (13, PL EPl ([(plateT b (nth l (i : Int)))])), (14, PL EP.int (countsR [(plateT b (nth l (i : Int)))]))], [(9, .blk [.q 0, .q 1, .q 2, ai (b.hall.change), .q 3, .q 4, .q 5, .q 6, ai (b.boys), .q 7] 33), (11, .own 3 EP.int.size (addTo (brR b l i) (countsR [plateT b (nth l (i : Int))]) j).length (RP EP.int (addTo (brR b l i) (countsR [plateT b (nth l (i : Int))]) j)))], [], []⟩) (fun j => j ≤ 12) (fun j => 12 - j) (0) id ?_ (LeR.of ⟨rfl, rfl, rfl, rfl, rfl, rfl, rfl, rfl, rfl, rfl, rfl, rfl, rfl, rfl, rfl, rfl, rfl, rfl, rfl, trivial⟩ ⟨(lx rfl), (lx rfl), (lx rfl), (lx rfl), (lx rfl), (lx rfl), (lx rfl), (lx rfl), (lx rfl), (lx rfl), (lx rfl), (lx rfl), trivial⟩ ⟨rfl, rfl, trivial⟩ rfl rfl rfl rfl rfl) ?_
    · first | trivial | omega | (constructor <;> omega) | simp
    intro j hφ
    have hj : j ≤ 12 := hφ
    have hlen : (addTo (brR b l i) (countsR [plateT b (nth l (i : Int))]) j).length = 12 := by rw [addTo_len, brR_len]
    refine WP.seq (WP.seq (WP.region ?_))
    refine WPl.v rfl (o_move rfl) ?_
    refine WPl.v rfl (o_move rfl) ?_
    refine WPl.v rfl (o_leno L24 rfl rfl) ?_
    refine WPl.v rfl (o_lss rfl rfl) ?_
    refine WPl.nil (EX.then ?_)
    refine WP.cond rfl (fun hc2 => ?_) (fun hc2 => ?_)
    · try simp only [cnd] at hc2
      have hab := brAdd_bnd hB hin (i := i) (by omega) (j := j) (by omega) j (by omega)
      refine WP.skip (EX.then (WP.seq (WP.block ?_)))
      refine WP.draw (nf := 16) [⟨[31, 34, 35, 36, 37], [15], [], [], []⟩, ⟨[30, 34, 35, 36, 37], [15], [], [], []⟩, ⟨[34, 35, 36, 37], [15], [], [], [0, 1]⟩, ⟨[34, 35, 36, 37], [15], [], [], [0, 1, 2]⟩, ⟨[30, 31, 32, 33, 35], [], [], [], []⟩, ⟨[30, 31, 32, 33, 34], [], [], [], []⟩, ⟨[30, 31, 32, 33], [], [15], [15], [4, 5]⟩, ⟨[30, 31, 32, 33], [], [], [], [4, 5, 6]⟩, ⟨[], [], [], [], [0, 1, 2, 3, 4, 5, 6, 7]⟩, ⟨[], [], [], [], [0, 1, 2, 3, 4, 5, 6, 7, 8]⟩, ⟨[], [], [], [11], [0, 1, 2, 3, 4, 5, 6, 7, 8, 9]⟩] (by kernel_rfl) (by kernel_rfl) ?_
      refine DRQ.v rfl rfl rfl (o_move rfl) ?_
      refine DRQ.v rfl rfl rfl (o_move rfl) ?_
      refine DRQ.v rfl rfl rfl (o_idxo L24 rfl rfl rfl (by first | omega | (simp; omega)) (by first | omega | (simp; omega))) ?_
      refine DRQ.v rfl rfl rfl (o_ldoi S3 rfl rfl rfl rfl (by first | omega | (simp; omega)) (by first | omega | (simp; omega))) ?_
      refine DRQ.v rfl rfl rfl (o_move rfl) ?_
      refine DRQ.v rfl rfl rfl (o_move rfl) ?_
      refine DRQ.x 15 rfl rfl rfl rfl (o_idx L24 rfl (lx rfl) rfl (by first | omega | (simp; omega)) (by first | omega | (simp; omega))) ?_
      refine DRQ.v rfl rfl rfl (o_ldq S3 rfl (lx rfl) intc) ?_
      refine DRQ.v rfl rfl rfl (o_add rfl rfl (by first | omega | (simp; omega)) (by first | omega | (simp; omega))) ?_
      refine DRQ.v rfl rfl rfl (o_idxo L24 rfl rfl rfl (by first | omega | (simp; omega)) (by first | omega | (simp; omega))) ?_
      refine DRQ.s 11 rfl rfl rfl (o_steE2 Tryz.sizeOf3 rfl rfl rfl rfl eok_int rfl rfl rfl (by first | omega | (simp; omega)) (by first | omega | (simp; omega))) ?_
      refine DRQ.nil' ?_
      refine EX.blk (EX.then (WP.region ?_))
      refine WPl.v rfl (o_move rfl) ?_
      refine WPl.v rfl (o_add rfl rfl (by first | omega | (simp; omega)) (by first | omega | (simp; omega))) ?_
      refine WPl.v rfl (o_assign rfl) ?_
      refine WPl.nil ?_
      refine EX.again (j + 1) id (by first | omega | (constructor <;> omega)) (by omega) (LeR.of ⟨rfl, rfl, rfl, rfl, rfl, rfl, rfl, rfl, rfl, rfl, rfl, rfl, rfl, rfl, rfl, rfl, rfl, rfl, rfl, trivial⟩ ⟨(lx rfl), (lx rfl), (lx rfl), (lx rfl), (lx rfl), (lx rfl), (lx rfl), (lx rfl), (lx rfl), (lx rfl), (lx rfl), (lx rfl), trivial⟩ ⟨rfl, rfl, trivial⟩ rfl rfl rfl rfl rfl)
    · try simp only [cnd] at hc2
      refine WP.exit (EX.exit_then (EX.exit_then (EX.exit_blk (EX.blk (EX.then (WP.region ?_))))))
      refine WPl.v rfl (o_move rfl) ?_
      refine WPl.v rfl (o_add rfl rfl (by first | omega | (simp; omega)) (by first | omega | (simp; omega))) ?_
      refine WPl.v rfl (o_assign rfl) ?_
      refine WPl.nil ?_
      have hje : j = 12 := by omega
      refine EX.again (i + 1) id (by first | omega | (constructor <;> omega)) (by omega) (LeR.of ⟨rfl, rfl, rfl, rfl, rfl, trivial⟩ ⟨(lx rfl), (lx rfl), (lx rfl), (lx rfl), (lx rfl), (lx rfl), (lx rfl), (lx rfl), (lx rfl), trivial⟩ ⟨rfl, (congrArg (fun z => some (Ent.own 3 EP.int.size (List.length z) (RP EP.int z))) (show (addTo (brR b l i) (countsR [plateT b (nth l (i : Int))]) j) = ((fun i => brR b l i) (i + 1)) from by rw [hje]; rfl)), trivial⟩ rfl rfl rfl rfl rfl)
  · try simp only [cnd] at hc1
    refine WP.exit (EX.exit_then (EX.exit_then (EX.exit_blk (EX.then (WP.seq (WP.region ?_))))))
    refine WPl.v rfl (o_move rfl) ?_
    refine WPl.v rfl (o_assign rfl) ?_
    refine WPl.nil (EX.then (WP.ret ?_))
    refine EX.imp (Imp.frz (E := EP.int) (l := brR b l i) 11 rfl rfl) ?_
    have he : i = l.length := by omega
    subst he
    exact EX.fin (ren [(0, 11)]) (.inl rfl) rfl (.tmp rfl .nil) rfl (by simp [SV.res, El.res, At.res, keys]) ⟨(lx rfl), trivial⟩ (by simp) (by simp)
theorem w115 {b : Book} {m n : Int} : ∀ x ∈ ([.e (.g [.q 0, .q 1, .q 2, ai (b.hall.change), .q 3, .q 4, .q 5, .q 6, ai (b.boys), .q 7]), .i (m), .i (n)] : List SV), x.res (keys (α := Pred) [(0, PL ETm (b.hall.machs)), (1, PL EBd (b.hall.buns)), (2, PL EP.int (b.hall.trains)), (3, PL EP.int (b.hall.bores)), (4, PL (EP.sl EP.int) (b.hall.eds)), (5, PL EPl (b.set)), (6, PL EP.int (b.walk)), (7, PL ETa (b.tals))]) := by simp [SV.res, El.res, At.res, keys]
theorem r115 {b : Book} {m n : Int} : SV.res (keys (α := Pred) []) (.b (hurries b (nth b.tals m) (nth b.tals n))) := by simp [SV.res, El.res, At.res, keys]
set_option maxHeartbeats 4000000 in
theorem c115 (b : Book) (m n : Int) (hB : BookB b) (hm : 0 ≤ m ∧ m < b.tals.length) (hn : 0 ≤ n ∧ n < b.tals.length) : Sig Tryz.prog 115 [.e (.g [.q 0, .q 1, .q 2, ai (b.hall.change), .q 3, .q 4, .q 5, .q 6, ai (b.boys), .q 7]), .i (m), .i (n)] [(0, PL ETm (b.hall.machs)), (1, PL EBd (b.hall.buns)), (2, PL EP.int (b.hall.trains)), (3, PL EP.int (b.hall.bores)), (4, PL (EP.sl EP.int) (b.hall.eds)), (5, PL EPl (b.set)), (6, PL EP.int (b.walk)), (7, PL ETa (b.tals))] (.b (hurries b (nth b.tals m) (nth b.tals n))) [] := by
  have ha := hB.a m hm.1 hm.2
  have hc := hB.a n hn.1 hn.2
  have hv1 := hB.v (nth b.tals m).mach.toNat (by have := hB.w; omega)
  have hv2 := hB.v (nth b.tals n).mach.toNat (by have := hB.w; omega)
  rw [show (((nth b.tals m).mach.toNat : Nat) : Int) = (nth b.tals m).mach by omega] at hv1
  rw [show (((nth b.tals n).mach.toNat : Nat) : Int) = (nth b.tals n).mach by omega] at hv2
  have hw := hB.w
  refine Sig.intro Tryz.func115 rfl 8 [(0, .e (.g [.q 0, .q 1, .q 2, ai (b.hall.change), .q 3, .q 4, .q 5, .q 6, ai (b.boys), .q 7])), (1, .i (m)), (2, .i (n))] rfl w115 rfl rfl fun I w => ?_
  refine WP.seq (WP.region ?_)
  refine WPl.l 8 9 rfl rfl rfl (o_boxg rfl) ?_
  refine WPl.v rfl (o_assign rfl) ?_
  refine WPl.nil (EX.then (WP.seq ?_))
  refine WP.draw (nf := 13) [⟨[12, 15, 16, 17, 18, 19, 7, 8], [10, 11, 12], [], [], []⟩, ⟨[12, 15, 16, 17, 18, 19, 7, 8], [10, 11, 12], [], [], [0]⟩, ⟨[10, 11, 15, 16, 17, 18, 19, 7, 8], [10, 11, 12], [], [], []⟩, ⟨[15, 16, 17, 18, 19, 7, 8], [10, 11, 12], [9], [9], [0, 1, 2]⟩, ⟨[15, 16, 17, 18, 19, 7, 8], [10, 11, 12], [], [], [0, 1, 2, 3]⟩, ⟨[10, 11, 12, 13, 14, 17, 7, 8], [9, 11, 12], [], [], []⟩, ⟨[10, 11, 12, 13, 14, 17, 7, 8], [9, 11, 12], [], [], [5]⟩, ⟨[10, 11, 12, 13, 14, 15, 16, 7, 8], [9, 11, 12], [], [], []⟩, ⟨[10, 11, 12, 13, 14, 7, 8], [9, 11, 12], [10], [10], [5, 6, 7]⟩, ⟨[10, 11, 12, 13, 14, 7, 8], [9, 11, 12], [], [], [5, 6, 7, 8]⟩, ⟨[10, 11, 12, 13, 14, 15, 16, 17, 18, 19, 8], [9, 10, 12], [11], [11], []⟩, ⟨[10, 11, 12, 13, 14, 15, 16, 17, 18, 19, 7], [9, 10, 11], [12], [12], []⟩, ⟨[15, 16, 17, 18, 19], [10], [], [11], [0, 1, 2, 3, 4, 10, 11]⟩, ⟨[], [], [], [12], [0, 1, 2, 3, 4, 5, 6, 7, 8, 9, 10, 11, 12]⟩] (by kernel_rfl) (by kernel_rfl) ?_
  refine DRQ.v rfl rfl rfl (o_fldp F33_4 rfl) ?_
  refine DRQ.v rfl rfl rfl (o_ldp S31 rfl rfl rfl) ?_
  refine DRQ.v rfl rfl rfl (o_move rfl) ?_
  refine DRQ.x 9 rfl rfl rfl rfl (o_idx L31 rfl (lx rfl) rfl (by first | omega | (simp; omega)) (by first | omega | (simp; omega))) ?_
  refine DRQ.v rfl rfl rfl (o_ldqg G58 rfl (lx rfl) (strG rfl) rfl rfl) ?_
  refine DRQ.v rfl rfl rfl (o_fldp F33_4 rfl) ?_
  refine DRQ.v rfl rfl rfl (o_ldp S31 rfl rfl rfl) ?_
  refine DRQ.v rfl rfl rfl (o_move rfl) ?_
  refine DRQ.x 10 rfl rfl rfl rfl (o_idx L31 rfl (lx rfl) rfl (by first | omega | (simp; omega)) (by first | omega | (simp; omega))) ?_
  refine DRQ.v rfl rfl rfl (o_ldqg G58 rfl (lx rfl) (strG rfl) rfl rfl) ?_
  refine DRQ.l 11 rfl rfl rfl rfl (o_alloc Z58) ?_
  refine DRQ.l 12 rfl rfl rfl rfl (o_alloc Z58) ?_
  refine DRQ.s 11 rfl rfl rfl (o_stag G58 rfl rfl rfl ⟨rfl, rfl, rfl, rfl, trivial⟩ rfl rfl) ?_
  refine DRQ.s 12 rfl rfl rfl (o_stag G58 rfl rfl rfl ⟨rfl, rfl, rfl, rfl, trivial⟩ rfl rfl) ?_
  refine DRQ.nil' ?_
  refine EX.then (WP.seq (WP.region ?_))
  refine WPl.v rfl (o_fldp F58_3 rfl) ?_
  refine WPl.v rfl (o_ldp S3 rfl rfl rfl) ?_
  refine WPl.v rfl (o_fldp F58_3 rfl) ?_
  refine WPl.v rfl (o_ldp S3 rfl rfl rfl) ?_
  refine WPl.v rfl (o_sub rfl rfl (by first | omega | (simp; omega)) (by first | omega | (simp; omega))) ?_
  refine WPl.v rfl (o_fldp F58_3 rfl) ?_
  refine WPl.v rfl (o_ldp S3 rfl rfl rfl) ?_
  refine WPl.v rfl (o_fldp F58_3 rfl) ?_
  refine WPl.v rfl (o_ldp S3 rfl rfl rfl) ?_
  refine WPl.v rfl (o_sub rfl rfl (by first | omega | (simp; omega)) (by first | omega | (simp; omega))) ?_
  refine WPl.v rfl (o_max rfl rfl) ?_
  refine WPl.v rfl (o_assign rfl) ?_
  refine WPl.nil (EX.then (WP.seq ?_))
  refine WP.imp (Imp.bit 13 14 (decide (((nth b.tals m).boy) = ((nth b.tals n).boy))) rfl rfl) ?_
  refine WP.draw (nf := 16) [⟨[33, 34], [], [], [], []⟩, ⟨[33, 34], [], [], [], [0]⟩, ⟨[31, 32], [], [], [], []⟩, ⟨[31, 32], [], [], [], [2]⟩, ⟨[], [], [], [], [0, 1, 2, 3]⟩, ⟨[], [], [], [], [0, 1, 2, 3, 4]⟩, ⟨[38, 39, 40, 41, 42, 43, 44, 45, 46, 47, 48, 49, 50], [14, 15], [], [], [0, 1, 2, 3, 4, 5]⟩, ⟨[37, 40, 41, 44, 45, 46, 47, 48, 49], [15], [], [], [0, 1, 2, 3, 4, 5]⟩, ⟨[37, 40, 41, 44, 45, 46, 47, 48, 49], [15], [], [], [0, 1, 2, 3, 4, 5, 7]⟩, ⟨[37, 38, 39, 44, 45, 46, 47, 48, 49], [15], [], [], [0, 1, 2, 3, 4, 5]⟩, ⟨[37, 38, 39, 44, 45, 46, 47, 48, 49], [15], [], [], [0, 1, 2, 3, 4, 5, 9]⟩, ⟨[37, 44, 45, 46, 47, 48, 49], [15], [14], [14], [0, 1, 2, 3, 4, 5, 7, 8, 9, 10]⟩, ⟨[37, 44, 45, 46, 47, 48, 49], [15], [], [], [0, 1, 2, 3, 4, 5, 7, 8, 9, 10, 11]⟩, ⟨[37, 38, 39, 40, 41, 42, 43, 46, 47], [14], [], [], [0, 1, 2, 3, 4, 5]⟩, ⟨[37, 38, 39, 40, 41, 42, 43, 46, 47], [14], [], [], [0, 1, 2, 3, 4, 5, 13]⟩, ⟨[37, 38, 39, 40, 41, 42, 43, 44, 45], [14], [], [], [0, 1, 2, 3, 4, 5]⟩, ⟨[37, 38, 39, 40, 41, 42, 43, 44, 45], [14], [], [], [0, 1, 2, 3, 4, 5, 15]⟩, ⟨[37, 38, 39, 40, 41, 42, 43], [14], [15], [15], [0, 1, 2, 3, 4, 5, 13, 14, 15, 16]⟩, ⟨[37, 38, 39, 40, 41, 42, 43], [14], [], [], [0, 1, 2, 3, 4, 5, 13, 14, 15, 16, 17]⟩, ⟨[37], [], [], [], [0, 1, 2, 3, 4, 5, 7, 8, 9, 10, 11, 12, 13, 14, 15, 16, 17, 18]⟩, ⟨[], [], [], [], [0, 1, 2, 3, 4, 5, 6, 7, 8, 9, 10, 11, 12, 13, 14, 15, 16, 17, 18, 19]⟩, ⟨[], [], [], [], [0, 1, 2, 3, 4, 5, 6, 7, 8, 9, 10, 11, 12, 13, 14, 15, 16, 17, 18, 19, 20]⟩, ⟨[], [], [], [], [0, 1, 2, 3, 4, 5, 6, 7, 8, 9, 10, 11, 12, 13, 14, 15, 16, 17, 18, 19, 20, 21]⟩] (by kernel_rfl) (by kernel_rfl) ?_
  refine DRQ.v rfl rfl rfl (o_fldp F58_0 rfl) ?_
  refine DRQ.v rfl rfl rfl (o_ldp S3 rfl rfl rfl) ?_
  refine DRQ.v rfl rfl rfl (o_fldp F58_0 rfl) ?_
  refine DRQ.v rfl rfl rfl (o_ldp S3 rfl rfl rfl) ?_
  refine DRQ.v rfl rfl rfl (o_eql rfl rfl) ?_
  refine DRQ.v rfl rfl rfl (o_move rfl) ?_
  refine DRQ.gv 13 rfl rfl (.plain rfl Iff.rfl rfl) rfl (fun hb => o_move rfl) ?_
  refine DRQ.gv 13 rfl rfl (.plain rfl Iff.rfl rfl) rfl (fun hb => o_fldp F33_2 rfl) ?_
  refine DRQ.gv 13 rfl rfl (.plain rfl Iff.rfl rfl) rfl (fun hb => o_ldp S24 rfl rfl rfl) ?_
  refine DRQ.gv 13 rfl rfl (.plain rfl Iff.rfl rfl) rfl (fun hb => o_fldp F58_2 rfl) ?_
  refine DRQ.gv 13 rfl rfl (.plain rfl Iff.rfl rfl) rfl (fun hb => o_ldp S3 rfl rfl rfl) ?_
  refine DRQ.gx 13 14 rfl rfl (.plain rfl Iff.rfl rfl) rfl rfl (fun hb => o_idx L24 rfl (lx rfl) rfl (by first | omega | (simp; omega)) (by first | omega | (simp; omega))) ?_
  refine DRQ.gv 13 rfl rfl (.plain rfl Iff.rfl rfl) rfl (fun hb => o_ldq S3 rfl (lxi hb rfl) intc) ?_
  refine DRQ.gv 13 rfl rfl (.plain rfl Iff.rfl rfl) rfl (fun hb => o_fldp F33_2 rfl) ?_
  refine DRQ.gv 13 rfl rfl (.plain rfl Iff.rfl rfl) rfl (fun hb => o_ldp S24 rfl rfl rfl) ?_
  refine DRQ.gv 13 rfl rfl (.plain rfl Iff.rfl rfl) rfl (fun hb => o_fldp F58_2 rfl) ?_
  refine DRQ.gv 13 rfl rfl (.plain rfl Iff.rfl rfl) rfl (fun hb => o_ldp S3 rfl rfl rfl) ?_
  refine DRQ.gx 13 15 rfl rfl (.plain rfl Iff.rfl rfl) rfl rfl (fun hb => o_idx L24 rfl (lx rfl) rfl (by first | omega | (simp; omega)) (by first | omega | (simp; omega))) ?_
  refine DRQ.gv 13 rfl rfl (.plain rfl Iff.rfl rfl) rfl (fun hb => o_ldq S3 rfl (lxi hb rfl) intc) ?_
  refine DRQ.gv 13 rfl rfl (.plain rfl Iff.rfl rfl) rfl (fun hb => o_add rfl rfl (by first | omega | (simp; omega)) (by first | omega | (simp; omega))) ?_
  refine DRQ.gv 13 rfl rfl (.plain rfl Iff.rfl rfl) rfl (fun hb => o_lss rfl rfl) ?_
  refine DRQ.v rfl rfl rfl (o_and rfl rfl rfl id) ?_
  refine DRQ.v rfl rfl rfl (o_assign rfl) ?_
  refine DRQ.nil' ?_
  refine EX.then (WP.ret ?_)
  exact EX.fin id (.inl rfl) rfl (.tmp rfl .nil) rfl r115 trivial (by simp) (by simp)
theorem w116 {b : Book} {m n : Int} : ∀ x ∈ ([.e (.g [.q 0, .q 1, .q 2, ai (b.hall.change), .q 3, .q 4, .q 5, .q 6, ai (b.boys), .q 7]), .i (m), .i (n)] : List SV), x.res (keys (α := Pred) [(0, PL ETm (b.hall.machs)), (1, PL EBd (b.hall.buns)), (2, PL EP.int (b.hall.trains)), (3, PL EP.int (b.hall.bores)), (4, PL (EP.sl EP.int) (b.hall.eds)), (5, PL EPl (b.set)), (6, PL EP.int (b.walk)), (7, PL ETa (b.tals))]) := by simp [SV.res, El.res, At.res, keys]
theorem r116 {b : Book} {m n : Int} : SV.res (keys (α := Pred) []) (.b (twiceB b m n)) := by simp [SV.res, El.res, At.res, keys]
set_option maxHeartbeats 4000000 in
theorem c116 (b : Book) (m n : Int) (hB : BookB b) (hm : 0 ≤ m ∧ m < b.tals.length) (hn : 0 ≤ n ∧ n < b.tals.length) : Sig Tryz.prog 116 [.e (.g [.q 0, .q 1, .q 2, ai (b.hall.change), .q 3, .q 4, .q 5, .q 6, ai (b.boys), .q 7]), .i (m), .i (n)] [(0, PL ETm (b.hall.machs)), (1, PL EBd (b.hall.buns)), (2, PL EP.int (b.hall.trains)), (3, PL EP.int (b.hall.bores)), (4, PL (EP.sl EP.int) (b.hall.eds)), (5, PL EPl (b.set)), (6, PL EP.int (b.walk)), (7, PL ETa (b.tals))] (.b (twiceB b m n)) [] := by
  have ha := hB.a m hm.1 hm.2
  have hc := hB.a n hn.1 hn.2
  have hv1 := hB.v (nth b.tals m).mach.toNat (by have := hB.w; omega)
  have hv2 := hB.v (nth b.tals n).mach.toNat (by have := hB.w; omega)
  rw [show (((nth b.tals m).mach.toNat : Nat) : Int) = (nth b.tals m).mach by omega] at hv1
  rw [show (((nth b.tals n).mach.toNat : Nat) : Int) = (nth b.tals n).mach by omega] at hv2
  have hw := hB.w
  refine Sig.intro Tryz.func116 rfl 8 [(0, .e (.g [.q 0, .q 1, .q 2, ai (b.hall.change), .q 3, .q 4, .q 5, .q 6, ai (b.boys), .q 7])), (1, .i (m)), (2, .i (n))] rfl w116 rfl rfl fun I w => ?_
  refine WP.seq (WP.region ?_)
  refine WPl.l 8 9 rfl rfl rfl (o_boxg rfl) ?_
  refine WPl.v rfl (o_assign rfl) ?_
  refine WPl.nil (EX.then (WP.seq ?_))
  refine WP.draw (nf := 13) [⟨[11, 14, 15, 16, 17, 18, 7, 8], [10, 11, 12], [], [], []⟩, ⟨[11, 14, 15, 16, 17, 18, 7, 8], [10, 11, 12], [], [], [0]⟩, ⟨[9, 10, 14, 15, 16, 17, 18, 7, 8], [10, 11, 12], [], [], []⟩, ⟨[14, 15, 16, 17, 18, 7, 8], [10, 11, 12], [9], [9], [0, 1, 2]⟩, ⟨[14, 15, 16, 17, 18, 7, 8], [10, 11, 12], [], [], [0, 1, 2, 3]⟩, ⟨[9, 10, 11, 12, 13, 16, 7, 8], [9, 11, 12], [], [], []⟩, ⟨[9, 10, 11, 12, 13, 16, 7, 8], [9, 11, 12], [], [], [5]⟩, ⟨[9, 10, 11, 12, 13, 14, 15, 7, 8], [9, 11, 12], [], [], []⟩, ⟨[9, 10, 11, 12, 13, 7, 8], [9, 11, 12], [10], [10], [5, 6, 7]⟩, ⟨[9, 10, 11, 12, 13, 7, 8], [9, 11, 12], [], [], [5, 6, 7, 8]⟩, ⟨[9, 10, 11, 12, 13, 14, 15, 16, 17, 18, 8], [9, 10, 12], [11], [11], []⟩, ⟨[9, 10, 11, 12, 13, 14, 15, 16, 17, 18, 7], [9, 10, 11], [12], [12], []⟩, ⟨[14, 15, 16, 17, 18], [10], [], [11], [0, 1, 2, 3, 4, 10, 11]⟩, ⟨[], [], [], [12], [0, 1, 2, 3, 4, 5, 6, 7, 8, 9, 10, 11, 12]⟩] (by kernel_rfl) (by kernel_rfl) ?_
  refine DRQ.v rfl rfl rfl (o_fldp F33_4 rfl) ?_
  refine DRQ.v rfl rfl rfl (o_ldp S31 rfl rfl rfl) ?_
  refine DRQ.v rfl rfl rfl (o_move rfl) ?_
  refine DRQ.x 9 rfl rfl rfl rfl (o_idx L31 rfl (lx rfl) rfl (by first | omega | (simp; omega)) (by first | omega | (simp; omega))) ?_
  refine DRQ.v rfl rfl rfl (o_ldqg G58 rfl (lx rfl) (strG rfl) rfl rfl) ?_
  refine DRQ.v rfl rfl rfl (o_fldp F33_4 rfl) ?_
  refine DRQ.v rfl rfl rfl (o_ldp S31 rfl rfl rfl) ?_
  refine DRQ.v rfl rfl rfl (o_move rfl) ?_
  refine DRQ.x 10 rfl rfl rfl rfl (o_idx L31 rfl (lx rfl) rfl (by first | omega | (simp; omega)) (by first | omega | (simp; omega))) ?_
  refine DRQ.v rfl rfl rfl (o_ldqg G58 rfl (lx rfl) (strG rfl) rfl rfl) ?_
  refine DRQ.l 11 rfl rfl rfl rfl (o_alloc Z58) ?_
  refine DRQ.l 12 rfl rfl rfl rfl (o_alloc Z58) ?_
  refine DRQ.s 11 rfl rfl rfl (o_stag G58 rfl rfl rfl ⟨rfl, rfl, rfl, rfl, trivial⟩ rfl rfl) ?_
  refine DRQ.s 12 rfl rfl rfl (o_stag G58 rfl rfl rfl ⟨rfl, rfl, rfl, rfl, trivial⟩ rfl rfl) ?_
  refine DRQ.nil' ?_
  refine EX.then (WP.seq (WP.region ?_))
  refine WPl.v rfl (o_fldp F58_1 rfl) ?_
  refine WPl.v rfl (o_ldp S3 rfl rfl rfl) ?_
  refine WPl.v rfl (o_fldp F58_1 rfl) ?_
  refine WPl.v rfl (o_ldp S3 rfl rfl rfl) ?_
  refine WPl.v rfl (o_eql rfl rfl) ?_
  refine WPl.v rfl (o_move rfl) ?_
  refine WPl.bit 13 14 (decide (((nth b.tals m).page) = ((nth b.tals n).page))) rfl rfl ?_
  refine WPl.gv 13 rfl rfl (.plain rfl Iff.rfl rfl) (fun hb => o_fldp F58_2 rfl) ?_
  refine WPl.gv 13 rfl rfl (.plain rfl Iff.rfl rfl) (fun hb => o_ldp S3 rfl rfl rfl) ?_
  refine WPl.gv 13 rfl rfl (.plain rfl Iff.rfl rfl) (fun hb => o_fldp F58_2 rfl) ?_
  refine WPl.gv 13 rfl rfl (.plain rfl Iff.rfl rfl) (fun hb => o_ldp S3 rfl rfl rfl) ?_
  refine WPl.gv 13 rfl rfl (.plain rfl Iff.rfl rfl) (fun hb => o_eql rfl rfl) ?_
  refine WPl.v rfl (o_and rfl rfl rfl id) ?_
  refine WPl.v rfl (o_assign rfl) ?_
  refine WPl.nil (EX.then (WP.ret ?_))
  exact EX.fin id (.inl rfl) rfl (.tmp rfl .nil) rfl r116 trivial (by simp) (by simp)
theorem w117 {b : Book} {l : List Int} : ∀ x ∈ ([.e (.g [.q 0, .q 1, .q 2, ai (b.hall.change), .q 3, .q 4, .q 5, .q 6, ai (b.boys), .q 7]), .e (.a (.q 8))] : List SV), x.res (keys (α := Pred) [(0, PL ETm (b.hall.machs)), (1, PL EBd (b.hall.buns)), (2, PL EP.int (b.hall.trains)), (3, PL EP.int (b.hall.bores)), (4, PL (EP.sl EP.int) (b.hall.eds)), (5, PL EPl (b.set)), (6, PL EP.int (b.walk)), (7, PL ETa (b.tals)), (8, PL EP.int (l))]) := by simp [SV.res, El.res, At.res, keys]
theorem r117 {b : Book} {l : List Int} : SV.res (keys (α := Pred) []) (.b (enough b l)) := by simp [SV.res, El.res, At.res, keys]
set_option maxHeartbeats 4000000 in
theorem c117 (b : Book) (l : List Int) (hB : BookB b) (hs : b.set.length ≤ 1000) (hl : l.length ≤ 1000) (hin : inBook b l) : Sig Tryz.prog 117 [.e (.g [.q 0, .q 1, .q 2, ai (b.hall.change), .q 3, .q 4, .q 5, .q 6, ai (b.boys), .q 7]), .e (.a (.q 8))] [(0, PL ETm (b.hall.machs)), (1, PL EBd (b.hall.buns)), (2, PL EP.int (b.hall.trains)), (3, PL EP.int (b.hall.bores)), (4, PL (EP.sl EP.int) (b.hall.eds)), (5, PL EPl (b.set)), (6, PL EP.int (b.walk)), (7, PL ETa (b.tals)), (8, PL EP.int (l))] (.b (enough b l)) [] := by
  have hlb : (broughtR b l).length = 12 := brR_len b l _
  have hlc := countsR_len b.set
  refine Sig.intro Tryz.func117 rfl 9 [(0, .e (.g [.q 0, .q 1, .q 2, ai (b.hall.change), .q 3, .q 4, .q 5, .q 6, ai (b.boys), .q 7])), (1, .e (.a (.q 8)))] rfl w117 rfl rfl fun I w => ?_
  refine WP.seq (WP.region ?_)
  refine WPl.l 9 10 rfl rfl rfl (o_boxg rfl) ?_
  refine WPl.v rfl (o_assign rfl) ?_
  refine WPl.nil (EX.then (WP.seq ?_))
  refine WP.draw (nf := 12) [⟨[9, 11, 12], [], [], [], []⟩, ⟨[8, 11, 12], [], [], [], []⟩, ⟨[11, 12], [], [10], [10], [0, 1]⟩, ⟨[8, 9, 10], [10], [], [], []⟩, ⟨[8, 9, 10], [10], [], [], [3]⟩, ⟨[], [], [11], [11], [0, 1, 2, 3, 4]⟩, ⟨[], [], [], [], [0, 1, 2, 3, 4, 5]⟩, ⟨[], [], [], [], [0, 1, 2, 3, 4, 5, 6]⟩] (by kernel_rfl) (by kernel_rfl) ?_
  refine DRQ.v rfl rfl rfl (o_ldpa G33 rfl rfl rfl) ?_
  refine DRQ.v rfl rfl rfl (o_move rfl) ?_
  refine DRQ.cs rfl rfl rfl rfl (o_sig 10 (ren [(0, 0), (1, 1), (2, 2), (3, 3), (4, 4), (5, 5), (6, 6), (7, 7), (8, 8)]) (c35 b l hB hl hin) e35 rfl rfl rfl w35 ⟨(lx rfl), (lx rfl), (lx rfl), (lx rfl), (lx rfl), (lx rfl), (lx rfl), (lx rfl), (lx rfl), trivial⟩ r35) ?_
  refine DRQ.v rfl rfl rfl (o_fldp F33_1 rfl) ?_
  refine DRQ.v rfl rfl rfl (o_ldp S30 rfl rfl rfl) ?_
  refine DRQ.cs rfl rfl rfl rfl (o_sig 11 (ren [(0, 5)]) (c36 b.set (setPls hB.p hs)) e36 rfl rfl rfl w36 ⟨(lx rfl), trivial⟩ r36) ?_
  refine DRQ.v rfl rfl rfl (o_assign rfl) ?_
  refine DRQ.v rfl rfl rfl (o_assign rfl) ?_
  refine DRQ.nil' ?_
  refine EX.then (WP.seq (WP.seq (WP.region ?_)))
  refine WPl.v rfl (o_assign rfl) ?_
  refine WPl.nil (EX.then (WP.block ?_))
  refine WP.loop (Gh := Nat) (fun i => ⟨12, [(4, .b (false)), (5, .e (.a (.q 10))), (6, .e (.a (.q 11))), (7, .i ((i : Int)))], [(10, PL EP.int (broughtR b l)), (11, PL EP.int (countsR b.set))], [], [], []⟩) (fun i => i ≤ 12 ∧ allI (enAtR b l) i = true) (fun i => 12 - i) (0) id ?_ (LeR.of ⟨rfl, rfl, rfl, rfl, trivial⟩ ⟨(lx rfl), (lx rfl), trivial⟩ trivial rfl rfl rfl rfl rfl) ?_
  · exact ⟨by omega, rfl⟩
  intro i hφ
  have hi : i ≤ 12 := hφ.1
  have hall := hφ.2
  refine WP.seq (WP.seq (WP.region ?_))
  refine WPl.v rfl (o_move rfl) ?_
  refine WPl.v rfl (o_move rfl) ?_
  refine WPl.v rfl (o_lenq L24 rfl (lx rfl)) ?_
  refine WPl.v rfl (o_lss rfl rfl) ?_
  refine WPl.nil (EX.then ?_)
  refine WP.cond rfl (fun hc1 => ?_) (fun hc1 => ?_)
  · try simp only [cnd] at hc1
    refine WP.skip (EX.then (WP.seq (WP.block (WP.seq ?_))))
    refine WP.draw (nf := 14) [⟨[21, 24, 25, 26, 27], [13], [], [], []⟩, ⟨[20, 24, 25, 26, 27], [13], [], [], []⟩, ⟨[24, 25, 26, 27], [13], [12], [12], [0, 1]⟩, ⟨[24, 25, 26, 27], [13], [], [], [0, 1, 2]⟩, ⟨[20, 21, 22, 23, 25], [12], [], [], []⟩, ⟨[20, 21, 22, 23, 24], [12], [], [], []⟩, ⟨[20, 21, 22, 23], [12], [13], [13], [4, 5]⟩, ⟨[20, 21, 22, 23], [12], [], [], [4, 5, 6]⟩, ⟨[], [], [], [], [0, 1, 2, 3, 4, 5, 6, 7]⟩] (by kernel_rfl) (by kernel_rfl) ?_
    refine DRQ.v rfl rfl rfl (o_move rfl) ?_
    refine DRQ.v rfl rfl rfl (o_move rfl) ?_
    refine DRQ.x 12 rfl rfl rfl rfl (o_idx L24 rfl (lx rfl) rfl (by first | omega | (simp; omega)) (by first | omega | (simp; omega))) ?_
    refine DRQ.v rfl rfl rfl (o_ldq S3 rfl (lx rfl) intc) ?_
    refine DRQ.v rfl rfl rfl (o_move rfl) ?_
    refine DRQ.v rfl rfl rfl (o_move rfl) ?_
    refine DRQ.x 13 rfl rfl rfl rfl (o_idx L24 rfl (lx rfl) rfl (by first | omega | (simp; omega)) (by first | omega | (simp; omega))) ?_
    refine DRQ.v rfl rfl rfl (o_ldq S3 rfl (lx rfl) intc) ?_
    refine DRQ.v rfl rfl rfl (o_gtr rfl rfl) ?_
    refine DRQ.nil' ?_
    refine EX.then ?_
    refine WP.cond rfl (fun hc2 => ?_) (fun hc2 => ?_)
    · try simp only [cnd] at hc2
      refine WP.seq (WP.region ?_)
      refine WPl.v rfl (o_assign rfl) ?_
      refine WPl.nil (EX.then (WP.ret (EX.ret_blk (EX.ret_then (EX.ret_then (EX.ret_blk (EX.ret_then ?_)))))))
      rw [show enough b l = false from by rw [enough_iff hB hs hin]; exact not_allI (show i < 12 by omega) (by unfold enAtR; exact decide_eq_false (Int.not_le.2 hc2))]
      exact EX.fin id (.inl rfl) rfl (.tmp rfl .nil) rfl (by simp [SV.res, El.res, At.res, keys]) trivial (by simp) (by simp)
    · try simp only [cnd] at hc2
      refine WP.skip (EX.blk (EX.then (WP.region ?_)))
      refine WPl.v rfl (o_move rfl) ?_
      refine WPl.v rfl (o_add rfl rfl (by first | omega | (simp; omega)) (by first | omega | (simp; omega))) ?_
      refine WPl.v rfl (o_assign rfl) ?_
      refine WPl.nil ?_
      refine EX.again (i + 1) id (by exact ⟨by omega, by simp only [allI, hall, Bool.true_and, enAtR, decide_eq_true_eq]; exact Int.not_lt.1 hc2⟩) (by omega) (LeR.of ⟨rfl, rfl, rfl, rfl, trivial⟩ ⟨(lx rfl), (lx rfl), trivial⟩ trivial rfl rfl rfl rfl rfl)
  · try simp only [cnd] at hc1
    refine WP.exit (EX.exit_then (EX.exit_then (EX.exit_blk (EX.then (WP.seq (WP.region ?_))))))
    refine WPl.v rfl (o_assign rfl) ?_
    refine WPl.nil (EX.then (WP.ret ?_))
    have hie : i = 12 := by omega
    rw [show enough b l = true from by rw [enough_iff hB hs hin, ← hie]; exact hall]
    exact EX.fin id (.inl rfl) rfl (.tmp rfl .nil) rfl (by simp [SV.res, El.res, At.res, keys]) trivial (by simp) (by simp)
theorem w54 {b : Book} {l : List Int} : ∀ x ∈ ([.e (.g [.q 0, .q 1, .q 2, ai (b.hall.change), .q 3, .q 4, .q 5, .q 6, ai (b.boys), .q 7]), .e (.a (.q 8))] : List SV), x.res (keys (α := Pred) [(0, PL ETm (b.hall.machs)), (1, PL EBd (b.hall.buns)), (2, PL EP.int (b.hall.trains)), (3, PL EP.int (b.hall.bores)), (4, PL (EP.sl EP.int) (b.hall.eds)), (5, PL EPl (b.set)), (6, PL EP.int (b.walk)), (7, PL ETa (b.tals)), (8, PL EP.int (l))]) := by simp [SV.res, El.res, At.res, keys]
theorem r54 {b : Book} {l : List Int} : SV.res (keys (α := Pred) []) (.b (good b l)) := by simp [SV.res, El.res, At.res, keys]
set_option maxHeartbeats 4000000 in
theorem c54 (b : Book) (l : List Int) (hB : BookB b) (hs : b.set.length ≤ 1000) (hl : l.length ≤ 1000) (hin : inBook b l) : Sig Tryz.prog 54 [.e (.g [.q 0, .q 1, .q 2, ai (b.hall.change), .q 3, .q 4, .q 5, .q 6, ai (b.boys), .q 7]), .e (.a (.q 8))] [(0, PL ETm (b.hall.machs)), (1, PL EBd (b.hall.buns)), (2, PL EP.int (b.hall.trains)), (3, PL EP.int (b.hall.bores)), (4, PL (EP.sl EP.int) (b.hall.eds)), (5, PL EPl (b.set)), (6, PL EP.int (b.walk)), (7, PL ETa (b.tals)), (8, PL EP.int (l))] (.b (good b l)) [] := by
  refine Sig.intro Tryz.func54 rfl 9 [(0, .e (.g [.q 0, .q 1, .q 2, ai (b.hall.change), .q 3, .q 4, .q 5, .q 6, ai (b.boys), .q 7])), (1, .e (.a (.q 8)))] rfl w54 rfl rfl fun I w => ?_
  refine WP.seq (WP.region ?_)
  refine WPl.l 9 10 rfl rfl rfl (o_boxg rfl) ?_
  refine WPl.v rfl (o_assign rfl) ?_
  refine WPl.nil (EX.then (WP.seq (WP.seq (WP.region ?_))))
  refine WPl.v rfl (o_assign rfl) ?_
  refine WPl.nil (EX.then (WP.block ?_))
  refine WP.loop (Gh := Nat) (fun i => ⟨10, [(1, .e (.a (.q 8))), (2, .e (.a (.p 9 (0)))), (4, .b (false)), (5, .i ((i : Int)))], [(0, PL ETm (b.hall.machs)), (1, PL EBd (b.hall.buns)), (2, PL EP.int (b.hall.trains)), (3, PL EP.int (b.hall.bores)), (4, PL (EP.sl EP.int) (b.hall.eds)), (5, PL EPl (b.set)), (6, PL EP.int (b.walk)), (7, PL ETa (b.tals)), (8, PL EP.int (l))], [(9, .blk [.q 0, .q 1, .q 2, ai (b.hall.change), .q 3, .q 4, .q 5, .q 6, ai (b.boys), .q 7] 33)], [], []⟩) (fun i => i ≤ l.length ∧ allI (sepRow b l) i = true) (fun i => l.length - i) (0) id ?_ (LeR.of ⟨rfl, rfl, rfl, rfl, trivial⟩ ⟨(lx rfl), (lx rfl), (lx rfl), (lx rfl), (lx rfl), (lx rfl), (lx rfl), (lx rfl), (lx rfl), trivial⟩ ⟨rfl, trivial⟩ rfl rfl rfl rfl rfl) ?_
  · exact ⟨by omega, rfl⟩
  intro i hφ
  have hi : i ≤ l.length := hφ.1
  have hall := hφ.2
  refine WP.seq (WP.seq (WP.region ?_))
  refine WPl.v rfl (o_move rfl) ?_
  refine WPl.v rfl (o_move rfl) ?_
  refine WPl.v rfl (o_lenq L24 rfl (lx rfl)) ?_
  refine WPl.v rfl (o_lss rfl rfl) ?_
  refine WPl.nil (EX.then ?_)
  refine WP.cond rfl (fun hc1 => ?_) (fun hc1 => ?_)
  · try simp only [cnd] at hc1
    refine WP.skip (EX.then (WP.seq (WP.block (WP.seq (WP.region ?_)))))
    refine WPl.v rfl (o_assign rfl) ?_
    refine WPl.nil (EX.then (WP.block ?_))
    refine WP.loop (Gh := Nat) (fun j => ⟨10, [(1, .e (.a (.q 8))), (2, .e (.a (.p 9 (0)))), (4, .b (false)), (5, .i ((i : Int))), (7, .i ((i : Int))), (8, .e (.a (.q 8))), (9, .i ((l.length : Int))), (10, .b (decide ((i : Int) < (l.length : Int)))), (6, .i ((j : Int)))], [(0, PL ETm (b.hall.machs)), (1, PL EBd (b.hall.buns)), (2, PL EP.int (b.hall.trains)), (3, PL EP.int (b.hall.bores)), (4, PL (EP.sl EP.int) (b.hall.eds)), (5, PL EPl (b.set)), (6, PL EP.int (b.walk)), (7, PL ETa (b.tals)), (8, PL EP.int (l))], [(9, .blk [.q 0, .q 1, .q 2, ai (b.hall.change), .q 3, .q 4, .q 5, .q 6, ai (b.boys), .q 7] 33)], [], []⟩) (fun j => j ≤ i ∧ allI (sepAt b l i) j = true) (fun j => i - j) (0) id ?_ (LeR.of ⟨rfl, rfl, rfl, rfl, rfl, rfl, rfl, rfl, rfl, trivial⟩ ⟨(lx rfl), (lx rfl), (lx rfl), (lx rfl), (lx rfl), (lx rfl), (lx rfl), (lx rfl), (lx rfl), trivial⟩ ⟨rfl, trivial⟩ rfl rfl rfl rfl rfl) ?_
    · exact ⟨by omega, rfl⟩
    intro j hφ
    have hj : j ≤ i := hφ.1
    have hrow := hφ.2
    refine WP.seq (WP.seq (WP.region ?_))
    refine WPl.v rfl (o_move rfl) ?_
    refine WPl.v rfl (o_move rfl) ?_
    refine WPl.v rfl (o_lss rfl rfl) ?_
    refine WPl.nil (EX.then ?_)
    refine WP.cond rfl (fun hc2 => ?_) (fun hc2 => ?_)
    · try simp only [cnd] at hc2
      refine WP.skip (EX.then (WP.seq (WP.block (WP.seq ?_))))
      refine WP.imp (Imp.bit 10 11 (!(hurries b (nth b.tals (nth l (i : Int))) (nth b.tals (nth l (j : Int))))) rfl rfl) ?_
      refine WP.draw (nf := 15) [⟨[19, 20, 21, 22, 23, 24, 25, 26], [11, 12], [], [], []⟩, ⟨[18, 20, 23, 24, 25, 26], [12], [], [], []⟩, ⟨[18, 19, 23, 24, 25, 26], [12], [], [], []⟩, ⟨[18, 23, 24, 25, 26], [12], [11], [11], [1, 2]⟩, ⟨[18, 23, 24, 25, 26], [12], [], [], [1, 2, 3]⟩, ⟨[18, 19, 20, 21, 22, 24], [11], [], [], []⟩, ⟨[18, 19, 20, 21, 22, 23], [11], [], [], []⟩, ⟨[18, 19, 20, 21, 22], [11], [12], [12], [5, 6]⟩, ⟨[18, 19, 20, 21, 22], [11], [], [], [5, 6, 7]⟩, ⟨[], [], [], [], [0, 1, 2, 3, 4, 5, 6, 7, 8]⟩, ⟨[], [], [], [], [0, 1, 2, 3, 4, 5, 6, 7, 8, 9]⟩, ⟨[30, 31, 32, 33, 34, 35, 36, 37], [13, 14], [], [], [0, 1, 2, 3, 4, 5, 6, 7, 8, 9, 10]⟩, ⟨[29, 31, 34, 35, 36, 37], [14], [], [], [0, 1, 2, 3, 4, 5, 6, 7, 8, 9, 10]⟩, ⟨[29, 30, 34, 35, 36, 37], [14], [], [], [0, 1, 2, 3, 4, 5, 6, 7, 8, 9, 10]⟩, ⟨[29, 34, 35, 36, 37], [14], [13], [13], [0, 1, 2, 3, 4, 5, 6, 7, 8, 9, 10, 12, 13]⟩, ⟨[29, 34, 35, 36, 37], [14], [], [], [0, 1, 2, 3, 4, 5, 6, 7, 8, 9, 10, 12, 13, 14]⟩, ⟨[29, 30, 31, 32, 33, 35], [13], [], [], [0, 1, 2, 3, 4, 5, 6, 7, 8, 9, 10]⟩, ⟨[29, 30, 31, 32, 33, 34], [13], [], [], [0, 1, 2, 3, 4, 5, 6, 7, 8, 9, 10]⟩, ⟨[29, 30, 31, 32, 33], [13], [14], [14], [0, 1, 2, 3, 4, 5, 6, 7, 8, 9, 10, 16, 17]⟩, ⟨[29, 30, 31, 32, 33], [13], [], [], [0, 1, 2, 3, 4, 5, 6, 7, 8, 9, 10, 16, 17, 18]⟩, ⟨[], [], [], [], [0, 1, 2, 3, 4, 5, 6, 7, 8, 9, 10, 11, 12, 13, 14, 15, 16, 17, 18, 19]⟩, ⟨[], [], [], [], [0, 1, 2, 3, 4, 5, 6, 7, 8, 9, 10, 11, 12, 13, 14, 15, 16, 17, 18, 19, 20]⟩] (by kernel_rfl) (by kernel_rfl) ?_
      refine DRQ.v rfl rfl rfl (o_ldpa G33 rfl rfl rfl) ?_
      refine DRQ.v rfl rfl rfl (o_move rfl) ?_
      refine DRQ.v rfl rfl rfl (o_move rfl) ?_
      refine DRQ.x 11 rfl rfl rfl rfl (o_idx L24 rfl (lx rfl) rfl (by first | omega | (simp; omega)) (by first | omega | (simp; omega))) ?_
      refine DRQ.v rfl rfl rfl (o_ldq S3 rfl (lx rfl) intc) ?_
      refine DRQ.v rfl rfl rfl (o_move rfl) ?_
      refine DRQ.v rfl rfl rfl (o_move rfl) ?_
      refine DRQ.x 12 rfl rfl rfl rfl (o_idx L24 rfl (lx rfl) rfl (by first | omega | (simp; omega)) (by first | omega | (simp; omega))) ?_
      refine DRQ.v rfl rfl rfl (o_ldq S3 rfl (lx rfl) intc) ?_
      refine DRQ.cs rfl rfl rfl rfl (o_sig 13 (ren [(0, 0), (1, 1), (2, 2), (3, 3), (4, 4), (5, 5), (6, 6), (7, 7)]) (c115 b (nth l (i : Int)) (nth l (j : Int)) hB (hin i (by omega)) (hin j (by omega))) e115 rfl rfl rfl w115 ⟨(lx rfl), (lx rfl), (lx rfl), (lx rfl), (lx rfl), (lx rfl), (lx rfl), (lx rfl), trivial⟩ r115) ?_
      refine DRQ.v rfl rfl rfl (o_move rfl) ?_
      refine DRQ.gv 10 rfl rfl (.plain rfl (by first | (simp; done) | simp only [Bool.not_eq_true']) rfl) rfl (fun hb => o_ldpa G33 rfl rfl rfl) ?_
      refine DRQ.gv 10 rfl rfl (.plain rfl (by first | (simp; done) | simp only [Bool.not_eq_true']) rfl) rfl (fun hb => o_move rfl) ?_
      refine DRQ.gv 10 rfl rfl (.plain rfl (by first | (simp; done) | simp only [Bool.not_eq_true']) rfl) rfl (fun hb => o_move rfl) ?_
      refine DRQ.gx 10 13 rfl rfl (.plain rfl (by first | (simp; done) | simp only [Bool.not_eq_true']) rfl) rfl rfl (fun hb => o_idx L24 rfl (lx rfl) rfl (by first | omega | (simp; omega)) (by first | omega | (simp; omega))) ?_
      refine DRQ.gv 10 rfl rfl (.plain rfl (by first | (simp; done) | simp only [Bool.not_eq_true']) rfl) rfl (fun hb => o_ldq S3 rfl (lxi hb rfl) intc) ?_
      refine DRQ.gv 10 rfl rfl (.plain rfl (by first | (simp; done) | simp only [Bool.not_eq_true']) rfl) rfl (fun hb => o_move rfl) ?_
      refine DRQ.gv 10 rfl rfl (.plain rfl (by first | (simp; done) | simp only [Bool.not_eq_true']) rfl) rfl (fun hb => o_move rfl) ?_
      refine DRQ.gx 10 14 rfl rfl (.plain rfl (by first | (simp; done) | simp only [Bool.not_eq_true']) rfl) rfl rfl (fun hb => o_idx L24 rfl (lx rfl) rfl (by first | omega | (simp; omega)) (by first | omega | (simp; omega))) ?_
      refine DRQ.gv 10 rfl rfl (.plain rfl (by first | (simp; done) | simp only [Bool.not_eq_true']) rfl) rfl (fun hb => o_ldq S3 rfl (lxi hb rfl) intc) ?_
      refine DRQ.gv 10 rfl rfl (.plain rfl (by first | (simp; done) | simp only [Bool.not_eq_true']) rfl) rfl (fun hb => o_sig 15 (ren [(0, 0), (1, 1), (2, 2), (3, 3), (4, 4), (5, 5), (6, 6), (7, 7)]) (c116 b (nth l (i : Int)) (nth l (j : Int)) hB (hin i (by omega)) (hin j (by omega))) e116 rfl rfl rfl w116 ⟨(lx rfl), (lx rfl), (lx rfl), (lx rfl), (lx rfl), (lx rfl), (lx rfl), (lx rfl), trivial⟩ r116) ?_
      refine DRQ.v rfl rfl rfl (o_or rfl rfl rfl (by first | (simp; done) | exact fun h => by rw [h]; rfl | exact fun h => Bool.and_eq_true_iff.2 ⟨hb, by rw [h]; rfl⟩ | simp_all)) ?_
      refine DRQ.nil' ?_
      refine EX.then ?_
      refine WP.cond rfl (fun hc3 => ?_) (fun hc3 => ?_)
      · try simp only [cnd] at hc3
        refine WP.seq (WP.region ?_)
        refine WPl.v rfl (o_assign rfl) ?_
        refine WPl.nil (EX.then (WP.ret (EX.ret_blk (EX.ret_then (EX.ret_then (EX.ret_blk (EX.ret_blk (EX.ret_then (EX.ret_then (EX.ret_blk (EX.ret_then ?_)))))))))))
        rw [show good b l = false from by rw [good_sep, not_allI (show i < l.length by omega) (by unfold sepRow; exact not_allI (show j < i by omega) (by unfold sepAt; simp only [Bool.not_eq_false', Bool.or_eq_true]; exact hc3))]; rfl]
        exact EX.fin id (.inl rfl) rfl (.tmp rfl .nil) rfl (by simp [SV.res, El.res, At.res, keys]) trivial (by simp) (by simp)
      · try simp only [cnd] at hc3
        refine WP.skip (EX.blk (EX.then (WP.region ?_)))
        refine WPl.v rfl (o_move rfl) ?_
        refine WPl.v rfl (o_add rfl rfl (by first | omega | (simp; omega)) (by first | omega | (simp; omega))) ?_
        refine WPl.v rfl (o_assign rfl) ?_
        refine WPl.nil ?_
        refine EX.again (j + 1) id (by exact ⟨by omega, by simp only [allI, hrow, Bool.true_and]; unfold sepAt; simp only [Bool.not_eq_true', Bool.or_eq_false_iff]; exact hc3⟩) (by omega) (LeR.of ⟨rfl, rfl, rfl, rfl, rfl, rfl, rfl, rfl, rfl, trivial⟩ ⟨(lx rfl), (lx rfl), (lx rfl), (lx rfl), (lx rfl), (lx rfl), (lx rfl), (lx rfl), (lx rfl), trivial⟩ ⟨rfl, trivial⟩ rfl rfl rfl rfl rfl)
    · try simp only [cnd] at hc2
      refine WP.exit (EX.exit_then (EX.exit_then (EX.exit_blk (EX.blk (EX.then (WP.region ?_))))))
      refine WPl.v rfl (o_move rfl) ?_
      refine WPl.v rfl (o_add rfl rfl (by first | omega | (simp; omega)) (by first | omega | (simp; omega))) ?_
      refine WPl.v rfl (o_assign rfl) ?_
      refine WPl.nil ?_
      have hje : j = i := by omega
      refine EX.again (i + 1) id (by exact ⟨by omega, by simp only [allI, hall, Bool.true_and]; unfold sepRow; rw [hje] at hrow; exact hrow⟩) (by omega) (LeR.of ⟨rfl, rfl, rfl, rfl, trivial⟩ ⟨(lx rfl), (lx rfl), (lx rfl), (lx rfl), (lx rfl), (lx rfl), (lx rfl), (lx rfl), (lx rfl), trivial⟩ ⟨rfl, trivial⟩ rfl rfl rfl rfl rfl)
  · try simp only [cnd] at hc1
    refine WP.exit (EX.exit_then (EX.exit_then (EX.exit_blk (EX.then (WP.seq (WP.region ?_))))))
    refine WPl.v rfl (o_ldpa G33 rfl rfl rfl) ?_
    refine WPl.v rfl (o_move rfl) ?_
    refine WPl.cs 10 rfl rfl rfl rfl (o_sig 10 (ren [(0, 0), (1, 1), (2, 2), (3, 3), (4, 4), (5, 5), (6, 6), (7, 7), (8, 8)]) (c117 b l hB hs hl hin) e117 rfl rfl rfl w117 ⟨(lx rfl), (lx rfl), (lx rfl), (lx rfl), (lx rfl), (lx rfl), (lx rfl), (lx rfl), (lx rfl), trivial⟩ r117) ?_
    refine WPl.v rfl (o_assign rfl) ?_
    refine WPl.nil (EX.then (WP.ret ?_))
    rw [show good b l = enough b l from by rw [good_sep, show l.length = i by omega, hall]; rfl]
    exact EX.fin id (.inl rfl) rfl (.tmp rfl .nil) rfl (by simp [SV.res, El.res, At.res, keys]) trivial (by simp) (by simp)
theorem w34 {b : Book} {l : List Int} : ∀ x ∈ ([.e (.g [.q 0, .q 1, .q 2, ai (b.hall.change), .q 3, .q 4, .q 5, .q 6, ai (b.boys), .q 7]), .e (.a (.q 8))] : List SV), x.res (keys (α := Pred) [(0, PL ETm (b.hall.machs)), (1, PL EBd (b.hall.buns)), (2, PL EP.int (b.hall.trains)), (3, PL EP.int (b.hall.bores)), (4, PL (EP.sl EP.int) (b.hall.eds)), (5, PL EPl (b.set)), (6, PL EP.int (b.walk)), (7, PL ETa (b.tals)), (8, PL EP.int (l))]) := by simp [SV.res, El.res, At.res, keys]
theorem r34 {b : Book} {l : List Int} : SV.res (keys (α := Pred) [(0, PL EP.int (othersR b l))]) (.e (.a (.q 0))) := by simp [SV.res, El.res, At.res, keys]
set_option maxHeartbeats 4000000 in
theorem c34 (b : Book) (l : List Int) (h8 : b.tals.length ≤ 1000) (hl : l.length ≤ 1000000) : Sig Tryz.prog 34 [.e (.g [.q 0, .q 1, .q 2, ai (b.hall.change), .q 3, .q 4, .q 5, .q 6, ai (b.boys), .q 7]), .e (.a (.q 8))] [(0, PL ETm (b.hall.machs)), (1, PL EBd (b.hall.buns)), (2, PL EP.int (b.hall.trains)), (3, PL EP.int (b.hall.bores)), (4, PL (EP.sl EP.int) (b.hall.eds)), (5, PL EPl (b.set)), (6, PL EP.int (b.walk)), (7, PL ETa (b.tals)), (8, PL EP.int (l))] (.e (.a (.q 0))) [(0, PL EP.int (othersR b l))] := by
  refine Sig.intro Tryz.func34 rfl 9 [(0, .e (.g [.q 0, .q 1, .q 2, ai (b.hall.change), .q 3, .q 4, .q 5, .q 6, ai (b.boys), .q 7])), (1, .e (.a (.q 8)))] rfl w34 rfl rfl fun I w => ?_
  refine WP.seq (WP.region ?_)
  refine WPl.l 9 10 rfl rfl rfl (o_boxg rfl) ?_
  refine WPl.v rfl (o_assign rfl) ?_
  refine WPl.nil (EX.then (WP.seq (WP.region ?_)))
  refine WPl.v rfl (o_assign rfl) ?_
  refine WPl.imp (Imp.namo EP.int 10 11 3 rfl rfl) ?_
  refine WPl.imp (Imp.swF 5 10 rfl (lx rfl)) ?_
  refine WPl.nil (EX.then (WP.seq (WP.seq (WP.region ?_))))
  refine WPl.v rfl (o_assign rfl) ?_
  refine WPl.nil (EX.then (WP.block ?_))
  refine WP.loop (Gh := Nat) (fun i => ⟨11, [(1, .e (.a (.q 8))), (2, .e (.a (.p 9 (0)))), (4, .e (.a (.v (.slice none 0 0)))), (5, .e (.a (.q 10))), (6, .i ((i : Int)))], [(0, PL ETm (b.hall.machs)), (1, PL EBd (b.hall.buns)), (2, PL EP.int (b.hall.trains)), (3, PL EP.int (b.hall.bores)), (4, PL (EP.sl EP.int) (b.hall.eds)), (5, PL EPl (b.set)), (6, PL EP.int (b.walk)), (7, PL ETa (b.tals)), (8, PL EP.int (l))], [(9, .blk [.q 0, .q 1, .q 2, ai (b.hall.change), .q 3, .q 4, .q 5, .q 6, ai (b.boys), .q 7] 33), (10, .own 3 EP.int.size (otTo l i).length (RP EP.int (otTo l i)))], [], []⟩) (fun i => i ≤ b.tals.length) (fun i => b.tals.length - i) (0) id ?_ (LeR.of ⟨rfl, rfl, rfl, rfl, rfl, trivial⟩ ⟨(lx rfl), (lx rfl), (lx rfl), (lx rfl), (lx rfl), (lx rfl), (lx rfl), (lx rfl), (lx rfl), trivial⟩ ⟨rfl, rfl, trivial⟩ rfl rfl rfl rfl rfl) ?_
  · first | trivial | omega | (constructor <;> omega) | simp
  intro i hφ
  have hi : i ≤ b.tals.length := hφ
  refine WP.seq (WP.seq (WP.region ?_))
  refine WPl.v rfl (o_move rfl) ?_
  refine WPl.v rfl (o_fldp F33_4 rfl) ?_
  refine WPl.v rfl (o_ldp S31 rfl rfl rfl) ?_
  refine WPl.v rfl (o_lenq L31 rfl (lx rfl)) ?_
  refine WPl.v rfl (o_lss rfl rfl) ?_
  refine WPl.nil (EX.then ?_)
  refine WP.cond rfl (fun hc1 => ?_) (fun hc1 => ?_)
  · try simp only [cnd] at hc1
    refine WP.skip (EX.then (WP.seq (WP.block (WP.seq (WP.region ?_)))))
    refine WPl.v rfl (o_move rfl) ?_
    refine WPl.v rfl (o_move rfl) ?_
    refine WPl.cs 11 rfl rfl rfl rfl (o_sig 11 (ren [(0, 8)]) (c29 l (i : Int) (by omega)) e29 rfl rfl rfl w29 ⟨(lx rfl), trivial⟩ r29) ?_
    refine WPl.v rfl (o_not rfl) ?_
    refine WPl.nil (EX.then ?_)
    refine WP.cond rfl (fun hc2 => ?_) (fun hc2 => ?_)
    · try simp only [cnd] at hc2
      refine WP.region ?_
      refine WPl.v rfl (o_move rfl) ?_
      refine WPl.v rfl (o_move rfl) ?_
      refine WPl.l 11 12 rfl rfl rfl (o_bsl (E := EP.int) (l := [(i : Int)]) R24 rfl rfl (.cons (rfl) rfl (eok_int) (.nil)) rfl rfl) ?_
      refine WPl.u1 (k := 12) (m := 13) rfl rfl rfl (o_appo R24 EP.int_one rfl rfl rfl rfl (by have := otTo_len l i; first | omega | (simp; omega)) (by have := otTo_len l i; first | omega | (simp; omega))) ?_
      refine WPl.v rfl (o_assign rfl) ?_
      refine WPl.nil (EX.blk (EX.then (WP.region ?_)))
      refine WPl.v rfl (o_move rfl) ?_
      refine WPl.v rfl (o_add rfl rfl (by first | omega | (simp; omega)) (by first | omega | (simp; omega))) ?_
      refine WPl.v rfl (o_assign rfl) ?_
      refine WPl.nil ?_
      refine EX.again (i + 1) (ren [(10, 12)]) (by first | omega | (constructor <;> omega)) (by omega) (LeR.of ⟨rfl, rfl, rfl, rfl, rfl, trivial⟩ ⟨(lx rfl), (lx rfl), (lx rfl), (lx rfl), (lx rfl), (lx rfl), (lx rfl), (lx rfl), (lx rfl), trivial⟩ ⟨rfl, (congrArg (fun z => some (Ent.own 3 EP.int.size (List.length z) (RP EP.int z))) (show ((otTo l i) ++ [(i : Int)]) = ((fun i => otTo l i) (i + 1)) from by dsimp only; simp only [otTo]; rw [if_neg (by rw [hc2]; simp)])), trivial⟩ rfl rfl rfl rfl rfl)
    · try simp only [cnd] at hc2
      refine WP.skip (EX.blk (EX.then (WP.region ?_)))
      refine WPl.v rfl (o_move rfl) ?_
      refine WPl.v rfl (o_add rfl rfl (by first | omega | (simp; omega)) (by first | omega | (simp; omega))) ?_
      refine WPl.v rfl (o_assign rfl) ?_
      refine WPl.nil ?_
      refine EX.again (i + 1) id (by first | omega | (constructor <;> omega)) (by omega) (LeR.of ⟨rfl, rfl, rfl, rfl, rfl, trivial⟩ ⟨(lx rfl), (lx rfl), (lx rfl), (lx rfl), (lx rfl), (lx rfl), (lx rfl), (lx rfl), (lx rfl), trivial⟩ ⟨rfl, (congrArg (fun z => some (Ent.own 3 EP.int.size (List.length z) (RP EP.int z))) (show (otTo l i) = ((fun i => otTo l i) (i + 1)) from by dsimp only; simp only [otTo]; rw [if_pos hc2])), trivial⟩ rfl rfl rfl rfl rfl)
  · try simp only [cnd] at hc1
    refine WP.exit (EX.exit_then (EX.exit_then (EX.exit_blk (EX.then (WP.seq (WP.region ?_))))))
    refine WPl.v rfl (o_move rfl) ?_
    refine WPl.v rfl (o_assign rfl) ?_
    refine WPl.nil (EX.then (WP.ret ?_))
    refine EX.imp (Imp.frz (E := EP.int) (l := otTo l i) 10 rfl rfl) ?_
    have he : i = b.tals.length := by omega
    subst he
    exact EX.fin (ren [(0, 10)]) (.inl rfl) rfl (.tmp rfl .nil) rfl (by simp [SV.res, El.res, At.res, keys]) ⟨(lx rfl), trivial⟩ (by simp) (by simp)
end Go.Flong
namespace Go.Flong
open Go Go.Eng Go.Proofs
theorem R27 : RowT Tryz.prog 27 24 1 24 [.slice none 0 0] := ⟨Tryz.underlying27, ⟨Tryz.t24, _, by kernel_rfl, rfl, rfl, rfl, rfl⟩, rfl, by decide⟩
theorem e136 : Enters' Tryz.prog 136 := Tryz.call136
theorem e34 : Enters' Tryz.prog 34 := Tryz.call34
theorem e54 : Enters' Tryz.prog 54 := Tryz.call54
theorem w136 {first : List Int} {q n : Int} : ∀ x ∈ ([.e (.a (.q 0)), .i (q), .i (n)] : List SV), x.res (keys (α := Pred) [(0, PL EP.int (first))]) := by simp [SV.res, El.res, At.res, keys]
theorem r136 {first : List Int} {m : Nat} {n : Int} : SV.res (keys (α := Pred) [(0, PL (EP.sl EP.int) (listsR n m first))]) (.e (.a (.q 0))) := by simp [SV.res, El.res, At.res, keys]
set_option maxHeartbeats 4000000 in
theorem c136 (first : List Int) (m : Nat) (q n : Int) (hq : q = ((first.length + m : Nat) : Int)) (hn : 0 ≤ n ∧ n ≤ 8) (hm : m ≤ 8) (hf : chain n 0 first) : Sig Tryz.prog 136 [.e (.a (.q 0)), .i (q), .i (n)] [(0, PL EP.int (first))] (.e (.a (.q 0))) [(0, PL (EP.sl EP.int) (listsR n m first))] := by
  have hfr := chain_bnd hn.1 hf
  refine Sig.intro Tryz.func136 rfl 1 [(0, .e (.a (.q 0))), (1, .i (q)), (2, .i (n))] rfl w136 rfl rfl fun I w => ?_
  refine WP.seq (WP.region ?_)
  refine WPl.v rfl (o_assign rfl) ?_
  refine WPl.nil (EX.then (WP.seq (WP.seq (WP.region ?_))))
  refine WPl.v rfl (o_move rfl) ?_
  refine WPl.v rfl (o_lenq L24 rfl (lx rfl)) ?_
  refine WPl.v rfl (o_move rfl) ?_
  refine WPl.v rfl (o_eql rfl rfl) ?_
  refine WPl.nil (EX.then ?_)
  refine WP.cond rfl (fun hc1 => ?_) (fun hc1 => ?_)
  · try simp only [cnd] at hc1
    obtain rfl : m = 0 := by omega
    refine WP.seq (WP.region ?_)
    refine WPl.v rfl (o_move rfl) ?_
    refine WPl.l 1 2 rfl rfl rfl (o_bsl (E := (EP.sl EP.int)) (l := [first]) R27 rfl rfl (.cons ((.inl ⟨_, (lx rfl), PL.one⟩)) rfl (eok_sl (lx rfl)) (.nil)) rfl rfl) ?_
    refine WPl.v rfl (o_assign rfl) ?_
    refine WPl.nil (EX.then (WP.ret (EX.ret_then ?_)))
    refine EX.imp (Imp.frz (E := (EP.sl EP.int)) (l := [first]) 1 rfl rfl) ?_
    rw [show listsR n 0 first = [first] from rfl]
    exact EX.fin (ren [(0, 1)]) (.inl rfl) rfl (.tmp rfl .nil) rfl (by simp [SV.res, El.res, At.res, keys]) ⟨(lx rfl), trivial⟩ (by simp) (by simp)
  · try simp only [cnd] at hc1
    obtain ⟨k, rfl⟩ : ∃ k, m = k + 1 := ⟨m - 1, by omega⟩
    refine WP.skip (EX.then (WP.seq (WP.region ?_)))
    refine WPl.v rfl (o_assign rfl) ?_
    refine WPl.nil (EX.then (WP.seq (WP.seq (WP.region ?_))))
    refine WPl.v rfl (o_move rfl) ?_
    refine WPl.v rfl (o_lenq L24 rfl (lx rfl)) ?_
    refine WPl.v rfl (o_gtr rfl rfl) ?_
    refine WPl.nil (EX.then ?_)
    refine WP.cond rfl (fun hc2 => ?_) (fun hc2 => ?_)
    · try simp only [cnd] at hc2
      have hz : fromR first = nth first ((first.length : Int) - 1) + 1 := if_pos hc2
      refine WP.region ?_
      refine WPl.v rfl (o_move rfl) ?_
      refine WPl.v rfl (o_move rfl) ?_
      refine WPl.v rfl (o_lenq L24 rfl (lx rfl)) ?_
      refine WPl.v rfl (o_sub rfl rfl (by first | omega | (simp; omega)) (by first | omega | (simp; omega))) ?_
      refine WPl.x 1 2 rfl rfl rfl (o_idx L24 rfl (lx rfl) rfl (by first | omega | (simp; omega)) (by first | omega | (simp; omega))) ?_
      refine WPl.v rfl (o_ldq S3 rfl (lx rfl) intc) ?_
      refine WPl.v rfl (o_add rfl rfl (by first | omega | (simp; omega)) (by first | omega | (simp; omega))) ?_
      refine WPl.v rfl (o_assign rfl) ?_
      refine WPl.nil (EX.then (WP.seq (WP.region ?_)))
      refine WPl.v rfl (o_assign rfl) ?_
      refine WPl.imp (Imp.namo (EP.sl EP.int) 2 3 24 rfl rfl) ?_
      refine WPl.imp (Imp.swF 8 2 rfl (lx rfl)) ?_
      refine WPl.nil (EX.then (WP.seq (WP.seq (WP.region ?_))))
      refine WPl.v rfl (o_move rfl) ?_
      refine WPl.v rfl (o_assign rfl) ?_
      refine WPl.nil (EX.then (WP.block ?_))
      refine WP.loop (Gh := Nat) (fun j => ⟨3, [(0, .e (.a (.q 0))), (1, .i (q)), (2, .i (n)), (6, .e (.a (.v (.slice none 0 0)))), (8, .e (.a (.q 2))), (9, .i (fromR first + (j : Int)))], [(0, PL EP.int (first))], [(2, .own 24 (EP.sl EP.int).size (flatTo (fun (j : Nat) => listsR n k (first ++ [fromR first + (j : Int)])) j).length (RP (EP.sl EP.int) (flatTo (fun (j : Nat) => listsR n k (first ++ [fromR first + (j : Int)])) j)))], [], []⟩) (fun j => j ≤ (n - fromR first).toNat) (fun j => (n - fromR first).toNat - j) (0) id ?_ (LeR.of ⟨rfl, rfl, rfl, rfl, rfl, (congrArg (fun z => some (SV.i z)) (show ((nth first ((first.length : Int) - 1)) + 1) = ((fun j => fromR first + (j : Int)) 0) from by rw [hz]; simp)), trivial⟩ ⟨(lx rfl), trivial⟩ ⟨rfl, trivial⟩ rfl rfl rfl rfl rfl) ?_
      · first | trivial | omega | (constructor <;> omega) | simp
      intro j hφ
      have hj : j ≤ (n - fromR first).toNat := hφ
      refine WP.seq (WP.seq (WP.region ?_))
      refine WPl.v rfl (o_move rfl) ?_
      refine WPl.v rfl (o_move rfl) ?_
      refine WPl.v rfl (o_lss rfl rfl) ?_
      refine WPl.nil (EX.then ?_)
      refine WP.cond rfl (fun hc3 => ?_) (fun hc3 => ?_)
      · try simp only [cnd] at hc3
        refine WP.skip (EX.then (WP.seq (WP.block (WP.region ?_))))
        refine WPl.v rfl (o_move rfl) ?_
        refine WPl.l 3 4 rfl rfl rfl (o_bsl (E := EP.int) (l := []) R24 rfl rfl (.nil) rfl rfl) ?_
        refine WPl.v rfl (o_move rfl) ?_
        refine WPl.u1 (k := 4) (m := 5) rfl rfl rfl (o_apps R24 EP.int_one rfl rfl rfl (lx rfl) (by simp; omega) (by simp; omega)) ?_
        refine WPl.v rfl (o_move rfl) ?_
        refine WPl.l 5 6 rfl rfl rfl (o_bsl (E := EP.int) (l := [fromR first + (j : Int)]) R24 rfl rfl (.cons (rfl) rfl (eok_int) (.nil)) rfl rfl) ?_
        refine WPl.u1 (k := 6) (m := 7) rfl rfl rfl (OpG.settle1 (.inl rfl) rfl (o_appo R24 EP.int_one rfl rfl rfl rfl (by simp; omega) (by simp; omega))) ?_
        refine WPl.v rfl (o_move rfl) ?_
        refine WPl.v rfl (o_move rfl) ?_
        refine WPl.cs 8 rfl rfl rfl rfl (o_sig 7 (ren [(0, 6)]) (c136 (([] ++ first) ++ [fromR first + (j : Int)]) k q n (by simp; omega) hn (by omega) (chain_snoc hf (by omega) (by omega))) e136 rfl rfl rfl w136 ⟨(lx rfl), trivial⟩ r136) ?_
        refine WPl.u1 (k := 8) (m := 9) rfl rfl rfl (o_apps R27 EP.sl_one rfl rfl rfl (lx rfl) (by have h := flat_len (n := n) hn.2 (k := k) (by omega) hfr.1 (j := j) (by omega); omega) (by have h := flat_len (n := n) hn.2 (k := k) (by omega) hfr.1 (j := j) (by omega); omega)) ?_
        refine WPl.v rfl (o_assign rfl) ?_
        refine WPl.nil (EX.blk (EX.then (WP.region ?_)))
        refine WPl.v rfl (o_move rfl) ?_
        refine WPl.v rfl (o_add rfl rfl (by first | omega | (simp; omega)) (by first | omega | (simp; omega))) ?_
        refine WPl.v rfl (o_assign rfl) ?_
        refine WPl.nil ?_
        refine EX.again (j + 1) (ren [(2, 8)]) (by first | omega | (constructor <;> omega)) (by omega) (LeR.of ⟨rfl, rfl, rfl, rfl, rfl, (congrArg (fun z => some (SV.i z)) (show ((fromR first + (j : Int)) + 1) = ((fun j => fromR first + (j : Int)) (j + 1)) from by show fromR first + (j : Int) + 1 = fromR first + ((j + 1 : Nat) : Int); omega)), trivial⟩ ⟨(lx rfl), trivial⟩ ⟨rfl, trivial⟩ rfl rfl rfl rfl rfl)
      · try simp only [cnd] at hc3
        refine WP.exit (EX.exit_then (EX.exit_then (EX.exit_blk (EX.then (WP.seq (WP.region ?_))))))
        refine WPl.v rfl (o_move rfl) ?_
        refine WPl.v rfl (o_assign rfl) ?_
        refine WPl.nil (EX.then (WP.ret ?_))
        refine EX.imp (Imp.frz (E := (EP.sl EP.int)) (l := flatTo (fun (j : Nat) => listsR n k (first ++ [fromR first + (j : Int)])) j) 2 rfl rfl) ?_
        rw [show listsR n (k + 1) first = flatTo (fun (j : Nat) => listsR n k (first ++ [fromR first + (j : Int)])) j from by rw [show j = (n - fromR first).toNat by omega]; rfl]
        exact EX.fin (ren [(0, 2)]) (.inl rfl) rfl (.tmp rfl .nil) rfl (by simp [SV.res, El.res, At.res, keys]) ⟨(lx rfl), trivial⟩ (by simp) (by simp)
    · try simp only [cnd] at hc2
      have hz : fromR first = 0 := if_neg hc2
      refine WP.skip (EX.then (WP.seq (WP.region ?_)))
      refine WPl.v rfl (o_assign rfl) ?_
      refine WPl.imp (Imp.namo (EP.sl EP.int) 1 2 24 rfl rfl) ?_
      refine WPl.imp (Imp.swF 8 1 rfl (lx rfl)) ?_
      refine WPl.nil (EX.then (WP.seq (WP.seq (WP.region ?_))))
      refine WPl.v rfl (o_move rfl) ?_
      refine WPl.v rfl (o_assign rfl) ?_
      refine WPl.nil (EX.then (WP.block ?_))
      refine WP.loop (Gh := Nat) (fun j => ⟨2, [(0, .e (.a (.q 0))), (1, .i (q)), (2, .i (n)), (6, .e (.a (.v (.slice none 0 0)))), (8, .e (.a (.q 1))), (9, .i (fromR first + (j : Int)))], [(0, PL EP.int (first))], [(1, .own 24 (EP.sl EP.int).size (flatTo (fun (j : Nat) => listsR n k (first ++ [fromR first + (j : Int)])) j).length (RP (EP.sl EP.int) (flatTo (fun (j : Nat) => listsR n k (first ++ [fromR first + (j : Int)])) j)))], [], []⟩) (fun j => j ≤ (n - fromR first).toNat) (fun j => (n - fromR first).toNat - j) (0) id ?_ (LeR.of ⟨rfl, rfl, rfl, rfl, rfl, (congrArg (fun z => some (SV.i z)) (show (0) = ((fun j => fromR first + (j : Int)) 0) from by rw [hz]; simp)), trivial⟩ ⟨(lx rfl), trivial⟩ ⟨rfl, trivial⟩ rfl rfl rfl rfl rfl) ?_
      · first | trivial | omega | (constructor <;> omega) | simp
      intro j hφ
      have hj : j ≤ (n - fromR first).toNat := hφ
      refine WP.seq (WP.seq (WP.region ?_))
      refine WPl.v rfl (o_move rfl) ?_
      refine WPl.v rfl (o_move rfl) ?_
      refine WPl.v rfl (o_lss rfl rfl) ?_
      refine WPl.nil (EX.then ?_)
      refine WP.cond rfl (fun hc4 => ?_) (fun hc4 => ?_)
      · try simp only [cnd] at hc4
        refine WP.skip (EX.then (WP.seq (WP.block (WP.region ?_))))
        refine WPl.v rfl (o_move rfl) ?_
        refine WPl.l 2 3 rfl rfl rfl (o_bsl (E := EP.int) (l := []) R24 rfl rfl (.nil) rfl rfl) ?_
        refine WPl.v rfl (o_move rfl) ?_
        refine WPl.u1 (k := 3) (m := 4) rfl rfl rfl (o_apps R24 EP.int_one rfl rfl rfl (lx rfl) (by simp; omega) (by simp; omega)) ?_
        refine WPl.v rfl (o_move rfl) ?_
        refine WPl.l 4 5 rfl rfl rfl (o_bsl (E := EP.int) (l := [fromR first + (j : Int)]) R24 rfl rfl (.cons (rfl) rfl (eok_int) (.nil)) rfl rfl) ?_
        refine WPl.u1 (k := 5) (m := 6) rfl rfl rfl (OpG.settle1 (.inl rfl) rfl (o_appo R24 EP.int_one rfl rfl rfl rfl (by simp; omega) (by simp; omega))) ?_
        refine WPl.v rfl (o_move rfl) ?_
        refine WPl.v rfl (o_move rfl) ?_
        refine WPl.cs 7 rfl rfl rfl rfl (o_sig 6 (ren [(0, 5)]) (c136 (([] ++ first) ++ [fromR first + (j : Int)]) k q n (by simp; omega) hn (by omega) (chain_snoc hf (by omega) (by omega))) e136 rfl rfl rfl w136 ⟨(lx rfl), trivial⟩ r136) ?_
        refine WPl.u1 (k := 7) (m := 8) rfl rfl rfl (o_apps R27 EP.sl_one rfl rfl rfl (lx rfl) (by have h := flat_len (n := n) hn.2 (k := k) (by omega) hfr.1 (j := j) (by omega); omega) (by have h := flat_len (n := n) hn.2 (k := k) (by omega) hfr.1 (j := j) (by omega); omega)) ?_
        refine WPl.v rfl (o_assign rfl) ?_
        refine WPl.nil (EX.blk (EX.then (WP.region ?_)))
        refine WPl.v rfl (o_move rfl) ?_
        refine WPl.v rfl (o_add rfl rfl (by first | omega | (simp; omega)) (by first | omega | (simp; omega))) ?_
        refine WPl.v rfl (o_assign rfl) ?_
        refine WPl.nil ?_
        refine EX.again (j + 1) (ren [(1, 7)]) (by first | omega | (constructor <;> omega)) (by omega) (LeR.of ⟨rfl, rfl, rfl, rfl, rfl, (congrArg (fun z => some (SV.i z)) (show ((fromR first + (j : Int)) + 1) = ((fun j => fromR first + (j : Int)) (j + 1)) from by show fromR first + (j : Int) + 1 = fromR first + ((j + 1 : Nat) : Int); omega)), trivial⟩ ⟨(lx rfl), trivial⟩ ⟨rfl, trivial⟩ rfl rfl rfl rfl rfl)
      · try simp only [cnd] at hc4
        refine WP.exit (EX.exit_then (EX.exit_then (EX.exit_blk (EX.then (WP.seq (WP.region ?_))))))
        refine WPl.v rfl (o_move rfl) ?_
        refine WPl.v rfl (o_assign rfl) ?_
        refine WPl.nil (EX.then (WP.ret ?_))
        refine EX.imp (Imp.frz (E := (EP.sl EP.int)) (l := flatTo (fun (j : Nat) => listsR n k (first ++ [fromR first + (j : Int)])) j) 1 rfl rfl) ?_
        rw [show listsR n (k + 1) first = flatTo (fun (j : Nat) => listsR n k (first ++ [fromR first + (j : Int)])) j from by rw [show j = (n - fromR first).toNat by omega]; rfl]
        exact EX.fin (ren [(0, 1)]) (.inl rfl) rfl (.tmp rfl .nil) rfl (by simp [SV.res, El.res, At.res, keys]) ⟨(lx rfl), trivial⟩ (by simp) (by simp)
termination_by m
decreasing_by all_goals omega
theorem w89 {b : Book} : ∀ x ∈ ([.e (.g [.q 0, .q 1, .q 2, ai (b.hall.change), .q 3, .q 4, .q 5, .q 6, ai (b.boys), .q 7])] : List SV), x.res (keys (α := Pred) [(0, PL ETm (b.hall.machs)), (1, PL EBd (b.hall.buns)), (2, PL EP.int (b.hall.trains)), (3, PL EP.int (b.hall.bores)), (4, PL (EP.sl EP.int) (b.hall.eds)), (5, PL EPl (b.set)), (6, PL EP.int (b.walk)), (7, PL ETa (b.tals))]) := by simp [SV.res, El.res, At.res, keys]
theorem r89 {b : Book} : SV.res (keys (α := Pred) [(0, PL (EP.sl EP.int) (storS b))]) (.e (.a (.q 0))) := by simp [SV.res, El.res, At.res, keys]
set_option maxHeartbeats 4000000 in
theorem c89 (b : Book) (hm : b.Small) (hc : b.chk = true) : Sig Tryz.prog 89 [.e (.g [.q 0, .q 1, .q 2, ai (b.hall.change), .q 3, .q 4, .q 5, .q 6, ai (b.boys), .q 7])] [(0, PL ETm (b.hall.machs)), (1, PL EBd (b.hall.buns)), (2, PL EP.int (b.hall.trains)), (3, PL EP.int (b.hall.bores)), (4, PL (EP.sl EP.int) (b.hall.eds)), (5, PL EPl (b.set)), (6, PL EP.int (b.walk)), (7, PL ETa (b.tals))] (.e (.a (.q 0))) [(0, PL (EP.sl EP.int) (storS b))] := by
  have hB := bookB hc
  have h8 := hB.t
  have hsm := hm.s
  refine Sig.intro Tryz.func89 rfl 8 [(0, .e (.g [.q 0, .q 1, .q 2, ai (b.hall.change), .q 3, .q 4, .q 5, .q 6, ai (b.boys), .q 7]))] rfl w89 rfl rfl fun I w => ?_
  refine WP.seq (WP.region ?_)
  refine WPl.l 8 9 rfl rfl rfl (o_boxg rfl) ?_
  refine WPl.v rfl (o_assign rfl) ?_
  refine WPl.nil (EX.then (WP.seq (WP.region ?_)))
  refine WPl.v rfl (o_assign rfl) ?_
  refine WPl.imp (Imp.namo (EP.sl EP.int) 9 10 24 rfl rfl) ?_
  refine WPl.imp (Imp.swF 3 9 rfl (lx rfl)) ?_
  refine WPl.nil (EX.then (WP.seq (WP.seq (WP.region ?_))))
  refine WPl.v rfl (o_assign rfl) ?_
  refine WPl.nil (EX.then (WP.block ?_))
  refine WP.loop (Gh := Nat) (fun k => ⟨10, [(1, .e (.a (.p 8 (0)))), (2, .e (.a (.v (.slice none 0 0)))), (3, .e (.a (.q 9))), (4, .i ((k : Int)))], [(0, PL ETm (b.hall.machs)), (1, PL EBd (b.hall.buns)), (2, PL EP.int (b.hall.trains)), (3, PL EP.int (b.hall.bores)), (4, PL (EP.sl EP.int) (b.hall.eds)), (5, PL EPl (b.set)), (6, PL EP.int (b.walk)), (7, PL ETa (b.tals))], [(8, .blk [.q 0, .q 1, .q 2, ai (b.hall.change), .q 3, .q 4, .q 5, .q 6, ai (b.boys), .q 7] 33), (9, .own 24 (EP.sl EP.int).size (storUp b k).length (RP (EP.sl EP.int) (storUp b k)))], [], []⟩) (fun k => k ≤ b.tals.length + 1 ∧ ∀ j : Nat, j + 1 < k → storK b j = []) (fun k => b.tals.length + 1 - k) (0) id ?_ (LeR.of ⟨rfl, rfl, rfl, rfl, trivial⟩ ⟨(lx rfl), (lx rfl), (lx rfl), (lx rfl), (lx rfl), (lx rfl), (lx rfl), (lx rfl), trivial⟩ ⟨rfl, rfl, trivial⟩ rfl rfl rfl rfl rfl) ?_
  · exact ⟨by omega, fun j hj => by omega⟩
  intro k hφ
  have hall : k ≤ b.tals.length + 1 ∧ ∀ j : Nat, j + 1 < k → storK b j = [] := hφ
  refine WP.seq (WP.seq (WP.region ?_))
  refine WPl.v rfl (o_move rfl) ?_
  refine WPl.v rfl (o_leno L27 rfl rfl) ?_
  refine WPl.v rfl (o_eql rfl rfl) ?_
  refine WPl.nil (EX.then ?_)
  refine WP.cond rfl (fun hc1 => ?_) (fun hc1 => ?_)
  · try simp only [cnd] at hc1
    have hnil : storUp b k = [] := List.length_eq_zero_iff.1 (by simpa using hc1)
    have hkn : k ≤ b.tals.length := Nat.le_of_not_lt fun g => by
      obtain ⟨q, rfl⟩ : ∃ q, k = q + 1 := ⟨k - 1, by omega⟩
      rw [show q = b.tals.length by omega] at hnil
      exact storK_full h8 hnil
    have hll := listsB_len h8 hkn
    have hlb : listsR (b.tals.length : Int) k [] = listsB b k := rfl
    refine WP.skip (EX.then (WP.seq (WP.block (WP.seq (WP.region ?_)))))
    refine WPl.v rfl (o_move rfl) ?_
    refine WPl.v rfl (o_fldp F33_4 rfl) ?_
    refine WPl.v rfl (o_ldp S31 rfl rfl rfl) ?_
    refine WPl.v rfl (o_lenq L31 rfl (lx rfl)) ?_
    refine WPl.imp (Imp.nam 10 11 (.slice none 0 0) (R := PN EP.int) pn_ok rfl rfl) ?_
    refine WPl.cs 12 rfl rfl rfl rfl (o_sigc 11 (ren [(0, 10)]) (c136 [] k (k : Int) (b.tals.length : Int) (by simp) ⟨by omega, by omega⟩ (by omega) trivial) e136 rfl rfl ⟨.inr ⟨_, _, rfl, fun _ => rfl, (lxr rfl)⟩, .inl rfl, .inl rfl, trivial⟩ w136 ⟨(lxl rfl), trivial⟩ r136) ?_
    rw [hlb]
    refine WPl.v rfl (o_assign rfl) ?_
    refine WPl.nil (EX.then (WP.seq (WP.region ?_)))
    refine WPl.v rfl (o_assign rfl) ?_
    refine WPl.nil (EX.then (WP.block ?_))
    refine WP.loop (Gh := Nat) (fun i => ⟨12, [(1, .e (.a (.p 8 (0)))), (2, .e (.a (.v (.slice none 0 0)))), (3, .e (.a (.q 9))), (4, .i ((k : Int))), (8, .i (((storUp b k).length : Int))), (9, .b (decide (((storUp b k).length : Int) = 0))), (12, .i ((k : Int))), (13, .e (.a (.p 8 (9)))), (14, .e (.a (.q 7))), (15, .i ((b.tals.length : Int))), (16, .e (.a (.q 11))), (5, .e (.a (.q 11))), (6, .i ((i : Int)))], [(0, PL ETm (b.hall.machs)), (1, PL EBd (b.hall.buns)), (2, PL EP.int (b.hall.trains)), (3, PL EP.int (b.hall.bores)), (4, PL (EP.sl EP.int) (b.hall.eds)), (5, PL EPl (b.set)), (6, PL EP.int (b.walk)), (7, PL ETa (b.tals)), (11, PL (EP.sl EP.int) ((listsB b k)))], [(8, .blk [.q 0, .q 1, .q 2, ai (b.hall.change), .q 3, .q 4, .q 5, .q 6, ai (b.boys), .q 7] 33), (9, .own 24 (EP.sl EP.int).size (keepTo b (listsB b k) i).length (RP (EP.sl EP.int) (keepTo b (listsB b k) i)))], [], []⟩) (fun i => i ≤ (listsB b k).length) (fun i => (listsB b k).length - i) (0) id ?_ (LeR.of ⟨rfl, rfl, rfl, rfl, rfl, rfl, rfl, rfl, rfl, rfl, rfl, rfl, rfl, trivial⟩ ⟨(lx rfl), (lx rfl), (lx rfl), (lx rfl), (lx rfl), (lx rfl), (lx rfl), (lx rfl), (lx rfl), trivial⟩ ⟨rfl, (congrArg (fun z => some (Ent.own 24 (EP.sl EP.int).size (List.length z) (RP (EP.sl EP.int) z))) (show (storUp b k) = ((fun i => keepTo b (listsB b k) i) 0) from hnil)), trivial⟩ rfl rfl rfl rfl rfl) ?_
    · first | trivial | omega | (constructor <;> omega) | simp
    intro i hφ
    have hi : i ≤ (listsB b k).length := hφ
    refine WP.seq (WP.seq (WP.region ?_))
    refine WPl.v rfl (o_move rfl) ?_
    refine WPl.v rfl (o_move rfl) ?_
    refine WPl.v rfl (o_lenq L27 rfl (lx rfl)) ?_
    refine WPl.v rfl (o_lss rfl rfl) ?_
    refine WPl.nil (EX.then ?_)
    refine WP.cond rfl (fun hc2 => ?_) (fun hc2 => ?_)
    · try simp only [cnd] at hc2
      have hrow := listsB_at h8 hkn (show i < (listsB b k).length by omega)
      refine WP.skip (EX.then (WP.seq (WP.block (WP.seq ?_))))
      refine WP.draw (nf := 15) [⟨[24, 25, 26, 27, 28, 29], [12, 13, 14], [], [], []⟩, ⟨[23, 25, 26, 27, 28], [12, 13], [], [], []⟩, ⟨[23, 24, 26], [], [], [], []⟩, ⟨[23, 24, 25], [], [], [], []⟩, ⟨[23, 24], [], [12], [12], [2, 3]⟩, ⟨[23, 24], [], [13], [13], [2, 3, 4]⟩, ⟨[23], [], [14], [14], [1, 2, 3, 4, 5]⟩, ⟨[], [], [], [], [0, 1, 2, 3, 4, 5, 6]⟩] (by kernel_rfl) (by kernel_rfl) ?_
      refine DRQ.v rfl rfl rfl (o_ldpa G33 rfl rfl rfl) ?_
      refine DRQ.v rfl rfl rfl (o_ldpa G33 rfl rfl rfl) ?_
      refine DRQ.v rfl rfl rfl (o_move rfl) ?_
      refine DRQ.v rfl rfl rfl (o_move rfl) ?_
      refine DRQ.x 12 rfl rfl rfl rfl (o_idx L27 rfl (lx rfl) rfl (by first | omega | (simp; omega)) (by first | omega | (simp; omega))) ?_
      refine DRQ.x 13 rfl rfl rfl rfl (o_ldqx S24 rfl (lx rfl) slx) ?_
      refine DRQ.cs rfl rfl rfl rfl (o_sig 14 (ren [(0, 0), (1, 1), (2, 2), (3, 3), (4, 4), (5, 5), (6, 6), (7, 7), (8, 13)]) (c34 b (nth (listsB b k) (i : Int)) (by omega) (by have := hrow; omega)) e34 rfl rfl rfl w34 ⟨(lx rfl), (lx rfl), (lx rfl), (lx rfl), (lx rfl), (lx rfl), (lx rfl), (lx rfl), (lx rfl), trivial⟩ r34) ?_
      refine DRQ.cs rfl rfl rfl rfl (o_sig 15 (ren [(0, 0), (1, 1), (2, 2), (3, 3), (4, 4), (5, 5), (6, 6), (7, 7), (8, 14)]) (c54 b (othersR b (nth (listsB b k) (i : Int))) hB (by omega) (by have := others_len b (nth (listsB b k) (i : Int)); omega) (others_in b _)) e54 rfl rfl rfl w54 ⟨(lx rfl), (lx rfl), (lx rfl), (lx rfl), (lx rfl), (lx rfl), (lx rfl), (lx rfl), (lx rfl), trivial⟩ r54) ?_
      refine DRQ.nil' ?_
      refine EX.then ?_
      refine WP.cond rfl (fun hc3 => ?_) (fun hc3 => ?_)
      · try simp only [cnd] at hc3
        refine WP.region ?_
        refine WPl.v rfl (o_move rfl) ?_
        refine WPl.v rfl (o_move rfl) ?_
        refine WPl.v rfl (o_move rfl) ?_
        refine WPl.x 15 16 rfl rfl rfl (o_idx L27 rfl (lx rfl) rfl (by first | omega | (simp; omega)) (by first | omega | (simp; omega))) ?_
        refine WPl.x 16 17 rfl rfl rfl (o_ldqx S24 rfl (lx rfl) slx) ?_
        refine WPl.l 17 18 rfl rfl rfl (o_bsl (E := (EP.sl EP.int)) (l := [nth (listsB b k) (i : Int)]) R27 rfl rfl (.cons ((.inl ⟨_, (lx rfl), PL.one⟩)) rfl (eok_sl (lx rfl)) (.nil)) rfl rfl) ?_
        refine WPl.u1 (k := 18) (m := 19) rfl rfl rfl (o_appo R27 EP.sl_one rfl rfl rfl rfl (by have := keepTo_len b (listsB b k) i; first | omega | (simp; omega)) (by have := keepTo_len b (listsB b k) i; first | omega | (simp; omega))) ?_
        refine WPl.v rfl (o_assign rfl) ?_
        refine WPl.nil (EX.blk (EX.then (WP.region ?_)))
        refine WPl.v rfl (o_move rfl) ?_
        refine WPl.v rfl (o_add rfl rfl (by first | omega | (simp; omega)) (by first | omega | (simp; omega))) ?_
        refine WPl.v rfl (o_assign rfl) ?_
        refine WPl.nil ?_
        refine EX.again (i + 1) (ren [(9, 18)]) (by first | omega | (constructor <;> omega)) (by omega) (LeR.of ⟨rfl, rfl, rfl, rfl, rfl, rfl, rfl, rfl, rfl, rfl, rfl, rfl, rfl, trivial⟩ ⟨(lx rfl), (lx rfl), (lx rfl), (lx rfl), (lx rfl), (lx rfl), (lx rfl), (lx rfl), (lx rfl), trivial⟩ ⟨rfl, (congrArg (fun z => some (Ent.own 24 (EP.sl EP.int).size (List.length z) (RP (EP.sl EP.int) z))) (show ((keepTo b (listsB b k) i) ++ [nth (listsB b k) (i : Int)]) = ((fun i => keepTo b (listsB b k) i) (i + 1)) from by dsimp only; simp only [keepTo]; rw [if_pos (show okL b (nth (listsB b k) (i : Int)) = true from hc3)])), trivial⟩ rfl rfl rfl rfl rfl)
      · try simp only [cnd] at hc3
        refine WP.skip (EX.blk (EX.then (WP.region ?_)))
        refine WPl.v rfl (o_move rfl) ?_
        refine WPl.v rfl (o_add rfl rfl (by first | omega | (simp; omega)) (by first | omega | (simp; omega))) ?_
        refine WPl.v rfl (o_assign rfl) ?_
        refine WPl.nil ?_
        refine EX.again (i + 1) id (by first | omega | (constructor <;> omega)) (by omega) (LeR.of ⟨rfl, rfl, rfl, rfl, rfl, rfl, rfl, rfl, rfl, rfl, rfl, rfl, rfl, trivial⟩ ⟨(lx rfl), (lx rfl), (lx rfl), (lx rfl), (lx rfl), (lx rfl), (lx rfl), (lx rfl), (lx rfl), trivial⟩ ⟨rfl, (congrArg (fun z => some (Ent.own 24 (EP.sl EP.int).size (List.length z) (RP (EP.sl EP.int) z))) (show (keepTo b (listsB b k) i) = ((fun i => keepTo b (listsB b k) i) (i + 1)) from by dsimp only; simp only [keepTo]; rw [if_neg (by rw [show okL b (nth (listsB b k) (i : Int)) = false from hc3]; simp)])), trivial⟩ rfl rfl rfl rfl rfl)
    · try simp only [cnd] at hc2
      refine WP.exit (EX.exit_then (EX.exit_then (EX.exit_blk (EX.blk (EX.then (WP.region ?_))))))
      refine WPl.v rfl (o_move rfl) ?_
      refine WPl.v rfl (o_add rfl rfl (by first | omega | (simp; omega)) (by first | omega | (simp; omega))) ?_
      refine WPl.v rfl (o_assign rfl) ?_
      refine WPl.nil ?_
      have hie : i = (listsB b k).length := by omega
      refine EX.again (k + 1) id (by exact ⟨by omega, fun j hj => by
        by_cases e : j + 1 < k
        · exact hall.2 j e
        · obtain rfl : j + 1 = k := by omega
          exact hnil⟩) (by omega) (LeR.of ⟨rfl, rfl, rfl, rfl, trivial⟩ ⟨(lx rfl), (lx rfl), (lx rfl), (lx rfl), (lx rfl), (lx rfl), (lx rfl), (lx rfl), trivial⟩ ⟨rfl, (congrArg (fun z => some (Ent.own 24 (EP.sl EP.int).size (List.length z) (RP (EP.sl EP.int) z))) (show (keepTo b (listsB b k) i) = ((fun k => storUp b k) (k + 1)) from by rw [hie]; rfl)), trivial⟩ rfl rfl rfl rfl rfl)
  · try simp only [cnd] at hc1
    refine WP.exit (EX.exit_then (EX.exit_then (EX.exit_blk (EX.then (WP.seq (WP.region ?_))))))
    refine WPl.v rfl (o_move rfl) ?_
    refine WPl.v rfl (o_assign rfl) ?_
    refine WPl.nil (EX.then (WP.ret ?_))
    refine EX.imp (Imp.frz (E := (EP.sl EP.int)) (l := storUp b k) 9 rfl rfl) ?_
    rw [← storUp_law h8 hall.2 (fun g => hc1 (by rw [g]; rfl))]
    exact EX.fin (ren [(0, 9)]) (.inl rfl) rfl (.tmp rfl .nil) rfl (by simp [SV.res, El.res, At.res, keys]) ⟨(lx rfl), trivial⟩ (by simp) (by simp)
end Go.Flong
namespace Go.Flong
open Go Go.Eng Go.Proofs
theorem e56 : Enters' Tryz.prog 56 := Tryz.call56
theorem e86 : Enters' Tryz.prog 86 := Tryz.call86
theorem e89 : Enters' Tryz.prog 89 := Tryz.call89
theorem e106 : Enters' Tryz.prog 106 := Tryz.call106
theorem e91 : Enters' Tryz.prog 91 := Tryz.call91
theorem w106 {L : List (List Int)} {n : Int} : ∀ x ∈ ([.e (.a (.q 0)), .i (n)] : List SV), x.res (keys (α := Pred) [(0, PL (EP.sl EP.int) (L))]) := by simp [SV.res, El.res, At.res, keys]
theorem r106 {L : List (List Int)} {n : Int} : SV.res (keys (α := Pred) []) (.i (cntL (fun l => inL l n) L L.length)) := by simp [SV.res, El.res, At.res, keys]
set_option maxHeartbeats 4000000 in
theorem c106 (L : List (List Int)) (n : Int) (hL : L.length ≤ 1000) (hR : ∀ i : Nat, i < L.length → (nth L (i : Int)).length ≤ 1000) : Sig Tryz.prog 106 [.e (.a (.q 0)), .i (n)] [(0, PL (EP.sl EP.int) (L))] (.i (cntL (fun l => inL l n) L L.length)) [] := by
  refine Sig.intro Tryz.func106 rfl 1 [(0, .e (.a (.q 0))), (1, .i (n))] rfl w106 rfl rfl fun I w => ?_
  refine WP.seq (WP.region ?_)
  refine WPl.v rfl (o_assign rfl) ?_
  refine WPl.nil (EX.then (WP.seq (WP.region ?_)))
  refine WPl.v rfl (o_assign rfl) ?_
  refine WPl.nil (EX.then (WP.seq (WP.seq (WP.region ?_))))
  refine WPl.v rfl (o_assign rfl) ?_
  refine WPl.nil (EX.then (WP.block ?_))
  refine WP.loop (Gh := Nat) (fun i => ⟨1, [(0, .e (.a (.q 0))), (1, .i (n)), (4, .i (0)), (5, .i (cntL (fun l => inL l n) L i)), (6, .i ((i : Int)))], [(0, PL (EP.sl EP.int) (L))], [], [], []⟩) (fun i => i ≤ L.length) (fun i => L.length - i) (0) id ?_ (LeR.of ⟨rfl, rfl, rfl, rfl, rfl, trivial⟩ ⟨(lx rfl), trivial⟩ trivial rfl rfl rfl rfl rfl) ?_
  · first | trivial | omega | (constructor <;> omega) | simp
  intro i hφ
  have hi : i ≤ L.length := hφ
  have hcb := cntL_bnd (fun l => inL l n) L i
  refine WP.seq (WP.seq (WP.region ?_))
  refine WPl.v rfl (o_move rfl) ?_
  refine WPl.v rfl (o_move rfl) ?_
  refine WPl.v rfl (o_lenq L27 rfl (lx rfl)) ?_
  refine WPl.v rfl (o_lss rfl rfl) ?_
  refine WPl.nil (EX.then ?_)
  refine WP.cond rfl (fun hc1 => ?_) (fun hc1 => ?_)
  · try simp only [cnd] at hc1
    refine WP.skip (EX.then (WP.seq (WP.block (WP.seq (WP.region ?_)))))
    refine WPl.v rfl (o_move rfl) ?_
    refine WPl.v rfl (o_move rfl) ?_
    refine WPl.x 1 2 rfl rfl rfl (o_idx L27 rfl (lx rfl) rfl (by first | omega | (simp; omega)) (by first | omega | (simp; omega))) ?_
    refine WPl.x 2 3 rfl rfl rfl (o_ldqx S24 rfl (lx rfl) slx) ?_
    refine WPl.v rfl (o_move rfl) ?_
    refine WPl.cs 3 rfl rfl rfl rfl (o_sig 3 (ren [(0, 2)]) (c29 (nth L (i : Int)) n (by have := hR i (by omega); omega)) e29 rfl rfl rfl w29 ⟨(lx rfl), trivial⟩ r29) ?_
    refine WPl.nil (EX.then ?_)
    refine WP.cond rfl (fun hc2 => ?_) (fun hc2 => ?_)
    · try simp only [cnd] at hc2
      refine WP.region ?_
      refine WPl.v rfl (o_move rfl) ?_
      refine WPl.v rfl (o_add rfl rfl (by first | omega | (simp; omega)) (by first | omega | (simp; omega))) ?_
      refine WPl.v rfl (o_assign rfl) ?_
      refine WPl.nil (EX.blk (EX.then (WP.region ?_)))
      refine WPl.v rfl (o_move rfl) ?_
      refine WPl.v rfl (o_add rfl rfl (by first | omega | (simp; omega)) (by first | omega | (simp; omega))) ?_
      refine WPl.v rfl (o_assign rfl) ?_
      refine WPl.nil ?_
      refine EX.again (i + 1) id (by first | omega | (constructor <;> omega)) (by omega) (LeR.of ⟨rfl, rfl, rfl, (congrArg (fun z => some (SV.i z)) (show ((cntL (fun l => inL l n) L i) + 1) = ((fun i => cntL (fun l => inL l n) L i) (i + 1)) from by dsimp only; simp only [cntL]; rw [if_pos hc2])), rfl, trivial⟩ ⟨(lx rfl), trivial⟩ trivial rfl rfl rfl rfl rfl)
    · try simp only [cnd] at hc2
      refine WP.skip (EX.blk (EX.then (WP.region ?_)))
      refine WPl.v rfl (o_move rfl) ?_
      refine WPl.v rfl (o_add rfl rfl (by first | omega | (simp; omega)) (by first | omega | (simp; omega))) ?_
      refine WPl.v rfl (o_assign rfl) ?_
      refine WPl.nil ?_
      refine EX.again (i + 1) id (by first | omega | (constructor <;> omega)) (by omega) (LeR.of ⟨rfl, rfl, rfl, (congrArg (fun z => some (SV.i z)) (show (cntL (fun l => inL l n) L i) = ((fun i => cntL (fun l => inL l n) L i) (i + 1)) from by dsimp only; simp only [cntL]; rw [if_neg (by rw [hc2]; simp)])), rfl, trivial⟩ ⟨(lx rfl), trivial⟩ trivial rfl rfl rfl rfl rfl)
  · try simp only [cnd] at hc1
    refine WP.exit (EX.exit_then (EX.exit_then (EX.exit_blk (EX.then (WP.seq (WP.region ?_))))))
    refine WPl.v rfl (o_move rfl) ?_
    refine WPl.v rfl (o_assign rfl) ?_
    refine WPl.nil (EX.then (WP.ret ?_))
    have he : i = L.length := by omega
    subst he
    exact EX.fin id (.inl rfl) rfl (.tmp rfl .nil) rfl (by simp [SV.res, El.res, At.res, keys]) trivial (by simp) (by simp)
theorem w39 {b : Book} {n : Int} : ∀ x ∈ ([.e (.g [.q 0, .q 1, .q 2, ai (b.hall.change), .q 3, .q 4, .q 5, .q 6, ai (b.boys), .q 7]), .i (n)] : List SV), x.res (keys (α := Pred) [(0, PL ETm (b.hall.machs)), (1, PL EBd (b.hall.buns)), (2, PL EP.int (b.hall.trains)), (3, PL EP.int (b.hall.bores)), (4, PL (EP.sl EP.int) (b.hall.eds)), (5, PL EPl (b.set)), (6, PL EP.int (b.walk)), (7, PL ETa (b.tals))]) := by simp [SV.res, El.res, At.res, keys]
theorem r39 {b : Book} {n : Int} : SV.res (keys (α := Pred) []) (.t [.a (ai (lieV b n)), .a (ai (lieE b n))]) := by simp [SV.res, El.res, At.res, keys]
set_option maxHeartbeats 4000000 in
theorem c39 (b : Book) (n : Int) (hm : b.Small) : Sig Tryz.prog 39 [.e (.g [.q 0, .q 1, .q 2, ai (b.hall.change), .q 3, .q 4, .q 5, .q 6, ai (b.boys), .q 7]), .i (n)] [(0, PL ETm (b.hall.machs)), (1, PL EBd (b.hall.buns)), (2, PL EP.int (b.hall.trains)), (3, PL EP.int (b.hall.bores)), (4, PL (EP.sl EP.int) (b.hall.eds)), (5, PL EPl (b.set)), (6, PL EP.int (b.walk)), (7, PL ETa (b.tals))] (.t [.a (ai (lieV b n)), .a (ai (lieE b n))]) [] := by
  have hm1 := hm.h.m
  have hm2 := hm.h.b
  have hm3 := hm.h.t
  have hm4 := hm.h.o
  have hm5 := hm.h.e
  have hm6 := hm.s
  have hm7 := hm.w
  have hm8 := hm.t
  refine Sig.intro Tryz.func39 rfl 8 [(0, .e (.g [.q 0, .q 1, .q 2, ai (b.hall.change), .q 3, .q 4, .q 5, .q 6, ai (b.boys), .q 7])), (1, .i (n))] rfl w39 rfl rfl fun I w => ?_
  refine WP.seq (WP.region ?_)
  refine WPl.l 8 9 rfl rfl rfl (o_boxg rfl) ?_
  refine WPl.v rfl (o_assign rfl) ?_
  refine WPl.v rfl (o_assign rfl) ?_
  refine WPl.nil (EX.then (WP.seq (WP.seq ?_)))
  refine WP.draw (nf := 9) [⟨[9, 10, 11], [], [], [], []⟩, ⟨[8, 10], [], [], [], []⟩, ⟨[8, 9], [], [], [], []⟩, ⟨[8], [], [], [], [1, 2]⟩, ⟨[], [], [], [], [0, 1, 2, 3]⟩, ⟨[], [], [], [], [0, 1, 2, 3, 4]⟩] (by kernel_rfl) (by kernel_rfl) ?_
  refine DRQ.v rfl rfl rfl (o_ldpa G33 rfl rfl rfl) ?_
  refine DRQ.v rfl rfl rfl (o_ldpa G33 rfl rfl rfl) ?_
  refine DRQ.v rfl rfl rfl (o_move rfl) ?_
  refine DRQ.cs rfl rfl rfl rfl (o_sig 9 (ren [(0, 0), (1, 1), (2, 2), (3, 3), (4, 4), (5, 5), (6, 6), (7, 7)]) (c56 b n (by omega)) e56 rfl rfl rfl w56 ⟨(lx rfl), (lx rfl), (lx rfl), (lx rfl), (lx rfl), (lx rfl), (lx rfl), (lx rfl), trivial⟩ r56) ?_
  refine DRQ.cs rfl rfl rfl rfl (o_sig 9 (ren [(0, 0), (1, 1), (2, 2), (3, 3), (4, 4), (5, 5), (6, 6), (7, 7)]) (c86 b (within n 0 ((b.tals.length : Int) - 1)) hm) e86 rfl rfl rfl w86 ⟨(lx rfl), (lx rfl), (lx rfl), (lx rfl), (lx rfl), (lx rfl), (lx rfl), (lx rfl), trivial⟩ r86) ?_
  refine DRQ.v rfl rfl rfl (o_assign rfl) ?_
  refine DRQ.nil' ?_
  refine EX.then (WP.seq (WP.region ?_))
  refine WPl.v rfl (o_move rfl) ?_
  refine WPl.v rfl (o_neq rfl rfl) ?_
  refine WPl.nil (EX.then ?_)
  refine WP.cond rfl (fun hc1 => ?_) (fun hc1 => ?_)
  · try simp only [cnd] at hc1
    refine WP.seq (WP.region ?_)
    refine WPl.v rfl (o_move rfl) ?_
    refine WPl.v rfl (o_assign rfl) ?_
    refine WPl.v rfl (o_assign rfl) ?_
    refine WPl.nil (EX.then (WP.ret (EX.ret_then ?_)))
    rw [show lieV b n = 0 from if_neg hc1, show lieE b n = askE b (within n 0 ((b.tals.length : Int) - 1)) from rfl]
    exact EX.fin id (.inl rfl) rfl (.tmp rfl (.tmp rfl .nil)) rfl (by simp [SV.res, El.res, At.res, keys]) trivial (by simp) (by simp)
  · try simp only [cnd] at hc1
    have hf : lieE b n = 0 := by first | exact hc1 | simpa using hc1
    have hcv := (askE_eq.1 hf).1
    have hrv := (askE_eq.1 hf).2
    have hB := bookB hcv
    have hln : (storS b).length = (stS b).length := storS_len b
    have hsl := stS_len hB.t
    have ht8 := hB.t
    have hst := stS_lt hB.t
    refine WP.skip (EX.then (WP.seq (WP.region ?_)))
    refine WPl.v rfl (o_ldpa G33 rfl rfl rfl) ?_
    refine WPl.cs 10 rfl rfl rfl rfl (o_sig 9 (ren [(0, 0), (1, 1), (2, 2), (3, 3), (4, 4), (5, 5), (6, 6), (7, 7)]) (c89 b hm hcv) e89 rfl rfl rfl w89 ⟨(lx rfl), (lx rfl), (lx rfl), (lx rfl), (lx rfl), (lx rfl), (lx rfl), (lx rfl), trivial⟩ r89) ?_
    refine WPl.v rfl (o_assign rfl) ?_
    refine WPl.nil (EX.then (WP.seq (WP.region ?_)))
    refine WPl.v rfl (o_move rfl) ?_
    refine WPl.v rfl (o_move rfl) ?_
    refine WPl.cs 10 rfl rfl rfl rfl (o_sig 10 (ren [(0, 9)]) (c106 (storS b) n (by omega) (fun i hi => by have := storS_row hi; omega)) e106 rfl rfl rfl w106 ⟨(lx rfl), trivial⟩ r106) ?_
    refine WPl.v rfl (o_move rfl) ?_
    refine WPl.v rfl (o_lenq L27 rfl (lx rfl)) ?_
    refine WPl.cs 10 rfl rfl rfl rfl (o_sig 10 id (c91 (cntL (fun l => inL l n) (storS b) (storS b).length) ((storS b).length : Int)) e91 rfl rfl rfl w91 trivial r91) ?_
    refine WPl.v rfl (o_assign rfl) ?_
    refine WPl.v rfl (o_assign rfl) ?_
    refine WPl.nil (EX.then (WP.ret ?_))
    rw [hf, hln, show lieV b n = knB b (bit n) from if_pos hf, ← lie_law ht8 (isT_in hrv)]
    exact EX.fin id (.inl rfl) rfl (.tmp rfl (.tmp rfl .nil)) rfl (by simp [SV.res, El.res, At.res, keys]) trivial (by simp) (by simp)
theorem w109W {b : Book} {n : Int} : ∀ x ∈ ([.e (.g [.q 0, .q 1, .q 2, ai (b.hall.change), .q 3, .q 4, .q 5, .q 6, ai (b.boys), .q 7]), .i (n)] : List SV), x.res (keys (α := Pred) [(0, PL ETm (b.hall.machs)), (1, PL EBd (b.hall.buns)), (2, PL EP.int (b.hall.trains)), (3, PL EP.int (b.hall.bores)), (4, PL (EP.sl EP.int) (b.hall.eds)), (5, PL EPl (b.set)), (6, PL EP.int (b.walk)), (7, PL ETa (b.tals))]) := by simp [SV.res, El.res, At.res, keys]
theorem r109W {b : Book} {n : Int} : SV.res (keys (α := Pred) []) (.b (within n 0 (IntKind.i64.wrap (b.boys - 1)))) := by simp [SV.res, El.res, At.res, keys]
set_option maxHeartbeats 4000000 in
theorem c109W (b : Book) (n : Int)  : Sig Tryz.prog 109 [.e (.g [.q 0, .q 1, .q 2, ai (b.hall.change), .q 3, .q 4, .q 5, .q 6, ai (b.boys), .q 7]), .i (n)] [(0, PL ETm (b.hall.machs)), (1, PL EBd (b.hall.buns)), (2, PL EP.int (b.hall.trains)), (3, PL EP.int (b.hall.bores)), (4, PL (EP.sl EP.int) (b.hall.eds)), (5, PL EPl (b.set)), (6, PL EP.int (b.walk)), (7, PL ETa (b.tals))] (.b (within n 0 (IntKind.i64.wrap (b.boys - 1)))) [] := by
  refine Sig.intro Tryz.func109 rfl 8 [(0, .e (.g [.q 0, .q 1, .q 2, ai (b.hall.change), .q 3, .q 4, .q 5, .q 6, ai (b.boys), .q 7])), (1, .i (n))] rfl w109W rfl rfl fun I w => ?_
  refine WP.seq (WP.region ?_)
  refine WPl.l 8 9 rfl rfl rfl (o_boxg rfl) ?_
  refine WPl.v rfl (o_assign rfl) ?_
  refine WPl.nil (EX.then (WP.seq (WP.region ?_)))
  refine WPl.v rfl (o_move rfl) ?_
  refine WPl.v rfl (o_fldp F33_3 rfl) ?_
  refine WPl.v rfl (o_ldp S3 rfl rfl rfl) ?_
  refine WPl.v rfl (o_subw rfl rfl) ?_
  refine WPl.cs 9 rfl rfl rfl rfl (o_sig 9 id (c88 n 0 (IntKind.i64.wrap (b.boys - 1))) e88 rfl rfl rfl w88 trivial r88) ?_
  refine WPl.v rfl (o_assign rfl) ?_
  refine WPl.nil (EX.then (WP.ret ?_))
  exact EX.fin id (.inl rfl) rfl (.tmp rfl .nil) rfl r109W trivial (by simp) (by simp)
theorem w41 {b : Book} {n : Int} : ∀ x ∈ ([.e (.g [.q 0, .q 1, .q 2, ai (b.hall.change), .q 3, .q 4, .q 5, .q 6, ai (b.boys), .q 7]), .i (n)] : List SV), x.res (keys (α := Pred) [(0, PL ETm (b.hall.machs)), (1, PL EBd (b.hall.buns)), (2, PL EP.int (b.hall.trains)), (3, PL EP.int (b.hall.bores)), (4, PL (EP.sl EP.int) (b.hall.eds)), (5, PL EPl (b.set)), (6, PL EP.int (b.walk)), (7, PL ETa (b.tals))]) := by simp [SV.res, El.res, At.res, keys]
theorem r41 {b : Book} {n : Int} : SV.res (keys (α := Pred) []) (.t [.a (ai (honV b n)), .a (ai (honE b n))]) := by simp [SV.res, El.res, At.res, keys]
set_option maxHeartbeats 4000000 in
theorem c41 (b : Book) (n : Int) (hm : b.Small) : Sig Tryz.prog 41 [.e (.g [.q 0, .q 1, .q 2, ai (b.hall.change), .q 3, .q 4, .q 5, .q 6, ai (b.boys), .q 7]), .i (n)] [(0, PL ETm (b.hall.machs)), (1, PL EBd (b.hall.buns)), (2, PL EP.int (b.hall.trains)), (3, PL EP.int (b.hall.bores)), (4, PL (EP.sl EP.int) (b.hall.eds)), (5, PL EPl (b.set)), (6, PL EP.int (b.walk)), (7, PL ETa (b.tals))] (.t [.a (ai (honV b n)), .a (ai (honE b n))]) [] := by
  have hm1 := hm.h.m
  have hm2 := hm.h.b
  have hm3 := hm.h.t
  have hm4 := hm.h.o
  have hm5 := hm.h.e
  have hm6 := hm.s
  have hm7 := hm.w
  have hm8 := hm.t
  refine Sig.intro Tryz.func41 rfl 8 [(0, .e (.g [.q 0, .q 1, .q 2, ai (b.hall.change), .q 3, .q 4, .q 5, .q 6, ai (b.boys), .q 7])), (1, .i (n))] rfl w41 rfl rfl fun I w => ?_
  refine WP.seq (WP.region ?_)
  refine WPl.l 8 9 rfl rfl rfl (o_boxg rfl) ?_
  refine WPl.v rfl (o_assign rfl) ?_
  refine WPl.v rfl (o_assign rfl) ?_
  refine WPl.nil (EX.then (WP.seq (WP.seq ?_)))
  refine WP.draw (nf := 9) [⟨[13, 14, 15], [], [], [], []⟩, ⟨[12, 14], [], [], [], []⟩, ⟨[12, 13], [], [], [], []⟩, ⟨[12], [], [], [], [1, 2]⟩, ⟨[], [], [], [], [0, 1, 2, 3]⟩, ⟨[], [], [], [], [0, 1, 2, 3, 4]⟩] (by kernel_rfl) (by kernel_rfl) ?_
  refine DRQ.v rfl rfl rfl (o_ldpa G33 rfl rfl rfl) ?_
  refine DRQ.v rfl rfl rfl (o_ldpa G33 rfl rfl rfl) ?_
  refine DRQ.v rfl rfl rfl (o_move rfl) ?_
  refine DRQ.cs rfl rfl rfl rfl (o_sig 9 (ren [(0, 0), (1, 1), (2, 2), (3, 3), (4, 4), (5, 5), (6, 6), (7, 7)]) (c109W b n) e109 rfl rfl rfl w109W ⟨(lx rfl), (lx rfl), (lx rfl), (lx rfl), (lx rfl), (lx rfl), (lx rfl), (lx rfl), trivial⟩ r109W) ?_
  refine DRQ.cs rfl rfl rfl rfl (o_sig 9 (ren [(0, 0), (1, 1), (2, 2), (3, 3), (4, 4), (5, 5), (6, 6), (7, 7)]) (c86 b (within n 0 (IntKind.i64.wrap (b.boys - 1))) hm) e86 rfl rfl rfl w86 ⟨(lx rfl), (lx rfl), (lx rfl), (lx rfl), (lx rfl), (lx rfl), (lx rfl), (lx rfl), trivial⟩ r86) ?_
  refine DRQ.v rfl rfl rfl (o_assign rfl) ?_
  refine DRQ.nil' ?_
  refine EX.then (WP.seq (WP.region ?_))
  refine WPl.v rfl (o_move rfl) ?_
  refine WPl.v rfl (o_neq rfl rfl) ?_
  refine WPl.nil (EX.then ?_)
  refine WP.cond rfl (fun hc1 => ?_) (fun hc1 => ?_)
  · try simp only [cnd] at hc1
    refine WP.seq (WP.region ?_)
    refine WPl.v rfl (o_move rfl) ?_
    refine WPl.v rfl (o_assign rfl) ?_
    refine WPl.v rfl (o_assign rfl) ?_
    refine WPl.nil (EX.then (WP.ret (EX.ret_then ?_)))
    rw [show honV b n = 0 from if_neg hc1, show honE b n = askE b (within n 0 (IntKind.i64.wrap (b.boys - 1))) from rfl]
    exact EX.fin id (.inl rfl) rfl (.tmp rfl (.tmp rfl .nil)) rfl (by simp [SV.res, El.res, At.res, keys]) trivial (by simp) (by simp)
  · try simp only [cnd] at hc1
    have hf : honE b n = 0 := by first | exact hc1 | simpa using hc1
    have hcv := (askE_eq.1 hf).1
    have hrv := (askE_eq.1 hf).2
    have hB := bookB hcv
    have hln : (storS b).length = (stS b).length := storS_len b
    have hsl := stS_len hB.t
    have ht8 := hB.t
    have hst := stS_lt hB.t
    refine WP.skip (EX.then (WP.seq (WP.region ?_)))
    refine WPl.v rfl (o_ldpa G33 rfl rfl rfl) ?_
    refine WPl.cs 10 rfl rfl rfl rfl (o_sig 9 (ren [(0, 0), (1, 1), (2, 2), (3, 3), (4, 4), (5, 5), (6, 6), (7, 7)]) (c89 b hm hcv) e89 rfl rfl rfl w89 ⟨(lx rfl), (lx rfl), (lx rfl), (lx rfl), (lx rfl), (lx rfl), (lx rfl), (lx rfl), trivial⟩ r89) ?_
    refine WPl.v rfl (o_assign rfl) ?_
    refine WPl.nil (EX.then (WP.seq (WP.region ?_)))
    refine WPl.v rfl (o_assign rfl) ?_
    refine WPl.nil (EX.then (WP.seq (WP.seq (WP.region ?_))))
    refine WPl.v rfl (o_assign rfl) ?_
    refine WPl.nil (EX.then (WP.block ?_))
    refine WP.loop (Gh := Nat) (fun i => ⟨10, [(1, .i (n)), (2, .e (.a (.p 8 (0)))), (4, .i (0)), (5, .i (0)), (7, .e (.a (.q 9))), (8, .i (cntL (honL b n) (storS b) i)), (9, .i ((i : Int)))], [(0, PL ETm (b.hall.machs)), (1, PL EBd (b.hall.buns)), (2, PL EP.int (b.hall.trains)), (3, PL EP.int (b.hall.bores)), (4, PL (EP.sl EP.int) (b.hall.eds)), (5, PL EPl (b.set)), (6, PL EP.int (b.walk)), (7, PL ETa (b.tals)), (9, PL (EP.sl EP.int) (storS b))], [(8, .blk [.q 0, .q 1, .q 2, ai (b.hall.change), .q 3, .q 4, .q 5, .q 6, ai (b.boys), .q 7] 33)], [], []⟩) (fun i => i ≤ (storS b).length) (fun i => (storS b).length - i) (0) id ?_ (LeR.of ⟨rfl, rfl, rfl, rfl, rfl, rfl, rfl, trivial⟩ ⟨(lx rfl), (lx rfl), (lx rfl), (lx rfl), (lx rfl), (lx rfl), (lx rfl), (lx rfl), (lx rfl), trivial⟩ ⟨rfl, trivial⟩ rfl rfl rfl rfl rfl) ?_
    · first | trivial | omega | (constructor <;> omega) | simp
    intro i hφ
    have hi : i ≤ (storS b).length := hφ
    have hcb := cntL_bnd (honL b n) (storS b) i
    refine WP.seq (WP.seq (WP.region ?_))
    refine WPl.v rfl (o_move rfl) ?_
    refine WPl.v rfl (o_move rfl) ?_
    refine WPl.v rfl (o_lenq L27 rfl (lx rfl)) ?_
    refine WPl.v rfl (o_lss rfl rfl) ?_
    refine WPl.nil (EX.then ?_)
    refine WP.cond rfl (fun hc2 => ?_) (fun hc2 => ?_)
    · try simp only [cnd] at hc2
      have hrow := storS_row (b := b) (i := i) (by omega)
      refine WP.skip (EX.then (WP.seq (WP.block (WP.seq (WP.region ?_)))))
      refine WPl.v rfl (o_assign rfl) ?_
      refine WPl.nil (EX.then (WP.seq (WP.seq (WP.region ?_))))
      refine WPl.v rfl (o_assign rfl) ?_
      refine WPl.nil (EX.then (WP.block ?_))
      refine WP.loop (Gh := Nat) (fun j => ⟨10, [(1, .i (n)), (2, .e (.a (.p 8 (0)))), (4, .i (0)), (5, .i (0)), (7, .e (.a (.q 9))), (8, .i (cntL (honL b n) (storS b) i)), (9, .i ((i : Int))), (22, .i ((i : Int))), (23, .e (.a (.q 9))), (24, .i (((storS b).length : Int))), (25, .b (decide ((i : Int) < ((storS b).length : Int)))), (10, .b (allI (missG (boyAt b n) (nth (storS b) (i : Int))) j)), (11, .i ((j : Int)))], [(0, PL ETm (b.hall.machs)), (1, PL EBd (b.hall.buns)), (2, PL EP.int (b.hall.trains)), (3, PL EP.int (b.hall.bores)), (4, PL (EP.sl EP.int) (b.hall.eds)), (5, PL EPl (b.set)), (6, PL EP.int (b.walk)), (7, PL ETa (b.tals)), (9, PL (EP.sl EP.int) (storS b))], [(8, .blk [.q 0, .q 1, .q 2, ai (b.hall.change), .q 3, .q 4, .q 5, .q 6, ai (b.boys), .q 7] 33)], [], []⟩) (fun j => j ≤ (nth (storS b) (i : Int)).length) (fun j => (nth (storS b) (i : Int)).length - j) (0) id ?_ (LeR.of ⟨rfl, rfl, rfl, rfl, rfl, rfl, rfl, rfl, rfl, rfl, rfl, (congrArg (fun z => some (SV.b z)) (show (true) = ((fun j => allI (missG (boyAt b n) (nth (storS b) (i : Int))) j) 0) from rfl)), rfl, trivial⟩ ⟨(lx rfl), (lx rfl), (lx rfl), (lx rfl), (lx rfl), (lx rfl), (lx rfl), (lx rfl), (lx rfl), trivial⟩ ⟨rfl, trivial⟩ rfl rfl rfl rfl rfl) ?_
      · first | trivial | omega | (constructor <;> omega) | simp
      intro j hφ
      have hj : j ≤ (nth (storS b) (i : Int)).length := hφ
      refine WP.seq (WP.seq (WP.region ?_))
      refine WPl.v rfl (o_move rfl) ?_
      refine WPl.v rfl (o_move rfl) ?_
      refine WPl.v rfl (o_move rfl) ?_
      refine WPl.x 10 11 rfl rfl rfl (o_idx L27 rfl (lx rfl) rfl (by first | omega | (simp; omega)) (by first | omega | (simp; omega))) ?_
      refine WPl.x 11 12 rfl rfl rfl (o_ldqx S24 rfl (lx rfl) slx) ?_
      refine WPl.v rfl (o_lenq L24 rfl (lx rfl)) ?_
      refine WPl.v rfl (o_lss rfl rfl) ?_
      refine WPl.nil (EX.then ?_)
      refine WP.cond rfl (fun hc3 => ?_) (fun hc3 => ?_)
      · try simp only [cnd] at hc3
        have hin := storS_in ht8 (i := i) (by omega) (j := j) (by omega)
        refine WP.skip (EX.then (WP.seq (WP.block ?_)))
        refine WP.imp (Imp.bit 12 13 (allI (missG (boyAt b n) (nth (storS b) (i : Int))) j) rfl rfl) ?_
        refine WP.draw (nf := 17) [⟨[], [], [], [], []⟩, ⟨[], [], [], [], [0]⟩, ⟨[41, 42, 43, 44, 45, 46, 47, 51], [13, 14, 15], [], [], [0, 1]⟩, ⟨[41, 42, 43, 44, 45, 46, 47, 51], [13, 14, 15], [], [], [0, 1, 2]⟩, ⟨[39, 40, 42, 45, 51], [], [], [], [0, 1]⟩, ⟨[39, 40, 41, 45, 51], [], [], [], [0, 1]⟩, ⟨[39, 40, 45, 51], [], [13], [13], [0, 1, 4, 5]⟩, ⟨[39, 40, 45, 51], [], [14], [14], [0, 1, 4, 5, 6]⟩, ⟨[39, 40, 41, 42, 43, 44, 51], [13, 14], [], [], [0, 1]⟩, ⟨[39, 40, 51], [], [15], [15], [0, 1, 4, 5, 6, 7, 8]⟩, ⟨[39, 40, 51], [], [], [], [0, 1, 4, 5, 6, 7, 8, 9]⟩, ⟨[51], [], [16], [16], [0, 1, 2, 3, 4, 5, 6, 7, 8, 9, 10]⟩, ⟨[51], [], [], [], [0, 1, 2, 3, 4, 5, 6, 7, 8, 9, 10, 11]⟩, ⟨[51], [], [], [], [0, 1, 2, 3, 4, 5, 6, 7, 8, 9, 10, 11, 12]⟩, ⟨[39, 40, 41, 42, 43, 44, 45, 46, 47, 48, 49, 50], [13, 14, 15, 16], [], [], [0, 1]⟩, ⟨[], [], [], [], [0, 1, 2, 3, 4, 5, 6, 7, 8, 9, 10, 11, 12, 13, 14]⟩, ⟨[], [], [], [], [0, 1, 2, 3, 4, 5, 6, 7, 8, 9, 10, 11, 12, 13, 14, 15]⟩, ⟨[], [], [], [], [0, 1, 2, 3, 4, 5, 6, 7, 8, 9, 10, 11, 12, 13, 14, 15, 16]⟩] (by kernel_rfl) (by kernel_rfl) ?_
        refine DRQ.v rfl rfl rfl (o_move rfl) ?_
        refine DRQ.v rfl rfl rfl (o_move rfl) ?_
        refine DRQ.gv 12 rfl rfl (.plain rfl Iff.rfl rfl) rfl (fun hb => o_fldp F33_4 rfl) ?_
        refine DRQ.gv 12 rfl rfl (.plain rfl Iff.rfl rfl) rfl (fun hb => o_ldp S31 rfl rfl rfl) ?_
        refine DRQ.gv 12 rfl rfl (.plain rfl Iff.rfl rfl) rfl (fun hb => o_move rfl) ?_
        refine DRQ.gv 12 rfl rfl (.plain rfl Iff.rfl rfl) rfl (fun hb => o_move rfl) ?_
        refine DRQ.gx 12 13 rfl rfl (.plain rfl Iff.rfl rfl) rfl rfl (fun hb => o_idx L27 rfl (lx rfl) rfl (by first | omega | (simp; omega)) (by first | omega | (simp; omega))) ?_
        refine DRQ.gx 12 14 rfl rfl (.plain rfl Iff.rfl rfl) rfl rfl (fun hb => o_ldqx S24 rfl (lxi hb rfl) slx) ?_
        refine DRQ.gv 12 rfl rfl (.plain rfl Iff.rfl rfl) rfl (fun hb => o_move rfl) ?_
        refine DRQ.gx 12 15 rfl rfl (.plain rfl Iff.rfl rfl) rfl rfl (fun hb => o_idx L24 rfl (lxi hb rfl) rfl (by first | omega | (simp; omega)) (by first | omega | (simp; omega))) ?_
        refine DRQ.gv 12 rfl rfl (.plain rfl Iff.rfl rfl) rfl (fun hb => o_ldq S3 rfl (lxi hb rfl) intc) ?_
        refine DRQ.gx 12 16 rfl rfl (.plain rfl Iff.rfl rfl) rfl rfl (fun hb => o_idx L31 rfl (lx rfl) rfl (by first | omega | (simp; omega)) (by first | omega | (simp; omega))) ?_
        refine DRQ.gv 12 rfl rfl (.plain rfl Iff.rfl rfl) rfl (fun hb => o_fldq F58_0 rfl (lxi hb rfl)) ?_
        refine DRQ.gv 12 rfl rfl (.plain rfl Iff.rfl rfl) rfl (fun hb => o_lde S3 rfl (lxi hb rfl) (strI rfl)) ?_
        refine DRQ.gv 12 rfl rfl (.plain rfl Iff.rfl rfl) rfl (fun hb => o_move rfl) ?_
        refine DRQ.gv 12 rfl rfl (.plain rfl Iff.rfl rfl) rfl (fun hb => o_neq rfl rfl) ?_
        refine DRQ.v rfl rfl rfl (o_and rfl rfl rfl id) ?_
        refine DRQ.v rfl rfl rfl (o_assign rfl) ?_
        refine DRQ.nil' ?_
        refine EX.blk (EX.then (WP.region ?_))
        refine WPl.v rfl (o_move rfl) ?_
        refine WPl.v rfl (o_add rfl rfl (by first | omega | (simp; omega)) (by first | omega | (simp; omega))) ?_
        refine WPl.v rfl (o_assign rfl) ?_
        refine WPl.nil ?_
        refine EX.again (j + 1) id (by first | omega | (constructor <;> omega)) (by omega) (LeR.of ⟨rfl, rfl, rfl, rfl, rfl, rfl, rfl, rfl, rfl, rfl, rfl, (congrArg (fun z => some (SV.b z)) (show ((allI (missG (boyAt b n) (nth (storS b) (i : Int))) j) && (decide (((nth b.tals (nth (nth (storS b) (i : Int)) (j : Int))).boy) ≠ n))) = ((fun j => allI (missG (boyAt b n) (nth (storS b) (i : Int))) j) (j + 1)) from by dsimp only; simp only [allI, missG, boyAt]; congr 1; simp)), rfl, trivial⟩ ⟨(lx rfl), (lx rfl), (lx rfl), (lx rfl), (lx rfl), (lx rfl), (lx rfl), (lx rfl), (lx rfl), trivial⟩ ⟨rfl, trivial⟩ rfl rfl rfl rfl rfl)
      · try simp only [cnd] at hc3
        refine WP.exit (EX.exit_then (EX.exit_then (EX.exit_blk (EX.then (WP.seq (WP.region ?_))))))
        refine WPl.v rfl (o_move rfl) ?_
        refine WPl.nil (EX.then ?_)
        refine WP.cond rfl (fun hc4 => ?_) (fun hc4 => ?_)
        · try simp only [cnd] at hc4
          refine WP.region ?_
          refine WPl.v rfl (o_move rfl) ?_
          refine WPl.v rfl (o_add rfl rfl (by first | omega | (simp; omega)) (by first | omega | (simp; omega))) ?_
          refine WPl.v rfl (o_assign rfl) ?_
          refine WPl.nil (EX.blk (EX.then (WP.region ?_)))
          refine WPl.v rfl (o_move rfl) ?_
          refine WPl.v rfl (o_add rfl rfl (by first | omega | (simp; omega)) (by first | omega | (simp; omega))) ?_
          refine WPl.v rfl (o_assign rfl) ?_
          refine WPl.nil ?_
          have hje : j = (nth (storS b) (i : Int)).length := by omega
          refine EX.again (i + 1) id (by first | omega | (constructor <;> omega)) (by omega) (LeR.of ⟨rfl, rfl, rfl, rfl, rfl, (congrArg (fun z => some (SV.i z)) (show ((cntL (honL b n) (storS b) i) + 1) = ((fun i => cntL (honL b n) (storS b) i) (i + 1)) from by dsimp only; simp only [cntL]; rw [if_pos (by unfold honL; rw [← hje]; exact hc4)])), rfl, trivial⟩ ⟨(lx rfl), (lx rfl), (lx rfl), (lx rfl), (lx rfl), (lx rfl), (lx rfl), (lx rfl), (lx rfl), trivial⟩ ⟨rfl, trivial⟩ rfl rfl rfl rfl rfl)
        · try simp only [cnd] at hc4
          refine WP.skip (EX.blk (EX.then (WP.region ?_)))
          refine WPl.v rfl (o_move rfl) ?_
          refine WPl.v rfl (o_add rfl rfl (by first | omega | (simp; omega)) (by first | omega | (simp; omega))) ?_
          refine WPl.v rfl (o_assign rfl) ?_
          refine WPl.nil ?_
          have hje : j = (nth (storS b) (i : Int)).length := by omega
          refine EX.again (i + 1) id (by first | omega | (constructor <;> omega)) (by omega) (LeR.of ⟨rfl, rfl, rfl, rfl, rfl, (congrArg (fun z => some (SV.i z)) (show (cntL (honL b n) (storS b) i) = ((fun i => cntL (honL b n) (storS b) i) (i + 1)) from by dsimp only; simp only [cntL]; rw [if_neg (by unfold honL; rw [← hje, hc4]; simp)])), rfl, trivial⟩ ⟨(lx rfl), (lx rfl), (lx rfl), (lx rfl), (lx rfl), (lx rfl), (lx rfl), (lx rfl), (lx rfl), trivial⟩ ⟨rfl, trivial⟩ rfl rfl rfl rfl rfl)
    · try simp only [cnd] at hc2
      refine WP.exit (EX.exit_then (EX.exit_then (EX.exit_blk (EX.then (WP.seq (WP.region ?_))))))
      refine WPl.v rfl (o_move rfl) ?_
      refine WPl.v rfl (o_move rfl) ?_
      refine WPl.v rfl (o_lenq L27 rfl (lx rfl)) ?_
      refine WPl.cs 10 rfl rfl rfl rfl (o_sig 10 id (c91 (cntL (honL b n) (storS b) i) ((storS b).length : Int)) e91 rfl rfl rfl w91 trivial r91) ?_
      refine WPl.v rfl (o_assign rfl) ?_
      refine WPl.v rfl (o_assign rfl) ?_
      refine WPl.nil (EX.then (WP.ret ?_))
      have hie : i = (stS b).length := by omega
      rw [hf, hln, hie, show honV b n = knB b (honS b n) from if_pos hf, ← hon_law ht8]
      exact EX.fin id (.inl rfl) rfl (.tmp rfl (.tmp rfl .nil)) rfl (by simp [SV.res, El.res, At.res, keys]) trivial (by simp) (by simp)
theorem w42 {b : Book} {n : Int} : ∀ x ∈ ([.e (.g [.q 0, .q 1, .q 2, ai (b.hall.change), .q 3, .q 4, .q 5, .q 6, ai (b.boys), .q 7]), .i (n)] : List SV), x.res (keys (α := Pred) [(0, PL ETm (b.hall.machs)), (1, PL EBd (b.hall.buns)), (2, PL EP.int (b.hall.trains)), (3, PL EP.int (b.hall.bores)), (4, PL (EP.sl EP.int) (b.hall.eds)), (5, PL EPl (b.set)), (6, PL EP.int (b.walk)), (7, PL ETa (b.tals))]) := by simp [SV.res, El.res, At.res, keys]
theorem r42 {b : Book} {n : Int} : SV.res (keys (α := Pred) []) (.t [.g [ai ((plV b n).1), ai ((plV b n).2)], .a (ai (plE b n))]) := by simp [SV.res, El.res, At.res, keys]
set_option maxHeartbeats 4000000 in
theorem c42 (b : Book) (n : Int) (hm : b.Small) : Sig Tryz.prog 42 [.e (.g [.q 0, .q 1, .q 2, ai (b.hall.change), .q 3, .q 4, .q 5, .q 6, ai (b.boys), .q 7]), .i (n)] [(0, PL ETm (b.hall.machs)), (1, PL EBd (b.hall.buns)), (2, PL EP.int (b.hall.trains)), (3, PL EP.int (b.hall.bores)), (4, PL (EP.sl EP.int) (b.hall.eds)), (5, PL EPl (b.set)), (6, PL EP.int (b.walk)), (7, PL ETa (b.tals))] (.t [.g [ai ((plV b n).1), ai ((plV b n).2)], .a (ai (plE b n))]) [] := by
  have hm1 := hm.h.m
  have hm2 := hm.h.b
  have hm3 := hm.h.t
  have hm4 := hm.h.o
  have hm5 := hm.h.e
  have hm6 := hm.s
  have hm7 := hm.w
  have hm8 := hm.t
  refine Sig.intro Tryz.func42 rfl 8 [(0, .e (.g [.q 0, .q 1, .q 2, ai (b.hall.change), .q 3, .q 4, .q 5, .q 6, ai (b.boys), .q 7])), (1, .i (n))] rfl w42 rfl rfl fun I w => ?_
  refine WP.seq (WP.region ?_)
  refine WPl.l 8 9 rfl rfl rfl (o_boxg rfl) ?_
  refine WPl.l 9 10 rfl rfl rfl (o_alloc Z60) ?_
  refine WPl.v rfl (o_assign rfl) ?_
  refine WPl.nil (EX.then (WP.seq (WP.seq ?_)))
  refine WP.draw (nf := 10) [⟨[14, 15], [], [], [], []⟩, ⟨[13], [], [], [], []⟩, ⟨[13], [], [], [], [1]⟩, ⟨[], [], [], [], [0, 1, 2]⟩, ⟨[], [], [], [], [0, 1, 2, 3]⟩] (by kernel_rfl) (by kernel_rfl) ?_
  refine DRQ.v rfl rfl rfl (o_ldpa G33 rfl rfl rfl) ?_
  refine DRQ.v rfl rfl rfl (o_move rfl) ?_
  refine DRQ.cs rfl rfl rfl rfl (o_sig 10 id (c110 n) e110 rfl rfl rfl w110 trivial r110) ?_
  refine DRQ.cs rfl rfl rfl rfl (o_sig 10 (ren [(0, 0), (1, 1), (2, 2), (3, 3), (4, 4), (5, 5), (6, 6), (7, 7)]) (c86 b (within n 0 3) hm) e86 rfl rfl rfl w86 ⟨(lx rfl), (lx rfl), (lx rfl), (lx rfl), (lx rfl), (lx rfl), (lx rfl), (lx rfl), trivial⟩ r86) ?_
  refine DRQ.v rfl rfl rfl (o_assign rfl) ?_
  refine DRQ.nil' ?_
  refine EX.then (WP.seq (WP.region ?_))
  refine WPl.v rfl (o_move rfl) ?_
  refine WPl.v rfl (o_neq rfl rfl) ?_
  refine WPl.nil (EX.then ?_)
  refine WP.cond rfl (fun hc1 => ?_) (fun hc1 => ?_)
  · try simp only [cnd] at hc1
    refine WP.seq (WP.region ?_)
    refine WPl.v rfl (o_build B60 rfl trivial rfl rfl) ?_
    refine WPl.v rfl (o_move rfl) ?_
    refine WPl.s1 (o_stag G60 rfl rfl rfl ⟨rfl, rfl, trivial⟩ rfl rfl) ?_
    refine WPl.v rfl (o_assign rfl) ?_
    refine WPl.nil (EX.then (WP.ret (EX.ret_then ?_)))
    rw [show plV b n = (0, 0) from if_neg hc1, show plE b n = askE b (within n 0 3) from rfl]
    exact EX.fin id (.inl rfl) rfl (.cellg G60 rfl rfl rfl (.tmp rfl .nil)) rfl (by simp [SV.res, El.res, At.res, keys]) trivial (by simp) (by simp)
  · try simp only [cnd] at hc1
    have hf : plE b n = 0 := by first | exact hc1 | simpa using hc1
    have hcv := (askE_eq.1 hf).1
    have hrv := (askE_eq.1 hf).2
    have hB := bookB hcv
    have hln : (storS b).length = (stS b).length := storS_len b
    have hsl := stS_len hB.t
    have ht8 := hB.t
    have hst := stS_lt hB.t
    refine WP.skip (EX.then (WP.seq (WP.region ?_)))
    refine WPl.v rfl (o_ldpa G33 rfl rfl rfl) ?_
    refine WPl.cs 11 rfl rfl rfl rfl (o_sig 10 (ren [(0, 0), (1, 1), (2, 2), (3, 3), (4, 4), (5, 5), (6, 6), (7, 7)]) (c89 b hm hcv) e89 rfl rfl rfl w89 ⟨(lx rfl), (lx rfl), (lx rfl), (lx rfl), (lx rfl), (lx rfl), (lx rfl), (lx rfl), trivial⟩ r89) ?_
    refine WPl.v rfl (o_assign rfl) ?_
    refine WPl.nil (EX.then (WP.seq (WP.region ?_)))
    refine WPl.v rfl (o_fldp F33_4 rfl) ?_
    refine WPl.v rfl (o_ldp S31 rfl rfl rfl) ?_
    refine WPl.v rfl (o_lenq L31 rfl (lx rfl)) ?_
    refine WPl.v rfl (o_build B60 rfl ⟨rfl, rfl, trivial⟩ rfl rfl) ?_
    refine WPl.l 11 12 rfl rfl rfl (o_alloc Z60) ?_
    refine WPl.s1 (o_stag G60 rfl rfl rfl ⟨rfl, rfl, trivial⟩ rfl rfl) ?_
    refine WPl.nil (EX.then (WP.seq (WP.seq (WP.region ?_))))
    refine WPl.v rfl (o_assign rfl) ?_
    refine WPl.nil (EX.then (WP.block ?_))
    refine WP.loop (Gh := Nat) (fun i => ⟨12, [(1, .i (n)), (2, .e (.a (.p 8 (0)))), (4, .e (.a (.p 9 (0)))), (5, .i (0)), (7, .e (.a (.q 10))), (8, .e (.a (.p 11 (0)))), (9, .i ((i : Int)))], [(0, PL ETm (b.hall.machs)), (1, PL EBd (b.hall.buns)), (2, PL EP.int (b.hall.trains)), (3, PL EP.int (b.hall.bores)), (4, PL (EP.sl EP.int) (b.hall.eds)), (5, PL EPl (b.set)), (6, PL EP.int (b.walk)), (7, PL ETa (b.tals)), (10, PL (EP.sl EP.int) (storS b))], [(8, .blk [.q 0, .q 1, .q 2, ai (b.hall.change), .q 3, .q 4, .q 5, .q 6, ai (b.boys), .q 7] 33), (9, .blk [ai (0), ai (0)] 60), (11, .blk [ai ((plL b n i).1), ai ((plL b n i).2)] 60)], [], []⟩) (fun i => i ≤ (storS b).length) (fun i => (storS b).length - i) (0) id ?_ (LeR.of ⟨rfl, rfl, rfl, rfl, rfl, rfl, rfl, trivial⟩ ⟨(lx rfl), (lx rfl), (lx rfl), (lx rfl), (lx rfl), (lx rfl), (lx rfl), (lx rfl), (lx rfl), trivial⟩ ⟨rfl, rfl, (congrArg (fun z => some (Ent.blk z 60)) (List.cons_eq_cons.2 ⟨(congrArg (fun z => ai z) (show ((b.tals.length : Int)) = ((fun i => (plL b n i).1) 0) from rfl)), (List.cons_eq_cons.2 ⟨(congrArg (fun z => ai z) (show (0) = ((fun i => (plL b n i).2) 0) from rfl)), (Eq.refl [])⟩)⟩)), trivial⟩ rfl rfl rfl rfl rfl) ?_
    · first | trivial | omega | (constructor <;> omega) | simp
    intro i hφ
    have hi : i ≤ (storS b).length := hφ
    refine WP.seq (WP.seq (WP.region ?_))
    refine WPl.v rfl (o_move rfl) ?_
    refine WPl.v rfl (o_move rfl) ?_
    refine WPl.v rfl (o_lenq L27 rfl (lx rfl)) ?_
    refine WPl.v rfl (o_lss rfl rfl) ?_
    refine WPl.nil (EX.then ?_)
    refine WP.cond rfl (fun hc2 => ?_) (fun hc2 => ?_)
    · try simp only [cnd] at hc2
      have hrow := storS_row (b := b) (i := i) (by omega)
      have hol := others_len b (nth (storS b) (i : Int))
      refine WP.skip (EX.then (WP.seq (WP.block (WP.seq (WP.region ?_)))))
      refine WPl.v rfl (o_assign rfl) ?_
      refine WPl.nil (EX.then (WP.seq ?_))
      refine WP.draw (nf := 15) [⟨[34, 35, 36, 37], [12, 13], [], [], []⟩, ⟨[33, 35], [], [], [], []⟩, ⟨[33, 34], [], [], [], []⟩, ⟨[33], [], [12], [12], [1, 2]⟩, ⟨[33], [], [13], [13], [1, 2, 3]⟩, ⟨[], [], [14], [14], [0, 1, 2, 3, 4]⟩, ⟨[], [], [], [], [0, 1, 2, 3, 4, 5]⟩] (by kernel_rfl) (by kernel_rfl) ?_
      refine DRQ.v rfl rfl rfl (o_ldpa G33 rfl rfl rfl) ?_
      refine DRQ.v rfl rfl rfl (o_move rfl) ?_
      refine DRQ.v rfl rfl rfl (o_move rfl) ?_
      refine DRQ.x 12 rfl rfl rfl rfl (o_idx L27 rfl (lx rfl) rfl (by first | omega | (simp; omega)) (by first | omega | (simp; omega))) ?_
      refine DRQ.x 13 rfl rfl rfl rfl (o_ldqx S24 rfl (lx rfl) slx) ?_
      refine DRQ.cs rfl rfl rfl rfl (o_sig 14 (ren [(0, 0), (1, 1), (2, 2), (3, 3), (4, 4), (5, 5), (6, 6), (7, 7), (8, 13)]) (c34 b (nth (storS b) (i : Int)) (by omega) (by omega)) e34 rfl rfl rfl w34 ⟨(lx rfl), (lx rfl), (lx rfl), (lx rfl), (lx rfl), (lx rfl), (lx rfl), (lx rfl), (lx rfl), trivial⟩ r34) ?_
      refine DRQ.v rfl rfl rfl (o_assign rfl) ?_
      refine DRQ.nil' ?_
      refine EX.then (WP.seq (WP.seq (WP.region ?_)))
      refine WPl.v rfl (o_assign rfl) ?_
      refine WPl.nil (EX.then (WP.block ?_))
      refine WP.loop (Gh := Nat) (fun j => ⟨15, [(1, .i (n)), (2, .e (.a (.p 8 (0)))), (4, .e (.a (.p 9 (0)))), (5, .i (0)), (7, .e (.a (.q 10))), (8, .e (.a (.p 11 (0)))), (9, .i ((i : Int))), (27, .i ((i : Int))), (28, .e (.a (.q 10))), (29, .i (((storS b).length : Int))), (30, .b (decide ((i : Int) < ((storS b).length : Int)))), (10, .i (pgL b n (othersR b (nth (storS b) (i : Int))) j)), (33, .e (.g [.q 0, .q 1, .q 2, ai (b.hall.change), .q 3, .q 4, .q 5, .q 6, ai (b.boys), .q 7])), (34, .e (.a (.q 10))), (35, .i ((i : Int))), (36, .e (.a (.q 12))), (37, .e (.a (.q 13))), (38, .e (.a (.q 14))), (11, .e (.a (.q 14))), (12, .i ((j : Int)))], [(0, PL ETm (b.hall.machs)), (1, PL EBd (b.hall.buns)), (2, PL EP.int (b.hall.trains)), (3, PL EP.int (b.hall.bores)), (4, PL (EP.sl EP.int) (b.hall.eds)), (5, PL EPl (b.set)), (6, PL EP.int (b.walk)), (7, PL ETa (b.tals)), (10, PL (EP.sl EP.int) (storS b)), (12, PP (EP.sl EP.int) (nth (storS b) (i : Int))), (13, PL EP.int (nth (storS b) (i : Int))), (14, PL EP.int (othersR b (nth (storS b) (i : Int))))], [(8, .blk [.q 0, .q 1, .q 2, ai (b.hall.change), .q 3, .q 4, .q 5, .q 6, ai (b.boys), .q 7] 33), (9, .blk [ai (0), ai (0)] 60), (11, .blk [ai ((plL b n i).1), ai ((plL b n i).2)] 60)], [], []⟩) (fun j => j ≤ (othersR b (nth (storS b) (i : Int))).length) (fun j => (othersR b (nth (storS b) (i : Int))).length - j) (0) id ?_ (LeR.of ⟨rfl, rfl, rfl, rfl, rfl, rfl, rfl, rfl, rfl, rfl, rfl, (congrArg (fun z => some (SV.i z)) (show (0) = ((fun j => pgL b n (othersR b (nth (storS b) (i : Int))) j) 0) from rfl)), rfl, rfl, rfl, rfl, rfl, rfl, rfl, rfl, trivial⟩ ⟨(lx rfl), (lx rfl), (lx rfl), (lx rfl), (lx rfl), (lx rfl), (lx rfl), (lx rfl), (lx rfl), (lx rfl), (lx rfl), (lx rfl), trivial⟩ ⟨rfl, rfl, rfl, trivial⟩ rfl rfl rfl rfl rfl) ?_
      · first | trivial | omega | (constructor <;> omega) | simp
      intro j hφ
      have hj : j ≤ (othersR b (nth (storS b) (i : Int))).length := hφ
      have hpb := pgL_bnd b n (othersR b (nth (storS b) (i : Int))) j
      refine WP.seq (WP.seq (WP.region ?_))
      refine WPl.v rfl (o_move rfl) ?_
      refine WPl.v rfl (o_move rfl) ?_
      refine WPl.v rfl (o_lenq L24 rfl (lx rfl)) ?_
      refine WPl.v rfl (o_lss rfl rfl) ?_
      refine WPl.nil (EX.then ?_)
      refine WP.cond rfl (fun hc3 => ?_) (fun hc3 => ?_)
      · try simp only [cnd] at hc3
        have hin := others_in b (nth (storS b) (i : Int)) j (by omega)
        refine WP.skip (EX.then (WP.seq (WP.block (WP.seq ?_))))
        refine WP.draw (nf := 17) [⟨[47, 48, 49, 50, 54], [15], [], [], []⟩, ⟨[47, 48, 49, 50, 54], [15], [], [], [0]⟩, ⟨[45, 46, 48, 54], [], [], [], []⟩, ⟨[45, 46, 47, 54], [], [], [], []⟩, ⟨[45, 46, 54], [], [15], [15], [2, 3]⟩, ⟨[45, 46, 54], [], [], [], [2, 3, 4]⟩, ⟨[54], [], [16], [16], [0, 1, 2, 3, 4, 5]⟩, ⟨[54], [], [], [], [0, 1, 2, 3, 4, 5, 6]⟩, ⟨[54], [], [], [], [0, 1, 2, 3, 4, 5, 6, 7]⟩, ⟨[45, 46, 47, 48, 49, 50, 51, 52, 53], [15, 16], [], [], []⟩, ⟨[], [], [], [], [0, 1, 2, 3, 4, 5, 6, 7, 8, 9]⟩] (by kernel_rfl) (by kernel_rfl) ?_
        refine DRQ.v rfl rfl rfl (o_fldp F33_4 rfl) ?_
        refine DRQ.v rfl rfl rfl (o_ldp S31 rfl rfl rfl) ?_
        refine DRQ.v rfl rfl rfl (o_move rfl) ?_
        refine DRQ.v rfl rfl rfl (o_move rfl) ?_
        refine DRQ.x 15 rfl rfl rfl rfl (o_idx L24 rfl (lx rfl) rfl (by first | omega | (simp; omega)) (by first | omega | (simp; omega))) ?_
        refine DRQ.v rfl rfl rfl (o_ldq S3 rfl (lx rfl) intc) ?_
        refine DRQ.x 16 rfl rfl rfl rfl (o_idx L31 rfl (lx rfl) rfl (by first | omega | (simp; omega)) (by first | omega | (simp; omega))) ?_
        refine DRQ.v rfl rfl rfl (o_fldq F58_1 rfl (lx rfl)) ?_
        refine DRQ.v rfl rfl rfl (o_lde S3 rfl (lx rfl) (strI rfl)) ?_
        refine DRQ.v rfl rfl rfl (o_move rfl) ?_
        refine DRQ.v rfl rfl rfl (o_eql rfl rfl) ?_
        refine DRQ.nil' ?_
        refine EX.then ?_
        refine WP.cond rfl (fun hc4 => ?_) (fun hc4 => ?_)
        · try simp only [cnd] at hc4
          refine WP.region ?_
          refine WPl.v rfl (o_move rfl) ?_
          refine WPl.v rfl (o_add rfl rfl (by first | omega | (simp; omega)) (by first | omega | (simp; omega))) ?_
          refine WPl.v rfl (o_assign rfl) ?_
          refine WPl.nil (EX.blk (EX.then (WP.region ?_)))
          refine WPl.v rfl (o_move rfl) ?_
          refine WPl.v rfl (o_add rfl rfl (by first | omega | (simp; omega)) (by first | omega | (simp; omega))) ?_
          refine WPl.v rfl (o_assign rfl) ?_
          refine WPl.nil ?_
          refine EX.again (j + 1) id (by first | omega | (constructor <;> omega)) (by omega) (LeR.of ⟨rfl, rfl, rfl, rfl, rfl, rfl, rfl, rfl, rfl, rfl, rfl, (congrArg (fun z => some (SV.i z)) (show ((pgL b n (othersR b (nth (storS b) (i : Int))) j) + 1) = ((fun j => pgL b n (othersR b (nth (storS b) (i : Int))) j) (j + 1)) from by dsimp only; simp only [pgL]; rw [if_pos (decide_eq_true hc4)])), rfl, rfl, rfl, rfl, rfl, rfl, rfl, rfl, trivial⟩ ⟨(lx rfl), (lx rfl), (lx rfl), (lx rfl), (lx rfl), (lx rfl), (lx rfl), (lx rfl), (lx rfl), (lx rfl), (lx rfl), (lx rfl), trivial⟩ ⟨rfl, rfl, rfl, trivial⟩ rfl rfl rfl rfl rfl)
        · try simp only [cnd] at hc4
          refine WP.skip (EX.blk (EX.then (WP.region ?_)))
          refine WPl.v rfl (o_move rfl) ?_
          refine WPl.v rfl (o_add rfl rfl (by first | omega | (simp; omega)) (by first | omega | (simp; omega))) ?_
          refine WPl.v rfl (o_assign rfl) ?_
          refine WPl.nil ?_
          refine EX.again (j + 1) id (by first | omega | (constructor <;> omega)) (by omega) (LeR.of ⟨rfl, rfl, rfl, rfl, rfl, rfl, rfl, rfl, rfl, rfl, rfl, (congrArg (fun z => some (SV.i z)) (show (pgL b n (othersR b (nth (storS b) (i : Int))) j) = ((fun j => pgL b n (othersR b (nth (storS b) (i : Int))) j) (j + 1)) from by dsimp only; simp only [pgL]; rw [if_neg (by rw [decide_eq_false hc4]; simp)])), rfl, rfl, rfl, rfl, rfl, rfl, rfl, rfl, trivial⟩ ⟨(lx rfl), (lx rfl), (lx rfl), (lx rfl), (lx rfl), (lx rfl), (lx rfl), (lx rfl), (lx rfl), (lx rfl), (lx rfl), (lx rfl), trivial⟩ ⟨rfl, rfl, rfl, trivial⟩ rfl rfl rfl rfl rfl)
      · try simp only [cnd] at hc3
        refine WP.exit (EX.exit_then (EX.exit_then (EX.exit_blk (EX.then (WP.region ?_)))))
        refine WPl.v rfl (o_fldp F60_0 rfl) ?_
        refine WPl.v rfl (o_ldp S3 rfl rfl rfl) ?_
        refine WPl.v rfl (o_move rfl) ?_
        refine WPl.v rfl (o_min rfl rfl) ?_
        refine WPl.v rfl (o_fldp F60_1 rfl) ?_
        refine WPl.v rfl (o_ldp S3 rfl rfl rfl) ?_
        refine WPl.v rfl (o_move rfl) ?_
        refine WPl.v rfl (o_max rfl rfl) ?_
        refine WPl.v rfl (o_build B60 rfl ⟨rfl, rfl, trivial⟩ rfl rfl) ?_
        refine WPl.s1 (o_stag G60 rfl rfl rfl ⟨rfl, rfl, trivial⟩ rfl rfl) ?_
        refine WPl.nil (EX.blk (EX.then (WP.region ?_)))
        refine WPl.v rfl (o_move rfl) ?_
        refine WPl.v rfl (o_add rfl rfl (by first | omega | (simp; omega)) (by first | omega | (simp; omega))) ?_
        refine WPl.v rfl (o_assign rfl) ?_
        refine WPl.nil ?_
        have hje : j = (othersR b (nth (storS b) (i : Int))).length := by omega
        refine EX.again (i + 1) id (by first | omega | (constructor <;> omega)) (by omega) (LeR.of ⟨rfl, rfl, rfl, rfl, rfl, rfl, rfl, trivial⟩ ⟨(lx rfl), (lx rfl), (lx rfl), (lx rfl), (lx rfl), (lx rfl), (lx rfl), (lx rfl), (lx rfl), trivial⟩ ⟨rfl, rfl, (congrArg (fun z => some (Ent.blk z 60)) (List.cons_eq_cons.2 ⟨(congrArg (fun z => ai z) (show (min ((plL b n i).1) (pgL b n (othersR b (nth (storS b) (i : Int))) j)) = ((fun i => (plL b n i).1) (i + 1)) from by rw [hje]; rfl)), (List.cons_eq_cons.2 ⟨(congrArg (fun z => ai z) (show (max ((plL b n i).2) (pgL b n (othersR b (nth (storS b) (i : Int))) j)) = ((fun i => (plL b n i).2) (i + 1)) from by rw [hje]; rfl)), (Eq.refl [])⟩)⟩)), trivial⟩ rfl rfl rfl rfl rfl)
    · try simp only [cnd] at hc2
      refine WP.exit (EX.exit_then (EX.exit_then (EX.exit_blk (EX.then (WP.seq (WP.region ?_))))))
      refine WPl.v rfl (o_ldpa G60 rfl rfl rfl) ?_
      refine WPl.s1 (o_stag G60 rfl rfl rfl ⟨rfl, rfl, trivial⟩ rfl rfl) ?_
      refine WPl.v rfl (o_assign rfl) ?_
      refine WPl.nil (EX.then (WP.ret ?_))
      have hie : i = (stS b).length := by omega
      rw [hf, show plV b n = plL b n i from by rw [hie, pl_law ht8 n _ (Nat.le_refl _)]; exact if_pos hf]
      exact EX.fin id (.inl rfl) rfl (.cellg G60 rfl rfl rfl (.tmp rfl .nil)) rfl (by simp [SV.res, El.res, At.res, keys]) trivial (by simp) (by simp)
end Go.Flong
namespace Go.Flong
open Go Go.Eng Go.Proofs
theorem e57 : Enters' Tryz.prog 57 := Tryz.call57
theorem Z26 : Zero Tryz.prog 26 [.v (.slice none 0 0), .v (.slice none 0 0), .v (.slice none 0 0), ai (0)] := .mk Tryz.zeroValue26 rfl rfl
theorem R22 : RowT Tryz.prog 22 156 3 24 [.int .i64 0, .int .i64 0, .int .i64 0] := ⟨Tryz.underlying22, ⟨Tryz.t156, _, by kernel_rfl, rfl, rfl, rfl, rfl⟩, rfl, by decide⟩
theorem R23 : RowT Tryz.prog 23 95 3 24 [.int .i64 0, .int .i64 0, .int .i64 0] := ⟨Tryz.underlying23, ⟨Tryz.t95, _, by kernel_rfl, rfl, rfl, rfl, rfl⟩, rfl, by decide⟩
theorem B26 : BldT Tryz.prog 26 [(0, 1), (1, 1), (2, 1), (3, 1)] [.slice none 0 0, .slice none 0 0, .slice none 0 0, .int .i64 0] := BldT.mk (ns := [1, 1, 1, 1]) Tryz.underlying26 ⟨Tryz.sizeOf22, Tryz.sizeOf23, Tryz.sizeOf24, Tryz.sizeOf3, trivial⟩ rfl Tryz.zeroValue26 rfl
theorem Z29 : Zero Tryz.prog 29 [.v (.slice none 0 0), .v (.slice none 0 0), .v (.slice none 0 0), ai (0), .v (.slice none 0 0), .v (.slice none 0 0)] := .mk Tryz.zeroValue29 rfl rfl
theorem e130 : Enters' Tryz.prog 130 := Tryz.call130
theorem e73 : Enters' Tryz.prog 73 := Tryz.call73
theorem B29 : BldT Tryz.prog 29 [(0, 4), (4, 1), (5, 1)] [.slice none 0 0, .slice none 0 0, .slice none 0 0, .int .i64 0, .slice none 0 0, .slice none 0 0] := BldT.mk (ns := [4, 1, 1]) Tryz.underlying29 ⟨Tryz.sizeOf26, Tryz.sizeOf24, Tryz.sizeOf27, trivial⟩ rfl Tryz.zeroValue29 rfl
theorem Z33 : Zero Tryz.prog 33 [.v (.slice none 0 0), .v (.slice none 0 0), .v (.slice none 0 0), ai (0), .v (.slice none 0 0), .v (.slice none 0 0), .v (.slice none 0 0), .v (.slice none 0 0), ai (0), .v (.slice none 0 0)] := .mk Tryz.zeroValue33 rfl rfl
theorem e74 : Enters' Tryz.prog 74 := Tryz.call74
theorem e28 : Enters' Tryz.prog 28 := Tryz.call28
theorem R31 : RowT Tryz.prog 31 58 4 32 [.int .i64 0, .int .i64 0, .int .i64 0, .int .i64 0] := ⟨Tryz.underlying31, ⟨Tryz.t58, _, by kernel_rfl, rfl, rfl, rfl, rfl⟩, rfl, by decide⟩
theorem B33 : BldT Tryz.prog 33 [(0, 6), (6, 1), (7, 1), (8, 1), (9, 1)] [.slice none 0 0, .slice none 0 0, .slice none 0 0, .int .i64 0, .slice none 0 0, .slice none 0 0, .slice none 0 0, .slice none 0 0, .int .i64 0, .slice none 0 0] := BldT.mk (ns := [6, 1, 1, 1, 1]) Tryz.underlying33 ⟨Tryz.sizeOf29, Tryz.sizeOf30, Tryz.sizeOf24, Tryz.sizeOf3, Tryz.sizeOf31, trivial⟩ rfl Tryz.zeroValue33 rfl
theorem w57F {c : List Int} : ∀ x ∈ ([.e (.a (.q 0))] : List SV), x.res (keys (α := Pred) [(0, PL EP.int (c))]) := by simp [SV.res, El.res, At.res, keys]
theorem r57F {c : List Int} : SV.res (keys (α := Pred) [(0, PL EPl (setOf c))]) (.e (.a (.q 0))) := by simp [SV.res, El.res, At.res, keys]
set_option maxHeartbeats 4000000 in
theorem c57F (c : List Int) (hl : c.length ≤ 1000) : SigF Tryz.prog 57 [.e (.a (.q 0))] [(0, PL EP.int (c))] (.e (.a (.q 0))) [(0, PL EPl (setOf c))] := by
  refine SigF.intro Tryz.func57 rfl 1 [(0, .e (.a (.q 0)))] rfl w57F rfl rfl fun I w => ?_
  refine WP.seq (WP.region ?_)
  refine WPl.v rfl (o_assign rfl) ?_
  refine WPl.nil (EX.then (WP.seq (WP.region ?_)))
  refine WPl.v rfl (o_assign rfl) ?_
  refine WPl.imp (Imp.namo EPl 1 2 77 rfl rfl) ?_
  refine WPl.imp (Imp.swF 3 1 rfl (lx rfl)) ?_
  refine WPl.nil (EX.then (WP.seq (WP.seq (WP.region ?_))))
  refine WPl.v rfl (o_assign rfl) ?_
  refine WPl.nil (EX.then (WP.block ?_))
  refine WP.loop (Gh := Nat) (fun i => ⟨2, [(0, .e (.a (.q 0))), (2, .e (.a (.v (.slice none 0 0)))), (3, .e (.a (.q 1))), (4, .i ((i : Int)))], [(0, PL EP.int (c))], [(1, .own 77 EPl.size (setTo c i).length (RP EPl (setTo c i)))], [], []⟩) (fun i => i ≤ c.length) (fun i => c.length - i) (0) id ?_ (LeR.of ⟨rfl, rfl, rfl, rfl, trivial⟩ ⟨(lx rfl), trivial⟩ ⟨rfl, trivial⟩ rfl rfl rfl rfl rfl) ?_
  · first | trivial | omega | (constructor <;> omega) | simp
  intro i hφ
  have hi : i ≤ c.length := hφ
  refine WP.seq (WP.seq (WP.region ?_))
  refine WPl.v rfl (o_move rfl) ?_
  refine WPl.v rfl (o_move rfl) ?_
  refine WPl.v rfl (o_lenq L24 rfl (lx rfl)) ?_
  refine WPl.v rfl (o_lss rfl rfl) ?_
  refine WPl.nil (EX.then ?_)
  refine WP.cond rfl (fun hc1 => ?_) (fun hc1 => ?_)
  · try simp only [cnd] at hc1
    refine WP.skip (EX.then (WP.seq (WP.block (WP.seq (WP.region ?_)))))
    refine WPl.v rfl (o_move rfl) ?_
    refine WPl.v rfl (o_move rfl) ?_
    refine WPl.x 2 3 rfl rfl rfl (o_idx L24 rfl (lx rfl) rfl (by first | omega | (simp; omega)) (by first | omega | (simp; omega))) ?_
    refine WPl.v rfl (o_ldq S3 rfl (lx rfl) intc) ?_
    refine WPl.v rfl (o_gtr rfl rfl) ?_
    refine WPl.nil (EX.then ?_)
    refine WP.cond rfl (fun hc2 => ?_) (fun hc2 => ?_)
    · try simp only [cnd] at hc2
      refine WP.region ?_
      refine WPl.v rfl (o_move rfl) ?_
      refine WPl.v rfl (o_move rfl) ?_
      refine WPl.v rfl (o_quo rfl rfl (by first | omega | (simp; omega)) (by first | omega | (simp; omega)) (by first | omega | (simp; omega))) ?_
      refine WPl.v rfl (o_move rfl) ?_
      refine WPl.v rfl (o_rem rfl rfl (by first | omega | (simp; omega)) (by first | omega | (simp; omega))) ?_
      refine WPl.v rfl (o_move rfl) ?_
      refine WPl.v rfl (o_move rfl) ?_
      refine WPl.x 3 4 rfl rfl rfl (o_idx L24 rfl (lx rfl) rfl (by first | omega | (simp; omega)) (by first | omega | (simp; omega))) ?_
      refine WPl.v rfl (o_ldq S3 rfl (lx rfl) intc) ?_
      refine WPl.v rfl (o_build B77 rfl ⟨rfl, rfl, rfl, trivial⟩ rfl rfl) ?_
      refine WPl.l 4 5 rfl rfl rfl (o_bsl (E := EPl) (l := [(⟨(i : Int).tdiv 3, (i : Int) % 3, nth c (i : Int)⟩ : Plate)]) R30 rfl rfl (.cons (⟨rfl, rfl, rfl, trivial⟩) rfl (eok_str ⟨rfl, rfl, rfl, trivial⟩) (.nil)) rfl rfl) ?_
      refine WPl.u1 (k := 5) (m := 6) rfl rfl rfl (o_appo R30 EP.str_one rfl rfl rfl rfl (by have := setTo_len c i; first | omega | (simp; omega)) (by have := setTo_len c i; first | omega | (simp; omega))) ?_
      refine WPl.v rfl (o_assign rfl) ?_
      refine WPl.nil (EX.blk (EX.then (WP.region ?_)))
      refine WPl.v rfl (o_move rfl) ?_
      refine WPl.v rfl (o_add rfl rfl (by first | omega | (simp; omega)) (by first | omega | (simp; omega))) ?_
      refine WPl.v rfl (o_assign rfl) ?_
      refine WPl.nil ?_
      refine EX.again (i + 1) (ren [(1, 5)]) (by first | omega | (constructor <;> omega)) (by omega) (LeR.of ⟨rfl, rfl, rfl, rfl, trivial⟩ ⟨(lx rfl), trivial⟩ ⟨(congrArg (fun z => some (Ent.own 77 EPl.size (List.length z) (RP EPl z))) (show ((setTo c i) ++ [(⟨(i : Int).tdiv 3, (i : Int) % 3, nth c (i : Int)⟩ : Plate)]) = ((fun i => setTo c i) (i + 1)) from by dsimp only; simp only [setTo]; rw [if_pos hc2])), trivial⟩ rfl rfl rfl rfl rfl)
    · try simp only [cnd] at hc2
      refine WP.skip (EX.blk (EX.then (WP.region ?_)))
      refine WPl.v rfl (o_move rfl) ?_
      refine WPl.v rfl (o_add rfl rfl (by first | omega | (simp; omega)) (by first | omega | (simp; omega))) ?_
      refine WPl.v rfl (o_assign rfl) ?_
      refine WPl.nil ?_
      refine EX.again (i + 1) id (by first | omega | (constructor <;> omega)) (by omega) (LeR.of ⟨rfl, rfl, rfl, rfl, trivial⟩ ⟨(lx rfl), trivial⟩ ⟨(congrArg (fun z => some (Ent.own 77 EPl.size (List.length z) (RP EPl z))) (show (setTo c i) = ((fun i => setTo c i) (i + 1)) from by dsimp only; simp only [setTo]; rw [if_neg hc2])), trivial⟩ rfl rfl rfl rfl rfl)
  · try simp only [cnd] at hc1
    refine WP.exit (EX.exit_then (EX.exit_then (EX.exit_blk (EX.then (WP.seq (WP.region ?_))))))
    refine WPl.v rfl (o_move rfl) ?_
    refine WPl.v rfl (o_assign rfl) ?_
    refine WPl.nil (EX.then (WP.ret ?_))
    refine EX.imp (Imp.frzf (E := EPl) (l := setTo c i) 1 (str_free rfl) rfl rfl) ?_
    have he : i = c.length := by omega
    subst he
    exact EX.fin (ren [(0, 1)]) (.inl rfl) rfl (.tmp rfl .nil) rfl (by simp [SV.res, El.res, At.res, keys]) ⟨(lx rfl), trivial⟩ (by simp) (by simp)
theorem w43 {b : Book} : ∀ x ∈ ([.e (.g [.q 0, .q 1, .q 2, ai (b.hall.change), .q 3, .q 4, .q 5, .q 6, ai (b.boys), .q 7])] : List SV), x.res (keys (α := Pred) [(0, PL ETm (b.hall.machs)), (1, PL EBd (b.hall.buns)), (2, PL EP.int (b.hall.trains)), (3, PL EP.int (b.hall.bores)), (4, PL (EP.sl EP.int) (b.hall.eds)), (5, PL EPl (b.set)), (6, PL EP.int (b.walk)), (7, PL ETa (b.tals))]) := by simp [SV.res, El.res, At.res, keys]
theorem r43 {b : Book} : SV.res (keys (α := Pred) [(0, PL EPl (lfV b))]) (.t [.a (.q 0), .a (ai (askE b true))]) := by simp [SV.res, El.res, At.res, keys]
set_option maxHeartbeats 4000000 in
theorem c43 (b : Book) (hm : b.Small) : Sig Tryz.prog 43 [.e (.g [.q 0, .q 1, .q 2, ai (b.hall.change), .q 3, .q 4, .q 5, .q 6, ai (b.boys), .q 7])] [(0, PL ETm (b.hall.machs)), (1, PL EBd (b.hall.buns)), (2, PL EP.int (b.hall.trains)), (3, PL EP.int (b.hall.bores)), (4, PL (EP.sl EP.int) (b.hall.eds)), (5, PL EPl (b.set)), (6, PL EP.int (b.walk)), (7, PL ETa (b.tals))] (.t [.a (.q 0), .a (ai (askE b true))]) [(0, PL EPl (lfV b))] := by
  have hm1 := hm.h.m
  have hm2 := hm.h.b
  have hm3 := hm.h.t
  have hm4 := hm.h.o
  have hm5 := hm.h.e
  have hm6 := hm.s
  have hm7 := hm.w
  have hm8 := hm.t
  refine Sig.intro Tryz.func43 rfl 8 [(0, .e (.g [.q 0, .q 1, .q 2, ai (b.hall.change), .q 3, .q 4, .q 5, .q 6, ai (b.boys), .q 7]))] rfl w43 rfl rfl fun I w => ?_
  refine WP.seq (WP.region ?_)
  refine WPl.l 8 9 rfl rfl rfl (o_boxg rfl) ?_
  refine WPl.v rfl (o_assign rfl) ?_
  refine WPl.v rfl (o_assign rfl) ?_
  refine WPl.nil (EX.then (WP.seq (WP.seq (WP.region ?_))))
  refine WPl.v rfl (o_ldpa G33 rfl rfl rfl) ?_
  refine WPl.cs 9 rfl rfl rfl rfl (o_sig 9 (ren [(0, 0), (1, 1), (2, 2), (3, 3), (4, 4), (5, 5), (6, 6), (7, 7)]) (c50 b hm) e50 rfl rfl rfl w50 ⟨(lx rfl), (lx rfl), (lx rfl), (lx rfl), (lx rfl), (lx rfl), (lx rfl), (lx rfl), trivial⟩ r50) ?_
  refine WPl.v rfl (o_assign rfl) ?_
  refine WPl.nil (EX.then (WP.seq (WP.region ?_)))
  refine WPl.v rfl (o_move rfl) ?_
  refine WPl.v rfl (o_neq rfl rfl) ?_
  refine WPl.nil (EX.then ?_)
  refine WP.cond rfl (fun hc1 => ?_) (fun hc1 => ?_)
  · try simp only [cnd] at hc1
    have hf : ¬ askE b true = 0 := fun g => hc1 (errT_eq.2 (askE_eq.1 g).1)
    have hE : errT b.chk = askE b true := (ask0 hc1).symm
    refine WP.seq (WP.region ?_)
    refine WPl.v rfl (o_move rfl) ?_
    refine WPl.v rfl (o_assign rfl) ?_
    refine WPl.v rfl (o_assign rfl) ?_
    refine WPl.nil (EX.then (WP.ret (EX.ret_then ?_)))
    refine EX.imp (Imp.nam 9 10 (.slice none 0 0) (R := PN EPl) pn_ok rfl rfl) ?_
    refine EX.imp (Imp.swF 2 9 rfl (lxr rfl)) ?_
    rw [show lfV b = [] from if_neg hf, ← hE]
    exact EX.fin (ren [(0, 9)]) (.inl rfl) rfl (.tmp rfl (.tmp rfl .nil)) rfl (by simp [SV.res, El.res, At.res, keys]) ⟨lxl rfl, trivial⟩ (by simp) (by simp)
  · try simp only [cnd] at hc1
    have hcv : b.chk = true := errT_eq.1 (by simpa using hc1)
    have hB := bookB hcv
    have hf : askE b true = 0 := askE_eq.2 ⟨hcv, rfl⟩
    have hln : (storS b).length = (stS b).length := storS_len b
    have hsl := stS_len hB.t
    have ht8 := hB.t
    have hst := stS_lt hB.t
    have hl0 : 0 < (storS b).length := by omega
    have hrow := storS_row (b := b) hl0
    have hrow0 : (nth (storS b) 0).length ≤ 8 := hrow
    have hol := others_len b (nth (storS b) 0)
    have hoi := others_in b (nth (storS b) 0)
    have hPS := setPls hB.p (by omega)
    have hlc := countsR_len b.set
    have hlg : (broughtR b (othersR b (nth (storS b) 0))).length = 12 := brR_len b _ _
    refine WP.skip (EX.then (WP.seq ?_))
    refine WP.draw (nf := 15) [⟨[16, 17, 18], [], [], [], []⟩, ⟨[16, 17, 18], [], [], [], [0]⟩, ⟨[16, 17, 18], [], [9], [9, 9], [0, 1]⟩, ⟨[13, 14, 15, 17, 18, 19, 20, 21, 22], [9, 10, 11, 12, 13], [], [], []⟩, ⟨[13, 14, 15, 16, 18, 19, 20, 21], [9, 10, 11, 12], [], [], []⟩, ⟨[13, 14, 15, 16, 17], [9], [], [], []⟩, ⟨[16, 17], [], [10], [10], [0, 1, 2, 5]⟩, ⟨[16, 17], [], [11], [11], [0, 1, 2, 5, 6]⟩, ⟨[16, 17], [], [12], [12], [0, 1, 2, 5, 6, 7]⟩, ⟨[16], [], [13], [13], [0, 1, 2, 4, 5, 6, 7, 8]⟩, ⟨[], [], [14], [14], [0, 1, 2, 3, 4, 5, 6, 7, 8, 9]⟩, ⟨[], [], [], [], [0, 1, 2, 3, 4, 5, 6, 7, 8, 9, 10]⟩, ⟨[], [], [], [], [0, 1, 2, 3, 4, 5, 6, 7, 8, 9, 10, 11]⟩] (by kernel_rfl) (by kernel_rfl) ?_
    refine DRQ.v rfl rfl rfl (o_fldp F33_1 rfl) ?_
    refine DRQ.v rfl rfl rfl (o_ldp S30 rfl rfl rfl) ?_
    refine DRQ.cL rfl rfl rfl rfl (o_sigo 9 (ren [(0, 5)]) (c36O b.set hPS) e36 rfl rfl SvsOK.rf w36O ⟨(lx rfl), trivial⟩ r36O rfl rfl) ?_
    refine DRQ.v rfl rfl rfl (o_ldpa G33 rfl rfl rfl) ?_
    refine DRQ.v rfl rfl rfl (o_ldpa G33 rfl rfl rfl) ?_
    refine DRQ.v rfl rfl rfl (o_ldpa G33 rfl rfl rfl) ?_
    refine DRQ.cs rfl rfl rfl rfl (o_sig 10 (ren [(0, 0), (1, 1), (2, 2), (3, 3), (4, 4), (5, 5), (6, 6), (7, 7)]) (c89 b hm hcv) e89 rfl rfl rfl w89 ⟨(lx rfl), (lx rfl), (lx rfl), (lx rfl), (lx rfl), (lx rfl), (lx rfl), (lx rfl), trivial⟩ r89) ?_
    refine DRQ.x 11 rfl rfl rfl rfl (o_idx L27 rfl (lx rfl) rfl (by first | omega | (simp; omega)) (by first | omega | (simp; omega))) ?_
    refine DRQ.x 12 rfl rfl rfl rfl (o_ldqx S24 rfl (lx rfl) slx) ?_
    refine DRQ.cs rfl rfl rfl rfl (o_sig 13 (ren [(0, 0), (1, 1), (2, 2), (3, 3), (4, 4), (5, 5), (6, 6), (7, 7), (8, 12)]) (c34 b (nth (storS b) 0) (by omega) (by omega)) e34 rfl rfl rfl w34 ⟨(lx rfl), (lx rfl), (lx rfl), (lx rfl), (lx rfl), (lx rfl), (lx rfl), (lx rfl), (lx rfl), trivial⟩ r34) ?_
    refine DRQ.cs rfl rfl rfl rfl (o_sig 14 (ren [(0, 0), (1, 1), (2, 2), (3, 3), (4, 4), (5, 5), (6, 6), (7, 7), (8, 13)]) (c35 b (othersR b (nth (storS b) 0)) hB (by omega) hoi) e35 rfl rfl rfl w35 ⟨(lx rfl), (lx rfl), (lx rfl), (lx rfl), (lx rfl), (lx rfl), (lx rfl), (lx rfl), (lx rfl), trivial⟩ r35) ?_
    refine DRQ.v rfl rfl rfl (o_assign rfl) ?_
    refine DRQ.v rfl rfl rfl (o_assign rfl) ?_
    refine DRQ.nil' ?_
    refine EX.then (WP.seq (WP.seq (WP.region ?_)))
    refine WPl.v rfl (o_assign rfl) ?_
    refine WPl.nil (EX.then (WP.block ?_))
    refine WP.loop (Gh := Nat) (fun i => ⟨15, [(2, .e (.a (.v (.slice none 0 0)))), (3, .i (0)), (5, .e (.a (.q 9))), (6, .e (.a (.q 14))), (7, .i ((i : Int)))], [(14, PL EP.int (broughtR b (othersR b (nth (storS b) 0))))], [(9, .own 3 EP.int.size (subTo (countsR b.set) (goneL b) i).length (RP EP.int (subTo (countsR b.set) (goneL b) i)))], [], []⟩) (fun i => i ≤ 12) (fun i => 12 - i) (0) id ?_ (LeR.of ⟨rfl, rfl, rfl, rfl, rfl, trivial⟩ ⟨(lx rfl), trivial⟩ ⟨rfl, trivial⟩ rfl rfl rfl rfl rfl) ?_
    · first | trivial | omega | (constructor <;> omega) | simp
    intro i hφ
    have hi : i ≤ 12 := hφ
    have hlen : (subTo (countsR b.set) (goneL b) i).length = 12 := by rw [subTo_len, countsR_len]
    refine WP.seq (WP.seq (WP.region ?_))
    refine WPl.v rfl (o_move rfl) ?_
    refine WPl.v rfl (o_move rfl) ?_
    refine WPl.v rfl (o_leno L24 rfl rfl) ?_
    refine WPl.v rfl (o_lss rfl rfl) ?_
    refine WPl.nil (EX.then ?_)
    refine WP.cond rfl (fun hc2 => ?_) (fun hc2 => ?_)
    · try simp only [cnd] at hc2
      have hsb : nth (subTo (countsR b.set) (goneL b) i) (i : Int) = nth (countsR b.set) (i : Int) := by rw [subTo_nth _ _ i i (by omega), if_neg (by omega)]
      have hcb : 0 ≤ nth (countsR b.set) (i : Int) ∧ nth (countsR b.set) (i : Int) ≤ 1000000 := cntTo_bnd hPS (i := b.set.length) (Nat.le_refl _) (by omega) (by omega)
      have hgb : 0 ≤ nth (broughtR b (othersR b (nth (storS b) 0))) (i : Int) ∧ nth (broughtR b (othersR b (nth (storS b) 0))) (i : Int) ≤ (othersR b (nth (storS b) 0)).length := brR_bnd hB hoi (Nat.le_refl _) (by omega)
      refine WP.skip (EX.then (WP.seq (WP.block ?_)))
      refine WP.draw (nf := 16) [⟨[31, 34, 35, 36, 37], [15], [], [], []⟩, ⟨[30, 34, 35, 36, 37], [15], [], [], []⟩, ⟨[34, 35, 36, 37], [15], [], [], [0, 1]⟩, ⟨[34, 35, 36, 37], [15], [], [], [0, 1, 2]⟩, ⟨[30, 31, 32, 33, 35], [], [], [], []⟩, ⟨[30, 31, 32, 33, 34], [], [], [], []⟩, ⟨[30, 31, 32, 33], [], [15], [15], [4, 5]⟩, ⟨[30, 31, 32, 33], [], [], [], [4, 5, 6]⟩, ⟨[], [], [], [], [0, 1, 2, 3, 4, 5, 6, 7]⟩, ⟨[], [], [], [], [0, 1, 2, 3, 4, 5, 6, 7, 8]⟩, ⟨[], [], [], [9], [0, 1, 2, 3, 4, 5, 6, 7, 8, 9]⟩] (by kernel_rfl) (by kernel_rfl) ?_
      refine DRQ.v rfl rfl rfl (o_move rfl) ?_
      refine DRQ.v rfl rfl rfl (o_move rfl) ?_
      refine DRQ.v rfl rfl rfl (o_idxo L24 rfl rfl rfl (by first | omega | (simp; omega)) (by first | omega | (simp; omega))) ?_
      refine DRQ.v rfl rfl rfl (o_ldoi S3 rfl rfl rfl rfl (by first | omega | (simp; omega)) (by first | omega | (simp; omega))) ?_
      refine DRQ.v rfl rfl rfl (o_move rfl) ?_
      refine DRQ.v rfl rfl rfl (o_move rfl) ?_
      refine DRQ.x 15 rfl rfl rfl rfl (o_idx L24 rfl (lx rfl) rfl (by first | omega | (simp; omega)) (by first | omega | (simp; omega))) ?_
      refine DRQ.v rfl rfl rfl (o_ldq S3 rfl (lx rfl) intc) ?_
      refine DRQ.v rfl rfl rfl (o_sub rfl rfl (by first | omega | (simp; omega)) (by first | omega | (simp; omega))) ?_
      refine DRQ.v rfl rfl rfl (o_idxo L24 rfl rfl rfl (by first | omega | (simp; omega)) (by first | omega | (simp; omega))) ?_
      refine DRQ.s 9 rfl rfl rfl (o_steE2 Tryz.sizeOf3 rfl rfl rfl rfl eok_int rfl rfl rfl (by first | omega | (simp; omega)) (by first | omega | (simp; omega))) ?_
      refine DRQ.nil' ?_
      refine EX.blk (EX.then (WP.region ?_))
      refine WPl.v rfl (o_move rfl) ?_
      refine WPl.v rfl (o_add rfl rfl (by first | omega | (simp; omega)) (by first | omega | (simp; omega))) ?_
      refine WPl.v rfl (o_assign rfl) ?_
      refine WPl.nil ?_
      refine EX.again (i + 1) id (by first | omega | (constructor <;> omega)) (by omega) (LeR.of ⟨rfl, rfl, rfl, rfl, rfl, trivial⟩ ⟨(lx rfl), trivial⟩ ⟨rfl, trivial⟩ rfl rfl rfl rfl rfl)
    · try simp only [cnd] at hc2
      refine WP.exit (EX.exit_then (EX.exit_then (EX.exit_blk (EX.then (WP.seq (WP.region ?_))))))
      refine WPl.v rfl (o_move rfl) ?_
      refine WPl.cs 16 rfl rfl rfl rfl (o_sigbc 15 (ren [(0, 9)]) (c57F (subTo (countsR b.set) (goneL b) i) (by omega)) e57 rfl rfl SvsOK.rf w57F ⟨.own rfl rfl, trivial⟩ r57F) ?_
      refine WPl.v rfl (o_assign rfl) ?_
      refine WPl.v rfl (o_assign rfl) ?_
      refine WPl.nil (EX.then (WP.ret ?_))
      have hie : i = 12 := by omega
      rw [hf, hie, left_law hcv (by omega), show lfV b = lfTo b b.set.length from if_pos hf]
      exact EX.fin (ren [(0, 15)]) (.inl rfl) rfl (.tmp rfl (.tmp rfl .nil)) rfl (by simp [SV.res, El.res, At.res, keys]) ⟨(lx rfl), trivial⟩ (by simp) (by simp)
theorem w73 {p : List (List Int)} : ∀ x ∈ ([.e (.a (.q 0))] : List SV), x.res (keys (α := Pred) [(0, PL (EP.sl EP.int) (p))]) := by simp [SV.res, El.res, At.res, keys]
theorem r73 {p : List (List Int)} : SV.res (keys (α := Pred) [(0, PL (EP.sl EP.int) (p))]) (.e (.a (.q 0))) := by simp [SV.res, El.res, At.res, keys]
set_option maxHeartbeats 4000000 in
theorem c73 (p : List (List Int)) (hl : p.length ≤ 1000) (hr : ∀ i : Nat, i < p.length → (nth p (i : Int)).length ≤ 1000) : Sig Tryz.prog 73 [.e (.a (.q 0))] [(0, PL (EP.sl EP.int) (p))] (.e (.a (.q 0))) [(0, PL (EP.sl EP.int) (p))] := by
  refine Sig.intro Tryz.func73 rfl 1 [(0, .e (.a (.q 0)))] rfl w73 rfl rfl fun I w => ?_
  refine WP.seq (WP.region ?_)
  refine WPl.v rfl (o_assign rfl) ?_
  refine WPl.nil (EX.then (WP.seq (WP.region ?_)))
  refine WPl.v rfl (o_assign rfl) ?_
  refine WPl.imp (Imp.namo (EP.sl EP.int) 1 2 24 rfl rfl) ?_
  refine WPl.imp (Imp.swF 3 1 rfl (lx rfl)) ?_
  refine WPl.nil (EX.then (WP.seq (WP.seq (WP.region ?_))))
  refine WPl.v rfl (o_assign rfl) ?_
  refine WPl.nil (EX.then (WP.block ?_))
  refine WP.loop (Gh := Nat) (fun i => ⟨2, [(0, .e (.a (.q 0))), (2, .e (.a (.v (.slice none 0 0)))), (3, .e (.a (.q 1))), (4, .i ((i : Int)))], [(0, PL (EP.sl EP.int) (p))], [(1, .own 24 (EP.sl EP.int).size (p.take i).length (RP (EP.sl EP.int) (p.take i)))], [], []⟩) (fun i => i ≤ p.length) (fun i => p.length - i) (0) id ?_ (LeR.of ⟨rfl, rfl, rfl, rfl, trivial⟩ ⟨(lx rfl), trivial⟩ ⟨(congrArg (fun z => some (Ent.own 24 (EP.sl EP.int).size (List.length z) (RP (EP.sl EP.int) z))) (show ([]) = ((fun i => p.take i) 0) from by simp)), trivial⟩ rfl rfl rfl rfl rfl) ?_
  · first | trivial | omega | (constructor <;> omega) | simp
  intro i hφ
  have hi : i ≤ p.length := hφ
  refine WP.seq (WP.seq (WP.region ?_))
  refine WPl.v rfl (o_move rfl) ?_
  refine WPl.v rfl (o_move rfl) ?_
  refine WPl.v rfl (o_lenq L27 rfl (lx rfl)) ?_
  refine WPl.v rfl (o_lss rfl rfl) ?_
  refine WPl.nil (EX.then ?_)
  refine WP.cond rfl (fun hc1 => ?_) (fun hc1 => ?_)
  · try simp only [cnd] at hc1
    refine WP.skip (EX.then (WP.seq (WP.block (WP.region ?_))))
    refine WPl.v rfl (o_move rfl) ?_
    refine WPl.l 2 3 rfl rfl rfl (o_bsl (E := EP.int) (l := []) R24 rfl rfl (.nil) rfl rfl) ?_
    refine WPl.v rfl (o_move rfl) ?_
    refine WPl.v rfl (o_move rfl) ?_
    refine WPl.x 3 4 rfl rfl rfl (o_idx L27 rfl (lx rfl) rfl (by first | omega | (simp; omega)) (by first | omega | (simp; omega))) ?_
    refine WPl.x 4 5 rfl rfl rfl (o_ldqx S24 rfl (lx rfl) slx) ?_
    refine WPl.u1 (k := 5) (m := 6) rfl rfl rfl (OpG.settle1 (.inl rfl) rfl (o_apps R24 EP.int_one rfl rfl rfl (lx rfl) (by have := hr i (by omega); simp; omega) (by have := hr i (by omega); simp; omega))) ?_
    refine WPl.l 6 7 rfl rfl rfl (o_bsl (E := (EP.sl EP.int)) (l := [[] ++ (nth p (i : Int))]) R27 rfl rfl (.cons ((.inl ⟨_, (lx rfl), PL.one⟩)) rfl (eok_sl (lx rfl)) (.nil)) rfl rfl) ?_
    refine WPl.u1 (k := 7) (m := 8) rfl rfl rfl (o_appo R27 EP.sl_one rfl rfl rfl rfl (by simp; omega) (by simp; omega)) ?_
    refine WPl.v rfl (o_assign rfl) ?_
    refine WPl.nil (EX.blk (EX.then (WP.region ?_)))
    refine WPl.v rfl (o_move rfl) ?_
    refine WPl.v rfl (o_add rfl rfl (by first | omega | (simp; omega)) (by first | omega | (simp; omega))) ?_
    refine WPl.v rfl (o_assign rfl) ?_
    refine WPl.nil ?_
    refine EX.again (i + 1) (ren [(1, 7)]) (by first | omega | (constructor <;> omega)) (by omega) (LeR.of ⟨rfl, rfl, rfl, rfl, trivial⟩ ⟨(lx rfl), trivial⟩ ⟨(congrArg (fun z => some (Ent.own 24 (EP.sl EP.int).size (List.length z) (RP (EP.sl EP.int) z))) (show ((p.take i) ++ [[] ++ (nth p (i : Int))]) = ((fun i => p.take i) (i + 1)) from by dsimp only; rw [List.nil_append]; exact take_snoc (by omega))), trivial⟩ rfl rfl rfl rfl rfl)
  · try simp only [cnd] at hc1
    refine WP.exit (EX.exit_then (EX.exit_then (EX.exit_blk (EX.then (WP.seq (WP.region ?_))))))
    refine WPl.v rfl (o_move rfl) ?_
    refine WPl.v rfl (o_assign rfl) ?_
    refine WPl.nil (EX.then (WP.ret ?_))
    refine EX.imp (Imp.frz (E := (EP.sl EP.int)) (l := p.take i) 1 rfl rfl) ?_
    have hie : i = p.length := by omega
    rw [hie, List.take_length]
    exact EX.fin (ren [(0, 1)]) (.inl rfl) rfl (.tmp rfl .nil) rfl (by simp [SV.res, El.res, At.res, keys]) ⟨(lx rfl), trivial⟩ (by simp) (by simp)
theorem w28 {l : List Plate} : ∀ x ∈ ([.e (.a (.q 0))] : List SV), x.res (keys (α := Pred) [(0, PL EPl (l))]) := by simp [SV.res, El.res, At.res, keys]
theorem r28 {l : List Plate} : SV.res (keys (α := Pred) [(0, PL EPl (l))]) (.e (.a (.q 0))) := by simp [SV.res, El.res, At.res, keys]
set_option maxHeartbeats 4000000 in
theorem c28 (l : List Plate) (hl : l.length ≤ 1000) : Sig Tryz.prog 28 [.e (.a (.q 0))] [(0, PL EPl (l))] (.e (.a (.q 0))) [(0, PL EPl (l))] := by
  refine Sig.intro Tryz.func28 rfl 1 [(0, .e (.a (.q 0)))] rfl w28 rfl rfl fun I w => ?_
  refine WP.seq (WP.region ?_)
  refine WPl.v rfl (o_assign rfl) ?_
  refine WPl.nil (EX.then (WP.seq (WP.region ?_)))
  refine WPl.l 1 2 rfl rfl rfl (o_bsl (E := EPl) (l := []) R30 rfl rfl (.nil) rfl rfl) ?_
  refine WPl.v rfl (o_move rfl) ?_
  refine WPl.u1 (k := 2) (m := 3) rfl rfl rfl (o_apps R30 EP.str_one rfl rfl rfl (lx rfl) (by simp; omega) (by simp; omega)) ?_
  refine WPl.v rfl (o_assign rfl) ?_
  refine WPl.nil (EX.then (WP.ret ?_))
  refine EX.imp (Imp.frz (E := EPl) (l := [] ++ l) 2 rfl rfl) ?_
  exact EX.fin (ren [(0, 2)]) (.inl rfl) rfl (.tmp rfl .nil) rfl r28 ⟨(lx rfl), trivial⟩ (by simp) (by simp)
theorem w130 {h : Hall} : ∀ x ∈ ([.e (.g [.q 0, .q 1, .q 2, ai (h.change)])] : List SV), x.res (keys (α := Pred) [(0, PL ETm (h.machs)), (1, PL EBd (h.buns)), (2, PL EP.int (h.trains))]) := by simp [SV.res, El.res, At.res, keys]
theorem r130 {h : Hall} : SV.res (keys (α := Pred) [(0, PL ETm (h.machs)), (1, PL EBd (h.buns)), (2, PL EP.int (h.trains))]) (.e (.g [.q 0, .q 1, .q 2, ai (h.change)])) := by simp [SV.res, El.res, At.res, keys]
set_option maxHeartbeats 4000000 in
theorem c130 (h : Hall) (hm : h.Small) : Sig Tryz.prog 130 [.e (.g [.q 0, .q 1, .q 2, ai (h.change)])] [(0, PL ETm (h.machs)), (1, PL EBd (h.buns)), (2, PL EP.int (h.trains))] (.e (.g [.q 0, .q 1, .q 2, ai (h.change)])) [(0, PL ETm (h.machs)), (1, PL EBd (h.buns)), (2, PL EP.int (h.trains))] := by
  have hm1 := hm.m
  have hm2 := hm.b
  have hm3 := hm.t
  refine Sig.intro Tryz.func130 rfl 3 [(0, .e (.g [.q 0, .q 1, .q 2, ai (h.change)]))] rfl w130 rfl rfl fun I w => ?_
  refine WP.seq (WP.region ?_)
  refine WPl.l 3 4 rfl rfl rfl (o_boxg rfl) ?_
  refine WPl.l 4 5 rfl rfl rfl (o_alloc Z26) ?_
  refine WPl.nil (EX.then (WP.seq ?_))
  refine WP.draw (nf := 11) [⟨[4, 5, 7, 8, 9, 11, 12, 13, 15, 16], [7, 9], [5], [5], []⟩, ⟨[3, 7, 8, 9, 11, 12, 13, 15, 16], [5, 7, 9], [], [], []⟩, ⟨[3, 7, 8, 9, 11, 12, 13, 15, 16], [5, 7, 9], [], [], [1]⟩, ⟨[7, 8, 9, 11, 12, 13, 15, 16], [7, 9], [6], [6, 5], [0, 1, 2]⟩, ⟨[3, 4, 5, 6, 8, 9, 11, 12, 13, 15, 16], [5, 6, 9], [7], [7], []⟩, ⟨[3, 4, 5, 6, 7, 11, 12, 13, 15, 16], [5, 6, 7, 9], [], [], []⟩, ⟨[3, 4, 5, 6, 7, 11, 12, 13, 15, 16], [5, 6, 7, 9], [], [], [5]⟩, ⟨[11, 12, 13, 15, 16], [9], [8], [8, 7], [0, 1, 2, 3, 4, 5, 6]⟩, ⟨[3, 4, 5, 6, 7, 8, 9, 10, 12, 13, 15, 16], [5, 6, 7, 8], [9], [9], []⟩, ⟨[3, 4, 5, 6, 7, 8, 9, 10, 11, 15, 16], [5, 6, 7, 8, 9], [], [], []⟩, ⟨[3, 4, 5, 6, 7, 8, 9, 10, 11, 15, 16], [5, 6, 7, 8, 9], [], [], [9]⟩, ⟨[15, 16], [], [10], [10, 9], [0, 1, 2, 3, 4, 5, 6, 7, 8, 9, 10]⟩, ⟨[3, 4, 5, 6, 7, 8, 9, 10, 11, 12, 13, 14], [5, 6, 7, 8, 9, 10], [], [], []⟩, ⟨[3, 4, 5, 6, 7, 8, 9, 10, 11, 12, 13, 14], [5, 6, 7, 8, 9, 10], [], [], [12]⟩, ⟨[], [], [], [], [0, 1, 2, 3, 4, 5, 6, 7, 8, 9, 10, 11, 12, 13]⟩, ⟨[], [], [], [4], [0, 1, 2, 3, 4, 5, 6, 7, 8, 9, 10, 11, 12, 13, 14]⟩] (by kernel_rfl) (by kernel_rfl) ?_
  refine DRQ.l 5 rfl rfl rfl rfl (o_bsl (E := ETm) (l := []) R22 rfl rfl (.nil) rfl rfl) ?_
  refine DRQ.v rfl rfl rfl (o_fldp F26_0 rfl) ?_
  refine DRQ.v rfl rfl rfl (o_ldp S22 rfl rfl rfl) ?_
  refine DRQ.l2 6 5 rfl rfl rfl rfl (o_apps R22 EP.str_one rfl rfl rfl (lx rfl) (by simp; omega) (by simp; omega)) ?_
  refine DRQ.l 7 rfl rfl rfl rfl (o_bsl (E := EBd) (l := []) R23 rfl rfl (.nil) rfl rfl) ?_
  refine DRQ.v rfl rfl rfl (o_fldp F26_1 rfl) ?_
  refine DRQ.v rfl rfl rfl (o_ldp S23 rfl rfl rfl) ?_
  refine DRQ.l2 8 7 rfl rfl rfl rfl (o_apps R23 EP.str_one rfl rfl rfl (lx rfl) (by simp; omega) (by simp; omega)) ?_
  refine DRQ.l 9 rfl rfl rfl rfl (o_bsl (E := EP.int) (l := []) R24 rfl rfl (.nil) rfl rfl) ?_
  refine DRQ.v rfl rfl rfl (o_fldp F26_2 rfl) ?_
  refine DRQ.v rfl rfl rfl (o_ldp S24 rfl rfl rfl) ?_
  refine DRQ.l2 10 9 rfl rfl rfl rfl (o_apps R24 EP.int_one rfl rfl rfl (lx rfl) (by simp; omega) (by simp; omega)) ?_
  refine DRQ.v rfl rfl rfl (o_fldp F26_3 rfl) ?_
  refine DRQ.v rfl rfl rfl (o_ldp S3 rfl rfl rfl) ?_
  refine DRQ.v rfl rfl rfl (o_build B26 rfl ⟨(.inr ⟨_, _, _, _, rfl⟩), (.inr ⟨_, _, _, _, rfl⟩), (.inr ⟨_, _, _, _, rfl⟩), rfl, trivial⟩ rfl rfl) ?_
  refine DRQ.s 4 rfl rfl rfl (o_stag G26 rfl rfl rfl ⟨(.inr ⟨_, _, _, _, rfl⟩), (.inr ⟨_, _, _, _, rfl⟩), (.inr ⟨_, _, _, _, rfl⟩), rfl, trivial⟩ rfl rfl) ?_
  refine DRQ.nil' ?_
  refine EX.then (WP.ret ?_)
  refine EX.imp (Imp.frz (E := ETm) (l := [] ++ h.machs) 6 rfl rfl) ?_
  refine EX.imp (Imp.frz (E := EBd) (l := [] ++ h.buns) 8 rfl rfl) ?_
  refine EX.imp (Imp.frz (E := EP.int) (l := [] ++ h.trains) 10 rfl rfl) ?_
  exact EX.fin (ren [(0, 6), (1, 8), (2, 10)]) (.inl rfl) rfl (.cellg G26 rfl rfl rfl (.nil)) rfl r130 ⟨(lx rfl), (lx rfl), (lx rfl), trivial⟩ (by simp) (by simp)
theorem w74 {h : Hall} : ∀ x ∈ ([.e (.g [.q 0, .q 1, .q 2, ai (h.change), .q 3, .q 4])] : List SV), x.res (keys (α := Pred) [(0, PL ETm (h.machs)), (1, PL EBd (h.buns)), (2, PL EP.int (h.trains)), (3, PL EP.int (h.bores)), (4, PL (EP.sl EP.int) (h.eds))]) := by simp [SV.res, El.res, At.res, keys]
theorem r74 {h : Hall} : SV.res (keys (α := Pred) [(0, PL ETm (h.machs)), (1, PL EBd (h.buns)), (2, PL EP.int (h.trains)), (3, PL EP.int (h.bores)), (4, PL (EP.sl EP.int) (h.eds))]) (.e (.g [.q 0, .q 1, .q 2, ai (h.change), .q 3, .q 4])) := by simp [SV.res, El.res, At.res, keys]
set_option maxHeartbeats 4000000 in
theorem c74 (h : Hall) (hm : h.Small) : Sig Tryz.prog 74 [.e (.g [.q 0, .q 1, .q 2, ai (h.change), .q 3, .q 4])] [(0, PL ETm (h.machs)), (1, PL EBd (h.buns)), (2, PL EP.int (h.trains)), (3, PL EP.int (h.bores)), (4, PL (EP.sl EP.int) (h.eds))] (.e (.g [.q 0, .q 1, .q 2, ai (h.change), .q 3, .q 4])) [(0, PL ETm (h.machs)), (1, PL EBd (h.buns)), (2, PL EP.int (h.trains)), (3, PL EP.int (h.bores)), (4, PL (EP.sl EP.int) (h.eds))] := by
  have hm4 := hm.o
  have hm5 := hm.e
  have hm6 := hm.p
  refine Sig.intro Tryz.func74 rfl 5 [(0, .e (.g [.q 0, .q 1, .q 2, ai (h.change), .q 3, .q 4]))] rfl w74 rfl rfl fun I w => ?_
  refine WP.seq (WP.region ?_)
  refine WPl.l 5 6 rfl rfl rfl (o_boxg rfl) ?_
  refine WPl.l 6 7 rfl rfl rfl (o_alloc Z29) ?_
  refine WPl.nil (EX.then (WP.seq ?_))
  refine WP.draw (nf := 13) [⟨[6, 7, 8, 10, 11], [10], [], [], []⟩, ⟨[6, 7, 8, 10, 11], [10], [], [], [0]⟩, ⟨[6, 7, 8, 10, 11], [10], [7, 8, 9], [7, 8, 9], [0, 1]⟩, ⟨[3, 4, 5, 7, 8, 10, 11], [7, 8, 9], [10], [10], []⟩, ⟨[3, 4, 5, 6, 10, 11], [7, 8, 9, 10], [], [], []⟩, ⟨[3, 4, 5, 6, 10, 11], [7, 8, 9, 10], [], [], [4]⟩, ⟨[10, 11], [], [11], [11, 10], [0, 1, 2, 3, 4, 5]⟩, ⟨[3, 4, 5, 6, 7, 8, 9], [7, 8, 9, 10, 11], [], [], []⟩, ⟨[3, 4, 5, 6, 7, 8, 9], [7, 8, 9, 10, 11], [], [], [7]⟩, ⟨[], [], [12], [12], [0, 1, 2, 3, 4, 5, 6, 7, 8]⟩, ⟨[], [], [], [], [0, 1, 2, 3, 4, 5, 6, 7, 8, 9]⟩, ⟨[], [], [], [6], [0, 1, 2, 3, 4, 5, 6, 7, 8, 9, 10]⟩] (by kernel_rfl) (by kernel_rfl) ?_
  refine DRQ.v rfl rfl rfl (o_fldp F29_0 rfl) ?_
  refine DRQ.v rfl rfl rfl (o_ldpg G26 rfl rfl rfl) ?_
  refine DRQ.cs rfl rfl rfl rfl (o_sig 7 (ren [(0, 0), (1, 1), (2, 2)]) (c130 h hm) e130 rfl rfl rfl w130 ⟨(lx rfl), (lx rfl), (lx rfl), trivial⟩ r130) ?_
  refine DRQ.l 10 rfl rfl rfl rfl (o_bsl (E := EP.int) (l := []) R24 rfl rfl (.nil) rfl rfl) ?_
  refine DRQ.v rfl rfl rfl (o_fldp F29_1 rfl) ?_
  refine DRQ.v rfl rfl rfl (o_ldp S24 rfl rfl rfl) ?_
  refine DRQ.l2 11 10 rfl rfl rfl rfl (o_apps R24 EP.int_one rfl rfl rfl (lx rfl) (by simp; omega) (by simp; omega)) ?_
  refine DRQ.v rfl rfl rfl (o_fldp F29_2 rfl) ?_
  refine DRQ.v rfl rfl rfl (o_ldp S27 rfl rfl rfl) ?_
  refine DRQ.cs rfl rfl rfl rfl (o_sig 12 (ren [(0, 4)]) (c73 h.eds (by omega) (fun i hi => by have := hm6 i hi; omega)) e73 rfl rfl rfl w73 ⟨(lx rfl), trivial⟩ r73) ?_
  refine DRQ.v rfl rfl rfl (o_build B29 rfl ⟨(.inr ⟨_, _, _, _, rfl⟩), (.inl ⟨_, (lx rfl), PL.one⟩), trivial⟩ rfl rfl) ?_
  refine DRQ.s 6 rfl rfl rfl (o_stag G29 rfl rfl rfl ⟨(.inl ⟨_, (lx rfl), PL.one⟩), (.inl ⟨_, (lx rfl), PL.one⟩), (.inl ⟨_, (lx rfl), PL.one⟩), rfl, (.inr ⟨_, _, _, _, rfl⟩), (.inl ⟨_, (lx rfl), PL.one⟩), trivial⟩ rfl rfl) ?_
  refine DRQ.nil' ?_
  refine EX.then (WP.ret ?_)
  refine EX.imp (Imp.frz (E := EP.int) (l := [] ++ h.bores) 11 rfl rfl) ?_
  exact EX.fin (ren [(0, 7), (1, 8), (2, 9), (3, 11), (4, 12)]) (.inl rfl) rfl (.cellg G29 rfl rfl rfl (.nil)) rfl r74 ⟨(lx rfl), (lx rfl), (lx rfl), (lx rfl), (lx rfl), trivial⟩ (by simp) (by simp)
theorem w74O {h : Hall} : ∀ x ∈ ([.e (.g [.q 0, .q 1, .q 2, ai (h.change), .q 3, .q 4])] : List SV), x.res (keys (α := Pred) [(0, PL ETm (h.machs)), (1, PL EBd (h.buns)), (2, PL EP.int (h.trains)), (3, PL EP.int (h.bores)), (4, PL (EP.sl EP.int) (h.eds))]) := by simp [SV.res, El.res, At.res, keys]
theorem r74O {h : Hall} : SV.res (keys (α := Pred) [(0, PL ETm (h.machs)), (1, PL EBd (h.buns)), (2, PL EP.int (h.trains)), (3, Pred.top), (4, PL (EP.sl EP.int) (h.eds))]) (.e (.g [.q 0, .q 1, .q 2, ai (h.change), .q 3, .q 4])) := by simp [SV.res, El.res, At.res, keys]
set_option maxHeartbeats 4000000 in
theorem c74O (h : Hall) (hm : h.Small) : SigO Tryz.prog 74 [.e (.g [.q 0, .q 1, .q 2, ai (h.change), .q 3, .q 4])] [(0, PL ETm (h.machs)), (1, PL EBd (h.buns)), (2, PL EP.int (h.trains)), (3, PL EP.int (h.bores)), (4, PL (EP.sl EP.int) (h.eds))] (.e (.g [.q 0, .q 1, .q 2, ai (h.change), .q 3, .q 4])) [(0, PL ETm (h.machs)), (1, PL EBd (h.buns)), (2, PL EP.int (h.trains)), (3, Pred.top), (4, PL (EP.sl EP.int) (h.eds))] [(3, .own 3 EP.int.size ([] ++ h.bores).length (RP EP.int ([] ++ h.bores)))] := by
  have hm4 := hm.o
  have hm5 := hm.e
  have hm6 := hm.p
  refine SigO.intro Tryz.func74 rfl 5 [(0, .e (.g [.q 0, .q 1, .q 2, ai (h.change), .q 3, .q 4]))] rfl w74O rfl rfl fun I w => ?_
  refine WP.seq (WP.region ?_)
  refine WPl.l 5 6 rfl rfl rfl (o_boxg rfl) ?_
  refine WPl.l 6 7 rfl rfl rfl (o_alloc Z29) ?_
  refine WPl.nil (EX.then (WP.seq ?_))
  refine WP.draw (nf := 13) [⟨[6, 7, 8, 10, 11], [10], [], [], []⟩, ⟨[6, 7, 8, 10, 11], [10], [], [], [0]⟩, ⟨[6, 7, 8, 10, 11], [10], [7, 8, 9], [7, 8, 9], [0, 1]⟩, ⟨[3, 4, 5, 7, 8, 10, 11], [7, 8, 9], [10], [10], []⟩, ⟨[3, 4, 5, 6, 10, 11], [7, 8, 9, 10], [], [], []⟩, ⟨[3, 4, 5, 6, 10, 11], [7, 8, 9, 10], [], [], [4]⟩, ⟨[10, 11], [], [11], [11, 10], [0, 1, 2, 3, 4, 5]⟩, ⟨[3, 4, 5, 6, 7, 8, 9], [7, 8, 9, 10, 11], [], [], []⟩, ⟨[3, 4, 5, 6, 7, 8, 9], [7, 8, 9, 10, 11], [], [], [7]⟩, ⟨[], [], [12], [12], [0, 1, 2, 3, 4, 5, 6, 7, 8]⟩, ⟨[], [], [], [], [0, 1, 2, 3, 4, 5, 6, 7, 8, 9]⟩, ⟨[], [], [], [6], [0, 1, 2, 3, 4, 5, 6, 7, 8, 9, 10]⟩] (by kernel_rfl) (by kernel_rfl) ?_
  refine DRQ.v rfl rfl rfl (o_fldp F29_0 rfl) ?_
  refine DRQ.v rfl rfl rfl (o_ldpg G26 rfl rfl rfl) ?_
  refine DRQ.cs rfl rfl rfl rfl (o_sig 7 (ren [(0, 0), (1, 1), (2, 2)]) (c130 h hm) e130 rfl rfl rfl w130 ⟨(lx rfl), (lx rfl), (lx rfl), trivial⟩ r130) ?_
  refine DRQ.l 10 rfl rfl rfl rfl (o_bsl (E := EP.int) (l := []) R24 rfl rfl (.nil) rfl rfl) ?_
  refine DRQ.v rfl rfl rfl (o_fldp F29_1 rfl) ?_
  refine DRQ.v rfl rfl rfl (o_ldp S24 rfl rfl rfl) ?_
  refine DRQ.l2 11 10 rfl rfl rfl rfl (o_apps R24 EP.int_one rfl rfl rfl (lx rfl) (by simp; omega) (by simp; omega)) ?_
  refine DRQ.v rfl rfl rfl (o_fldp F29_2 rfl) ?_
  refine DRQ.v rfl rfl rfl (o_ldp S27 rfl rfl rfl) ?_
  refine DRQ.cs rfl rfl rfl rfl (o_sig 12 (ren [(0, 4)]) (c73 h.eds (by omega) (fun i hi => by have := hm6 i hi; omega)) e73 rfl rfl rfl w73 ⟨(lx rfl), trivial⟩ r73) ?_
  refine DRQ.v rfl rfl rfl (o_build B29 rfl ⟨(.inr ⟨_, _, _, _, rfl⟩), (.inl ⟨_, (lx rfl), PL.one⟩), trivial⟩ rfl rfl) ?_
  refine DRQ.s 6 rfl rfl rfl (o_stag G29 rfl rfl rfl ⟨(.inl ⟨_, (lx rfl), PL.one⟩), (.inl ⟨_, (lx rfl), PL.one⟩), (.inl ⟨_, (lx rfl), PL.one⟩), rfl, (.inr ⟨_, _, _, _, rfl⟩), (.inl ⟨_, (lx rfl), PL.one⟩), trivial⟩ rfl rfl) ?_
  refine DRQ.nil' ?_
  refine EX.then (WP.ret ?_)
  refine EX.imp (Imp.topX 11 rfl) ?_
  exact EX.finO (ren [(0, 7), (1, 8), (2, 9), (3, 11), (4, 12)]) rfl (.inl rfl) rfl (.cellg G29 rfl rfl rfl (.nil)) rfl r74O ⟨(lx rfl), (lx rfl), (lx rfl), lx rfl, (lx rfl), trivial⟩ ⟨rfl, trivial⟩ rfl rfl (by simp) (by simp)
theorem w20 {b : Book} : ∀ x ∈ ([.e (.g [.q 0, .q 1, .q 2, ai (b.hall.change), .q 3, .q 4, .q 5, .q 6, ai (b.boys), .q 7])] : List SV), x.res (keys (α := Pred) [(0, PL ETm (b.hall.machs)), (1, PL EBd (b.hall.buns)), (2, PL EP.int (b.hall.trains)), (3, PL EP.int (b.hall.bores)), (4, PL (EP.sl EP.int) (b.hall.eds)), (5, PL EPl (b.set)), (6, PL EP.int (b.walk)), (7, PL ETa (b.tals))]) := by simp [SV.res, El.res, At.res, keys]
theorem r20 {b : Book} : SV.res (keys (α := Pred) [(0, PL ETm (b.hall.machs)), (1, PL EBd (b.hall.buns)), (2, PL EP.int (b.hall.trains)), (3, PL EP.int (b.hall.bores)), (4, PL (EP.sl EP.int) (b.hall.eds)), (5, PL EPl (b.set)), (6, PL EP.int (b.walk)), (7, PL ETa (b.tals))]) (.e (.g [.q 0, .q 1, .q 2, ai (b.hall.change), .q 3, .q 4, .q 5, .q 6, ai (b.boys), .q 7])) := by simp [SV.res, El.res, At.res, keys]
set_option maxHeartbeats 4000000 in
theorem c20 (b : Book) (hm : b.Small) : Sig Tryz.prog 20 [.e (.g [.q 0, .q 1, .q 2, ai (b.hall.change), .q 3, .q 4, .q 5, .q 6, ai (b.boys), .q 7])] [(0, PL ETm (b.hall.machs)), (1, PL EBd (b.hall.buns)), (2, PL EP.int (b.hall.trains)), (3, PL EP.int (b.hall.bores)), (4, PL (EP.sl EP.int) (b.hall.eds)), (5, PL EPl (b.set)), (6, PL EP.int (b.walk)), (7, PL ETa (b.tals))] (.e (.g [.q 0, .q 1, .q 2, ai (b.hall.change), .q 3, .q 4, .q 5, .q 6, ai (b.boys), .q 7])) [(0, PL ETm (b.hall.machs)), (1, PL EBd (b.hall.buns)), (2, PL EP.int (b.hall.trains)), (3, PL EP.int (b.hall.bores)), (4, PL (EP.sl EP.int) (b.hall.eds)), (5, PL EPl (b.set)), (6, PL EP.int (b.walk)), (7, PL ETa (b.tals))] := by
  have hm1 := hm.h.m
  have hm2 := hm.h.b
  have hm3 := hm.h.t
  have hm4 := hm.h.o
  have hm5 := hm.h.e
  have hm6 := hm.s
  have hm7 := hm.w
  have hm8 := hm.t
  refine Sig.intro Tryz.func20 rfl 8 [(0, .e (.g [.q 0, .q 1, .q 2, ai (b.hall.change), .q 3, .q 4, .q 5, .q 6, ai (b.boys), .q 7]))] rfl w20 rfl rfl fun I w => ?_
  refine WP.seq (WP.region ?_)
  refine WPl.l 8 9 rfl rfl rfl (o_boxg rfl) ?_
  refine WPl.l 9 10 rfl rfl rfl (o_alloc Z33) ?_
  refine WPl.nil (EX.then (WP.seq ?_))
  refine WP.draw (nf := 20) [⟨[6, 7, 9, 10, 11, 13, 14, 15, 16, 17], [16, 18], [], [], []⟩, ⟨[6, 7, 9, 10, 11, 13, 14, 15, 16, 17], [16, 18], [], [], [0]⟩, ⟨[6, 7, 9, 10, 11, 13, 14, 15, 16, 17], [16, 18], [10, 11, 12, 13, 14], [10, 11, 12, 13, 14], [0, 1]⟩, ⟨[3, 4, 5, 9, 10, 11, 13, 14, 15, 16, 17], [10, 11, 12, 13, 14, 16, 18], [], [], []⟩, ⟨[3, 4, 5, 9, 10, 11, 13, 14, 15, 16, 17], [10, 11, 12, 13, 14, 16, 18], [], [], [3]⟩, ⟨[9, 10, 11, 13, 14, 15, 16, 17], [16, 18], [15], [15], [0, 1, 2, 3, 4]⟩, ⟨[3, 4, 5, 6, 7, 8, 10, 11, 13, 14, 15, 16, 17], [10, 11, 12, 13, 14, 15, 18], [16], [16], []⟩, ⟨[3, 4, 5, 6, 7, 8, 9, 13, 14, 15, 16, 17], [10, 11, 12, 13, 14, 15, 16, 18], [], [], []⟩, ⟨[3, 4, 5, 6, 7, 8, 9, 13, 14, 15, 16, 17], [10, 11, 12, 13, 14, 15, 16, 18], [], [], [7]⟩, ⟨[13, 14, 15, 16, 17], [18], [17], [17, 16], [0, 1, 2, 3, 4, 5, 6, 7, 8]⟩, ⟨[3, 4, 5, 6, 7, 8, 9, 10, 11, 12, 15, 16, 17, 18], [10, 11, 12, 13, 14, 15, 16, 17, 18, 19], [], [], []⟩, ⟨[3, 4, 5, 6, 7, 8, 9, 10, 11, 12, 15, 16, 17, 18], [10, 11, 12, 13, 14, 15, 16, 17, 18, 19], [], [], [10]⟩, ⟨[3, 4, 5, 6, 7, 8, 9, 10, 11, 12, 13, 14, 16, 17], [10, 11, 12, 13, 14, 15, 16, 17], [18], [18], []⟩, ⟨[3, 4, 5, 6, 7, 8, 9, 10, 11, 12, 13, 14, 15], [10, 11, 12, 13, 14, 15, 16, 17, 18], [], [], []⟩, ⟨[3, 4, 5, 6, 7, 8, 9, 10, 11, 12, 13, 14, 15], [10, 11, 12, 13, 14, 15, 16, 17, 18], [], [], [13]⟩, ⟨[13, 14], [], [19], [19, 18], [0, 1, 2, 3, 4, 5, 6, 7, 8, 9, 12, 13, 14]⟩, ⟨[], [], [], [], [0, 1, 2, 3, 4, 5, 6, 7, 8, 9, 10, 11, 12, 13, 14, 15]⟩, ⟨[], [], [], [9], [0, 1, 2, 3, 4, 5, 6, 7, 8, 9, 10, 11, 12, 13, 14, 15, 16]⟩] (by kernel_rfl) (by kernel_rfl) ?_
  refine DRQ.v rfl rfl rfl (o_fldp F33_0 rfl) ?_
  refine DRQ.v rfl rfl rfl (o_ldpg G29 rfl rfl rfl) ?_
  refine DRQ.cs rfl rfl rfl rfl (o_sig 10 (ren [(0, 0), (1, 1), (2, 2), (3, 3), (4, 4)]) (c74 b.hall hm.h) e74 rfl rfl rfl w74 ⟨(lx rfl), (lx rfl), (lx rfl), (lx rfl), (lx rfl), trivial⟩ r74) ?_
  refine DRQ.v rfl rfl rfl (o_fldp F33_1 rfl) ?_
  refine DRQ.v rfl rfl rfl (o_ldp S30 rfl rfl rfl) ?_
  refine DRQ.cs rfl rfl rfl rfl (o_sig 15 (ren [(0, 5)]) (c28 b.set (by omega)) e28 rfl rfl rfl w28 ⟨(lx rfl), trivial⟩ r28) ?_
  refine DRQ.l 16 rfl rfl rfl rfl (o_bsl (E := EP.int) (l := []) R24 rfl rfl (.nil) rfl rfl) ?_
  refine DRQ.v rfl rfl rfl (o_fldp F33_2 rfl) ?_
  refine DRQ.v rfl rfl rfl (o_ldp S24 rfl rfl rfl) ?_
  refine DRQ.l2 17 16 rfl rfl rfl rfl (o_apps R24 EP.int_one rfl rfl rfl (lx rfl) (by simp; omega) (by simp; omega)) ?_
  refine DRQ.v rfl rfl rfl (o_fldp F33_3 rfl) ?_
  refine DRQ.v rfl rfl rfl (o_ldp S3 rfl rfl rfl) ?_
  refine DRQ.l 18 rfl rfl rfl rfl (o_bsl (E := ETa) (l := []) R31 rfl rfl (.nil) rfl rfl) ?_
  refine DRQ.v rfl rfl rfl (o_fldp F33_4 rfl) ?_
  refine DRQ.v rfl rfl rfl (o_ldp S31 rfl rfl rfl) ?_
  refine DRQ.l2 19 18 rfl rfl rfl rfl (o_apps R31 EP.str_one rfl rfl rfl (lx rfl) (by simp; omega) (by simp; omega)) ?_
  refine DRQ.v rfl rfl rfl (o_build B33 rfl ⟨(.inl ⟨_, (lx rfl), PL.one⟩), (.inr ⟨_, _, _, _, rfl⟩), rfl, (.inr ⟨_, _, _, _, rfl⟩), trivial⟩ rfl rfl) ?_
  refine DRQ.s 9 rfl rfl rfl (o_stag G33 rfl rfl rfl ⟨(.inl ⟨_, (lx rfl), PL.one⟩), (.inl ⟨_, (lx rfl), PL.one⟩), (.inl ⟨_, (lx rfl), PL.one⟩), rfl, (.inl ⟨_, (lx rfl), PL.one⟩), (.inl ⟨_, (lx rfl), PL.one⟩), (.inl ⟨_, (lx rfl), PL.one⟩), (.inr ⟨_, _, _, _, rfl⟩), rfl, (.inr ⟨_, _, _, _, rfl⟩), trivial⟩ rfl rfl) ?_
  refine DRQ.nil' ?_
  refine EX.then (WP.ret ?_)
  refine EX.imp (Imp.frz (E := EP.int) (l := [] ++ b.walk) 17 rfl rfl) ?_
  refine EX.imp (Imp.frz (E := ETa) (l := [] ++ b.tals) 19 rfl rfl) ?_
  exact EX.fin (ren [(0, 10), (1, 11), (2, 12), (3, 13), (4, 14), (5, 15), (6, 17), (7, 19)]) (.inl rfl) rfl (.cellg G33 rfl rfl rfl (.nil)) rfl r20 ⟨(lx rfl), (lx rfl), (lx rfl), (lx rfl), (lx rfl), (lx rfl), (lx rfl), (lx rfl), trivial⟩ (by simp) (by simp)
end Go.Flong
