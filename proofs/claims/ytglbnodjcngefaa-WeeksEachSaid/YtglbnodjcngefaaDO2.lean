/- Walks (printed by gen.py off the specs). -/
import Derived.Test.YtglbnodjcngefaaDO1
import Derived.Test.YtglbnodjcngefaaProg
set_option linter.unusedSimpArgs false
set_option linter.unusedVariables false
namespace Go.Flong
open Go Go.Eng Go.Proofs
theorem e32 : Enters' Try.prog 32 := Try.call32
theorem e33 : Enters' Try.prog 33 := Try.call33
theorem G53 : TyG Try.prog 53 3 := ⟨Try.isAgg53, Try.sizeOf53⟩
theorem e34 : Enters' Try.prog 34 := Try.call34
theorem e16 : Enters' Try.prog 16 := Try.call16
theorem e18 : Enters' Try.prog 18 := Try.call18
theorem e36 : Enters' Try.prog 36 := Try.call36
theorem e37 : Enters' Try.prog 37 := Try.call37
theorem e19 : Enters' Try.prog 19 := Try.call19
theorem e41 : Enters' Try.prog 41 := Try.call41
theorem e42 : Enters' Try.prog 42 := Try.call42
theorem w4 {f : Fnd} {plan : List (List Int)} {t : Tru} : ∀ x ∈ ([.e (.g [ai (f.shop.pounds), ai (f.shop.tl), ai (f.shop.th), ai (f.shop.al), ai (f.shop.ah), ai (f.shop.room), ai (f.shop.tpl), ai (f.shop.tph), ai (f.shop.apl), ai (f.shop.aph), .q 0, .q 1]), .e (.a (.q 2)), .e (.g [ai (t.tin), ai (t.ant), .q 3])] : List SV), x.res (keys (α := Pred) [(0, PL EPig (f.shop.pigs)), (1, PL ENight (f.nights)), (2, PL (EP.sl EP.int) (plan)), (3, PL EP.int (t.dross))]) := by simp [SV.res, El.res, At.res, keys]
theorem r4  : SV.res (keys (α := Pred) []) (.b (true)) := by simp [SV.res, El.res, At.res, keys]
set_option maxHeartbeats 4000000 in
theorem c4 (f : Fnd) (plan : List (List Int)) (t : Tru) (hlaw : f.chk = true → f.isPlan plan = true → f.isTruth t = true → EachLaw f plan t) : Sig Try.prog 4 [.e (.g [ai (f.shop.pounds), ai (f.shop.tl), ai (f.shop.th), ai (f.shop.al), ai (f.shop.ah), ai (f.shop.room), ai (f.shop.tpl), ai (f.shop.tph), ai (f.shop.apl), ai (f.shop.aph), .q 0, .q 1]), .e (.a (.q 2)), .e (.g [ai (t.tin), ai (t.ant), .q 3])] [(0, PL EPig (f.shop.pigs)), (1, PL ENight (f.nights)), (2, PL (EP.sl EP.int) (plan)), (3, PL EP.int (t.dross))] (.b (true)) [] := by
  refine Sig.intro Try.func4 rfl 4 [(0, .e (.g [ai (f.shop.pounds), ai (f.shop.tl), ai (f.shop.th), ai (f.shop.al), ai (f.shop.ah), ai (f.shop.room), ai (f.shop.tpl), ai (f.shop.tph), ai (f.shop.apl), ai (f.shop.aph), .q 0, .q 1])), (1, .e (.a (.q 2))), (2, .e (.g [ai (t.tin), ai (t.ant), .q 3]))] rfl w4 rfl rfl fun I w => ?_
  refine WP.seq ?_
  refine WP.region ?_
  refine WPl.l 4 5 rfl rfl rfl (o_boxg rfl) ?_
  refine WPl.l 5 6 rfl rfl rfl (o_boxg rfl) ?_
  refine WPl.v rfl (o_assign rfl) ?_
  refine WPl.nil ?_
  refine EX.then ?_
  refine WP.seq ?_
  refine WP.seq ?_
  refine WP.region ?_
  refine WPl.v rfl (o_ldpa G31 rfl rfl rfl) ?_
  refine WPl.cs 6 rfl rfl rfl rfl (o_sig 6 (ren [(0, 0), (1, 1)]) (c32 f) e32 rfl rfl rfl w32 ⟨(lx rfl), (lx rfl), trivial⟩ r32) ?_
  refine WPl.v rfl (o_not rfl) ?_
  refine WPl.v rfl (o_move rfl) ?_
  refine WPl.bit 6 7 (!(!f.rdy)) rfl rfl ?_
  refine WPl.gv 6 rfl rfl (.plain rfl (by simp) rfl) (fun hb => o_ldpa G31 rfl rfl rfl) ?_
  refine WPl.gv 6 rfl rfl (.plain rfl (by simp) rfl) (fun hb => o_move rfl) ?_
  refine WPl.gc0 6 rfl rfl (.plain rfl (by simp) rfl) (fun hb => o_sig 7 (ren [(0, 0), (1, 1), (2, 2)]) (c33 f plan (rdy_parts (by simpa using hb)).2) e33 rfl rfl rfl w33 ⟨(lx rfl), (lx rfl), (lx rfl), trivial⟩ r33) ?_
  refine WPl.gv 6 rfl rfl (.plain rfl (by simp) rfl) (fun hb => o_not rfl) ?_
  refine WPl.v rfl (o_or rfl rfl rfl (by first | (simp; done) | simp_all)) ?_
  refine WPl.v rfl (o_move rfl) ?_
  refine WPl.bit 7 8 (!((!f.rdy) || (!(f.isPlanL plan)))) rfl rfl ?_
  refine WPl.gv 7 rfl rfl (.plain rfl (by simp) rfl) (fun hb => o_ldpa G31 rfl rfl rfl) ?_
  refine WPl.gv 7 rfl rfl (.plain rfl (by simp) rfl) (fun hb => o_ldpa G53 rfl rfl rfl) ?_
  refine WPl.gc0 7 rfl rfl (.plain rfl (by simp) rfl) (fun hb => o_sig 8 (ren [(0, 0), (1, 1), (2, 3)]) (c34 f t (by have := Fnd.chkB (rdy_parts (by simp at hb; exact hb.1)).2; omega)) e34 rfl rfl rfl w34 ⟨(lx rfl), (lx rfl), (lx rfl), trivial⟩ r34) ?_
  refine WPl.gv 7 rfl rfl (.plain rfl (by simp) rfl) (fun hb => o_not rfl) ?_
  refine WPl.v rfl (o_or rfl rfl rfl (by first | (simp; done) | simp_all)) ?_
  refine WPl.nil ?_
  refine EX.then ?_
  refine WP.cond rfl (fun hc1 => ?_) (fun hc1 => ?_)
  · try simp only [decide_eq_true_eq, decide_eq_false_iff_not, Bool.and_eq_true, Bool.or_eq_true, Bool.and_eq_false_iff, Bool.or_eq_false_iff, Bool.not_eq_true', Bool.not_eq_false', ne_eq, Decidable.not_not] at hc1
    refine WP.seq ?_
    refine WP.region ?_
    refine WPl.cs 8 rfl rfl rfl rfl (o_sig 8 id c16 e16 rfl rfl rfl w16 trivial r16) ?_
    refine WPl.v rfl (o_assign rfl) ?_
    refine WPl.nil ?_
    refine EX.then ?_
    refine WP.ret ?_
    refine EX.ret_then ?_
    exact EX.fin id (.inl rfl) rfl (.tmp rfl .nil) rfl r4 trivial (by simp) (by simp)
  · try simp only [decide_eq_true_eq, decide_eq_false_iff_not, Bool.and_eq_true, Bool.or_eq_true, Bool.and_eq_false_iff, Bool.or_eq_false_iff, Bool.not_eq_true', Bool.not_eq_false', ne_eq, Decidable.not_not] at hc1
    have hall : (f.rdy = true ∧ f.isPlanL plan = true) ∧ f.isTruth t = true := by simpa [and_assoc] using hc1
    have hrd := rdy_parts hall.1.1
    have hip := isPlanL_parts hall.1.2
    have ht := hall.2
    have hf := hrd.2
    have hcb := Fnd.chkB hf
    have hll := longP_len hip.1
    have law := hlaw hf hip.2 ht
    have hwl := wFailsV_len f plan
    have hs := Fnd.shopOK hf
    have hpg := Shop.pigsOK hs
    have htb := tl_bnd hs
    have hpB := Fnd.planB hf hip.2
    obtain ⟨hpl, hpb⟩ := hpB
    have hub := upTo_bnd (by omega) hpb
    have hul := upTo_len f.shop.pigs.length plan
    have hts := truth_sum hf ht
    have hlh := lohi_bnd (Fnd.nightsOK hf)
    have hhi := fun i hi => Fnd.hi_le hf (i := i) hi
    have htr : (f.shop.tl ≤ t.tin ∧ t.tin ≤ f.shop.th) ∧ (f.shop.al ≤ t.ant ∧ t.ant ≤ f.shop.ah) ∧ (t.dross.length : Int) = f.nights.length := by
      simp only [Fnd.isTruth, Bool.and_eq_true, decide_eq_true_eq, within] at ht
      exact ⟨ht.1.1.1, ht.1.1.2, ht.1.2⟩
    refine WP.skip ?_
    refine EX.then ?_
    refine WP.seq ?_
    refine WP.draw (nf := 9) [⟨[41, 42], [8], [], [], []⟩, ⟨[40], [], [], [], []⟩, ⟨[40], [], [8], [8], [1]⟩, ⟨[], [], [], [], [0, 1, 2]⟩, ⟨[], [], [], [], [0, 1, 2, 3]⟩, ⟨[45], [], [], [], [0, 1, 2, 3, 4]⟩, ⟨[44, 7], [], [], [], [0, 1, 2, 3, 4]⟩, ⟨[45], [], [], [], [0, 1, 2, 3, 4, 5]⟩, ⟨[], [], [], [], [0, 1, 2, 3, 4, 5, 6, 7]⟩] (by kernel_rfl) (by kernel_rfl) ?_
    refine DRQ.v rfl rfl rfl (o_ldpa G31 rfl rfl rfl) ?_
    refine DRQ.v rfl rfl rfl (o_move rfl) ?_
    refine DRQ.cs rfl rfl rfl rfl (o_sig 8 (ren [(0, 2)]) (c18 plan hll.1 hll.2) e18 rfl rfl rfl w18 ⟨(lx rfl), trivial⟩ r18) ?_
    refine DRQ.cs rfl rfl rfl rfl (o_sig 9 (ren [(0, 0), (1, 1), (2, 8)]) (c23 f plan (by omega)) e23 rfl rfl rfl w23 ⟨(lx rfl), (lx rfl), (lx rfl), trivial⟩ r23) ?_
    refine DRQ.v rfl rfl rfl (o_move rfl) ?_
    refine DRQ.v rfl rfl rfl (o_extract rfl rfl) ?_
    refine DRQ.v rfl rfl rfl (o_extract rfl rfl) ?_
    refine DRQ.v rfl rfl rfl (o_assign rfl) ?_
    refine DRQ.v rfl rfl rfl (o_assign rfl) ?_
    refine DRQ.nil' ?_
    refine EX.then ?_
    refine WP.seq ?_
    refine WP.draw (nf := 11) [⟨[48, 49], [9], [], [], []⟩, ⟨[47], [], [], [], []⟩, ⟨[47], [], [9], [9], [1]⟩, ⟨[], [], [10], [10], [0, 1, 2]⟩, ⟨[], [], [], [], [0, 1, 2, 3]⟩, ⟨[52], [], [], [], [0, 1, 2, 3, 4]⟩, ⟨[51, 9], [], [], [], [0, 1, 2, 3, 4]⟩, ⟨[52], [], [], [], [0, 1, 2, 3, 4, 5]⟩, ⟨[], [], [], [], [0, 1, 2, 3, 4, 5, 6, 7]⟩] (by kernel_rfl) (by kernel_rfl) ?_
    refine DRQ.v rfl rfl rfl (o_ldpa G31 rfl rfl rfl) ?_
    refine DRQ.v rfl rfl rfl (o_move rfl) ?_
    refine DRQ.cs rfl rfl rfl rfl (o_sig 9 (ren [(0, 2)]) (c18 plan hll.1 hll.2) e18 rfl rfl rfl w18 ⟨(lx rfl), trivial⟩ r18) ?_
    refine DRQ.cs rfl rfl rfl rfl (o_sig 10 (ren [(0, 0), (1, 1), (2, 9)]) (c25 f plan (by omega)) e25 rfl rfl rfl w25 ⟨(lx rfl), (lx rfl), (lx rfl), trivial⟩ r25) ?_
    refine DRQ.v rfl rfl rfl (o_move rfl) ?_
    refine DRQ.v rfl rfl rfl (o_extract rfl rfl) ?_
    refine DRQ.v rfl rfl rfl (o_extract rfl rfl) ?_
    refine DRQ.v rfl rfl rfl (o_assign rfl) ?_
    refine DRQ.v rfl rfl rfl (o_assign rfl) ?_
    refine DRQ.nil' ?_
    refine EX.then ?_
    refine WP.seq ?_
    refine WP.seq ?_
    refine WP.region ?_
    refine WPl.v rfl (o_move rfl) ?_
    refine WPl.v rfl (o_neq rfl rfl) ?_
    refine WPl.v rfl (o_move rfl) ?_
    refine WPl.bit 11 12 (!(decide ((f.wOpen (f.wPlan plan)) ≠ 0))) rfl rfl ?_
    refine WPl.gv 11 rfl rfl (.plain rfl (by simp) rfl) (fun hb => o_move rfl) ?_
    refine WPl.gv 11 rfl rfl (.plain rfl (by simp) rfl) (fun hb => o_neq rfl rfl) ?_
    refine WPl.v rfl (o_or rfl rfl rfl (by first | (simp; done) | simp_all)) ?_
    refine WPl.v rfl (o_move rfl) ?_
    refine WPl.bit 12 13 (!((decide ((f.wOpen (f.wPlan plan)) ≠ 0)) || (decide ((f.wOpen (f.wPlan plan)) ≠ 0)))) rfl rfl ?_
    refine WPl.gv 12 rfl rfl (.plain rfl (by simp) rfl) (fun hb => o_move rfl) ?_
    refine WPl.gc0 12 rfl rfl (.plain rfl (by simp) rfl) (fun hb => o_sig 13 id (c35 (f.wSafeV plan) 1 3) e35 rfl rfl rfl w35 trivial r35) ?_
    refine WPl.gv 12 rfl rfl (.plain rfl (by simp) rfl) (fun hb => o_not rfl) ?_
    refine WPl.v rfl (o_or rfl rfl rfl (by first | (simp; done) | simp_all)) ?_
    refine WPl.v rfl (o_move rfl) ?_
    refine WPl.bit 13 14 (!(((decide ((f.wOpen (f.wPlan plan)) ≠ 0)) || (decide ((f.wOpen (f.wPlan plan)) ≠ 0))) || (!(within (f.wSafeV plan) 1 3)))) rfl rfl ?_
    refine WPl.gv 13 rfl rfl (.plain rfl (by simp) rfl) (fun hb => o_move rfl) ?_
    refine WPl.gv 13 rfl rfl (.plain rfl (by simp) rfl) (fun hb => o_fldp F31_1 rfl) ?_
    refine WPl.gv 13 rfl rfl (.plain rfl (by simp) rfl) (fun hb => o_ldp S29 rfl rfl rfl) ?_
    refine WPl.gv 13 rfl rfl (.plain rfl (by simp) rfl) (fun hb => o_lenq L29 rfl (lx rfl)) ?_
    refine WPl.gv 13 rfl rfl (.plain rfl (by simp) rfl) (fun hb => o_sub rfl rfl (by first | omega | (simp; omega)) (by first | omega | (simp; omega))) ?_
    refine WPl.gc0 13 rfl rfl (.plain rfl (by simp) rfl) (fun hb => o_sig 14 (ren [(0, 10)]) (c36 (f.wFailsV plan) 0 ((f.nights.length : Int) - 1) (by omega)) e36 rfl rfl rfl w36 ⟨(lx rfl), trivial⟩ r36) ?_
    refine WPl.gv 13 rfl rfl (.plain rfl (by simp) rfl) (fun hb => o_not rfl) ?_
    refine WPl.v rfl (o_or rfl rfl rfl (by first | (simp; done) | simp_all)) ?_
    refine WPl.v rfl (o_move rfl) ?_
    refine WPl.bit 14 15 (!((((decide ((f.wOpen (f.wPlan plan)) ≠ 0)) || (decide ((f.wOpen (f.wPlan plan)) ≠ 0))) || (!(within (f.wSafeV plan) 1 3))) || (!(rising (f.wFailsV plan) 0 ((f.nights.length : Int) - 1))))) rfl rfl ?_
    refine WPl.gv 14 rfl rfl (.plain rfl (by simp) rfl) (fun hb => o_move rfl) ?_
    refine WPl.gv 14 rfl rfl (.plain rfl (by simp) rfl) (fun hb => o_lenq L44 rfl (lx rfl)) ?_
    refine WPl.gv 14 rfl rfl (.plain rfl (by simp) rfl) (fun hb => o_eql rfl rfl) ?_
    refine WPl.gv 14 rfl rfl (.plain rfl (by simp) rfl) (fun hb => o_move rfl) ?_
    refine WPl.gv 14 rfl rfl (.plain rfl (by simp) rfl) (fun hb => o_eql rfl rfl) ?_
    refine WPl.gv 14 rfl rfl (.plain rfl (by simp) rfl) (fun hb => o_neb Try.underlying4 rfl rfl) ?_
    refine WPl.v rfl (o_or rfl rfl rfl (by first | (simp; done) | simp_all)) ?_
    refine WPl.nil ?_
    refine EX.then ?_
    refine WP.cond rfl (fun hc2 => ?_) (fun hc2 => ?_)
    · try simp only [decide_eq_true_eq, decide_eq_false_iff_not, Bool.and_eq_true, Bool.or_eq_true, Bool.and_eq_false_iff, Bool.or_eq_false_iff, Bool.not_eq_true', Bool.not_eq_false', ne_eq, Decidable.not_not] at hc2
      rw [law.o, law.w, law.r] at hc2
      have hz := law.z
      simp [hz] at hc2
    · try simp only [decide_eq_true_eq, decide_eq_false_iff_not, Bool.and_eq_true, Bool.or_eq_true, Bool.and_eq_false_iff, Bool.or_eq_false_iff, Bool.not_eq_true', Bool.not_eq_false', ne_eq, Decidable.not_not] at hc2
      refine WP.skip ?_
      refine EX.then ?_
      refine WP.seq ?_
      refine WP.region ?_
      refine WPl.v rfl (o_assign rfl) ?_
      refine WPl.v rfl (o_assign rfl) ?_
      refine WPl.nil ?_
      refine EX.then ?_
      refine WP.seq ?_
      refine WP.seq ?_
      refine WP.region ?_
      refine WPl.v rfl (o_assign rfl) ?_
      refine WPl.nil ?_
      refine EX.then ?_
      refine WP.block ?_
      refine WP.loop (Gh := Nat) (fun i => ⟨15, [(1, .e (.a (.q 2))), (3, .e (.a (.p 4 (0)))), (5, .e (.a (.p 5 (0)))), (6, .b (false)), (7, .i (f.wSafeV plan)), (9, .e (.a (.q 10))), (11, .i (sumI t.dross i)), (12, .b (allI (f.keepsAt plan t) i)), (13, .i ((i : Int)))], [(0, PL EPig (f.shop.pigs)), (1, PL ENight (f.nights)), (2, PL (EP.sl EP.int) (plan)), (3, PL EP.int (t.dross)), (10, PL EP.int (f.wFailsV plan))], [(4, .blk [ai (f.shop.pounds), ai (f.shop.tl), ai (f.shop.th), ai (f.shop.al), ai (f.shop.ah), ai (f.shop.room), ai (f.shop.tpl), ai (f.shop.tph), ai (f.shop.apl), ai (f.shop.aph), .q 0, .q 1] 31), (5, .blk [ai (t.tin), ai (t.ant), .q 3] 53)], [], []⟩) (fun i => i ≤ f.nights.length) (fun i => f.nights.length - i) (0) id ?_ (LeR.of ⟨rfl, rfl, rfl, rfl, rfl, rfl, rfl, rfl, rfl, trivial⟩ ⟨(lx rfl), (lx rfl), (lx rfl), (lx rfl), (lx rfl), trivial⟩ ⟨rfl, rfl, trivial⟩ rfl rfl rfl rfl rfl) ?_
      · first | trivial | omega | (constructor <;> omega) | simp
      intro i hφ
      have hi : i ≤ f.nights.length := hφ
      refine WP.seq ?_
      refine WP.seq ?_
      refine WP.region ?_
      refine WPl.v rfl (o_move rfl) ?_
      refine WPl.v rfl (o_fldp F31_1 rfl) ?_
      refine WPl.v rfl (o_ldp S29 rfl rfl rfl) ?_
      refine WPl.v rfl (o_lenq L29 rfl (lx rfl)) ?_
      refine WPl.v rfl (o_lss rfl rfl) ?_
      refine WPl.nil ?_
      refine EX.then ?_
      refine WP.cond rfl (fun hc3 => ?_) (fun hc3 => ?_)
      · try simp only [decide_eq_true_eq, decide_eq_false_iff_not, Bool.and_eq_true, Bool.or_eq_true, Bool.and_eq_false_iff, Bool.or_eq_false_iff, Bool.not_eq_true', Bool.not_eq_false', ne_eq, Decidable.not_not] at hc3
        refine WP.skip ?_
        refine EX.then ?_
        refine WP.seq ?_
        refine WP.block ?_
        refine WP.seq ?_
        refine WP.region ?_
        have hni : ((i : Int) + 1).toNat = i + 1 := by omega
        have hti := hts i (by omega)
        have hti1 := hts (i + 1) (by omega)
        have hli := hlh i (by omega)
        have hli1 := hlh (i + 1) (by omega)
        have hhi1 := hhi i (by omega)
        have hhi2 := hhi (i + 1) (by omega)
        simp only [sumI] at hti1
        have hadb : bnd (upTo f.shop.pigs.length plan ((i : Int) + 1).toNat) 1000 := by rw [hni]; exact fun j hj => by have := hub (i + 1) (by omega) j hj; omega
        have hs0 := sumOf_bnd (f := Pig.pounds) (add := upTo f.shop.pigs.length plan ((i : Int) + 1).toNat) hpg (by rw [hul]; exact Nat.le_refl _) hadb (fun p h => by have := Pig.bnds h; omega)
        have hs1 := sumOf_bnd (f := Pig.tin) (add := upTo f.shop.pigs.length plan ((i : Int) + 1).toNat) hpg (by rw [hul]; exact Nat.le_refl _) hadb (fun p h => by have := Pig.bnds h; omega)
        have hs2 := sumOf_bnd (f := Pig.ant) (add := upTo f.shop.pigs.length plan ((i : Int) + 1).toNat) hpg (by rw [hul]; exact Nat.le_refl _) hadb (fun p h => by have := Pig.bnds h; omega)
        refine WPl.v rfl (o_ldpa G31 rfl rfl rfl) ?_
        refine WPl.v rfl (o_move rfl) ?_
        refine WPl.v rfl (o_move rfl) ?_
        refine WPl.cs 16 rfl rfl rfl rfl (o_sig 15 (ren [(0, 0), (1, 1), (2, 2)]) (c37 f plan (i : Int) (by omega) (by omega) (by omega) (fun i hi => ⟨(hpb i hi).1, fun j hj => by have := (hpb i hi).2 j hj; omega⟩)) e37 rfl rfl rfl w37 ⟨(lx rfl), (lx rfl), (lx rfl), trivial⟩ r37) ?_
        refine WPl.v rfl (o_assign rfl) ?_
        refine WPl.nil ?_
        refine EX.then ?_
        refine WP.seq ?_
        refine WP.draw (nf := 20) [⟨[94, 95, 96, 15, 16, 17], [16, 17, 18, 19], [], [], []⟩, ⟨[93, 96, 15, 16, 17], [17, 18, 19], [], [], []⟩, ⟨[93, 96, 15, 16, 17], [17, 18, 19], [16], [16], [1]⟩, ⟨[93, 94, 95, 15, 16, 17], [16, 17, 18, 19], [], [], []⟩, ⟨[15, 16, 17], [17, 18, 19], [], [], [0, 1, 2, 3]⟩, ⟨[15, 16, 17], [17, 18, 19], [], [], [0, 1, 2, 3, 4]⟩, ⟨[99, 100, 101, 15, 16, 17], [17, 18, 19], [], [], [0, 1, 2, 3, 4, 5]⟩, ⟨[98, 100, 101, 15, 16, 17], [17, 18, 19], [], [], [0, 1, 2, 3, 4, 5]⟩, ⟨[98, 99, 101, 15, 16, 17], [17, 18, 19], [], [], [0, 1, 2, 3, 4, 5]⟩, ⟨[98, 99, 100, 15, 16, 17], [17, 18, 19], [], [], [0, 1, 2, 3, 4, 5]⟩, ⟨[93, 94, 95, 96, 97, 92, 98, 99, 100, 101, 16, 17], [16, 18, 19], [17], [17], []⟩, ⟨[93, 94, 95, 96, 97, 92, 98, 99, 100, 101, 15, 17], [16, 17, 19], [18], [18], []⟩, ⟨[93, 94, 95, 96, 97, 92, 98, 99, 100, 101, 15, 16], [16, 17, 18], [19], [19], []⟩, ⟨[99, 100, 101], [], [], [17], [0, 1, 2, 3, 4, 5, 6, 10, 11, 12]⟩, ⟨[100, 101], [], [], [18], [0, 1, 2, 3, 4, 5, 6, 7, 10, 11, 12, 13]⟩, ⟨[101], [], [], [19], [0, 1, 2, 3, 4, 5, 6, 7, 8, 10, 11, 12, 13, 14]⟩, ⟨[], [], [], [], [0, 1, 2, 3, 4, 5, 6, 7, 8, 9, 10, 11, 12, 13, 14, 15]⟩] (by kernel_rfl) (by kernel_rfl) ?_
        refine DRQ.v rfl rfl rfl (o_ldpa G31 rfl rfl rfl) ?_
        refine DRQ.v rfl rfl rfl (o_move rfl) ?_
        refine DRQ.cs rfl rfl rfl rfl (o_sig 16 (ren [(0, 2)]) (c18 plan hll.1 hll.2) e18 rfl rfl rfl w18 ⟨(lx rfl), trivial⟩ r18) ?_
        refine DRQ.v rfl rfl rfl (o_move rfl) ?_
        refine DRQ.cs rfl rfl rfl rfl (o_sig 17 (ren [(0, 0), (1, 1), (2, 16)]) (c19 f plan (i : Int) (by omega)) e19 rfl rfl rfl w19 ⟨(lx rfl), (lx rfl), (lx rfl), trivial⟩ r19) ?_
        refine DRQ.v rfl rfl rfl (o_move rfl) ?_
        refine DRQ.v rfl rfl rfl (o_extract rfl rfl) ?_
        refine DRQ.v rfl rfl rfl (o_extract rfl rfl) ?_
        refine DRQ.v rfl rfl rfl (o_extract rfl rfl) ?_
        refine DRQ.v rfl rfl rfl (o_extract rfl rfl) ?_
        refine DRQ.l 17 rfl rfl rfl rfl (o_alloc Z23) ?_
        refine DRQ.l 18 rfl rfl rfl rfl (o_alloc Z23) ?_
        refine DRQ.l 19 rfl rfl rfl rfl (o_alloc Z23) ?_
        refine DRQ.s 17 rfl rfl rfl (o_stag G23 rfl rfl rfl ⟨rfl, rfl, trivial⟩ rfl rfl) ?_
        refine DRQ.s 18 rfl rfl rfl (o_stag G23 rfl rfl rfl ⟨rfl, rfl, trivial⟩ rfl rfl) ?_
        refine DRQ.s 19 rfl rfl rfl (o_stag G23 rfl rfl rfl ⟨rfl, rfl, trivial⟩ rfl rfl) ?_
        refine DRQ.v rfl rfl rfl (o_assign rfl) ?_
        refine DRQ.nil' ?_
        refine EX.then ?_
        refine WP.seq ?_
        refine WP.draw (nf := 20) [⟨[106, 107, 108, 109, 111], [], [], [], []⟩, ⟨[106, 107, 108, 109, 111], [], [], [], [0]⟩, ⟨[106, 107, 108, 109, 111], [], [], [], [0, 1]⟩, ⟨[106, 107, 108, 109, 111], [], [], [], [0, 1, 2]⟩, ⟨[102, 103, 104, 105, 108, 111], [], [], [], []⟩, ⟨[102, 103, 104, 105, 108, 111], [], [], [], [4]⟩, ⟨[102, 103, 104, 105, 106, 107, 111], [], [], [], []⟩, ⟨[102, 103, 104, 105, 111], [], [], [], [4, 5, 6]⟩, ⟨[111], [], [], [], [0, 1, 2, 3, 4, 5, 6, 7]⟩, ⟨[102, 103, 104, 105, 106, 107, 108, 109, 110], [], [], [], []⟩, ⟨[], [], [], [], [0, 1, 2, 3, 4, 5, 6, 7, 8, 9]⟩, ⟨[], [], [], [], [0, 1, 2, 3, 4, 5, 6, 7, 8, 9, 10]⟩] (by kernel_rfl) (by kernel_rfl) ?_
        refine DRQ.v rfl rfl rfl (o_fldp F31_0 rfl) ?_
        refine DRQ.v rfl rfl rfl (o_fldp F28_0 rfl) ?_
        refine DRQ.v rfl rfl rfl (o_fldp F25_0 rfl) ?_
        refine DRQ.v rfl rfl rfl (o_ldp S3 rfl rfl rfl) ?_
        refine DRQ.v rfl rfl rfl (o_fldp F31_0 rfl) ?_
        refine DRQ.v rfl rfl rfl (o_ldpg G28 rfl rfl rfl) ?_
        refine DRQ.v rfl rfl rfl (o_move rfl) ?_
        refine DRQ.cs rfl rfl rfl rfl (o_sig 20 (ren [(0, 0), (1, 15)]) (c38 f.shop (upTo f.shop.pigs.length plan ((i : Int) + 1).toNat) hpg (by rw [hni]; exact fun j hj => by have := hub (i + 1) (by omega) j hj; omega) (by rw [hni, hul]; exact Nat.le_refl _)) e38 rfl rfl rfl w38 ⟨(lx rfl), (lx rfl), trivial⟩ r38) ?_
        refine DRQ.v rfl rfl rfl (o_add rfl rfl (by first | omega | (simp; omega)) (by first | omega | (simp; omega))) ?_
        refine DRQ.v rfl rfl rfl (o_move rfl) ?_
        refine DRQ.v rfl rfl rfl (o_sub rfl rfl (by first | omega | (simp; omega)) (by first | omega | (simp; omega))) ?_
        refine DRQ.v rfl rfl rfl (o_assign rfl) ?_
        refine DRQ.nil' ?_
        refine EX.then ?_
        refine WP.seq ?_
        refine WP.draw (nf := 20) [⟨[115, 116, 117, 118, 120, 122, 123, 124, 125, 126, 127, 128], [], [], [], []⟩, ⟨[115, 116, 117, 118, 120, 122, 123, 124, 125, 126, 127, 128], [], [], [], [0]⟩, ⟨[113, 114, 117, 120, 122, 123, 124, 125, 126], [], [], [], []⟩, ⟨[113, 114, 117, 120, 122, 123, 124, 125, 126], [], [], [], [2]⟩, ⟨[113, 114, 115, 116, 120, 122, 123, 124, 125, 126], [], [], [], []⟩, ⟨[113, 114, 120, 122, 123, 124, 125, 126], [], [], [], [2, 3, 4]⟩, ⟨[120, 122, 123, 124, 125, 126, 127, 128], [], [], [], [0, 1, 2, 3, 4, 5]⟩, ⟨[113, 114, 115, 116, 117, 118, 119, 122, 123, 124, 125, 126, 127, 128], [], [], [], []⟩, ⟨[122, 123, 124, 125, 126, 127, 128], [], [], [], [0, 1, 2, 3, 4, 5, 6, 7]⟩, ⟨[113, 114, 115, 116, 117, 118, 119, 120, 121, 124, 125, 126, 127, 20], [], [], [], []⟩, ⟨[113, 114, 115, 116, 117, 118, 119, 120, 121, 124, 125, 126, 127, 20], [], [], [], [9]⟩, ⟨[113, 114, 115, 116, 117, 118, 119, 120, 121, 122, 123, 126], [], [], [], []⟩, ⟨[113, 114, 115, 116, 117, 118, 119, 120, 121, 122, 123, 126], [], [], [], [11]⟩, ⟨[113, 114, 115, 116, 117, 118, 119, 120, 121, 122, 123, 124, 125], [], [], [], []⟩, ⟨[113, 114, 119, 120, 121, 122, 123], [], [], [], [2, 3, 4, 5, 11, 12, 13]⟩, ⟨[113, 114, 119, 120, 121, 20], [], [], [], [2, 3, 4, 5, 9, 10, 11, 12, 13, 14]⟩, ⟨[122, 123, 128], [], [], [], [0, 1, 2, 3, 4, 5, 6, 7, 8, 11, 12, 13, 14]⟩, ⟨[], [], [], [], [0, 1, 2, 3, 4, 5, 6, 7, 8, 9, 10, 11, 12, 13, 14, 15, 16]⟩] (by kernel_rfl) (by kernel_rfl) ?_
        refine DRQ.v rfl rfl rfl (o_fldp F53_0 rfl) ?_
        refine DRQ.v rfl rfl rfl (o_ldp S3 rfl rfl rfl) ?_
        refine DRQ.v rfl rfl rfl (o_fldp F31_0 rfl) ?_
        refine DRQ.v rfl rfl rfl (o_ldpg G28 rfl rfl rfl) ?_
        refine DRQ.v rfl rfl rfl (o_move rfl) ?_
        refine DRQ.cs rfl rfl rfl rfl (o_sig 20 (ren [(0, 0), (1, 15)]) (c39 f.shop (upTo f.shop.pigs.length plan ((i : Int) + 1).toNat) hpg (by rw [hni]; exact fun j hj => by have := hub (i + 1) (by omega) j hj; omega) (by rw [hni, hul]; exact Nat.le_refl _)) e39 rfl rfl rfl w39 ⟨(lx rfl), (lx rfl), trivial⟩ r39) ?_
        refine DRQ.v rfl rfl rfl (o_add rfl rfl (by first | omega | (simp; omega)) (by first | omega | (simp; omega))) ?_
        refine DRQ.v rfl rfl rfl (o_move rfl) ?_
        refine DRQ.v rfl rfl rfl (o_sub rfl rfl (by first | omega | (simp; omega)) (by first | omega | (simp; omega))) ?_
        refine DRQ.v rfl rfl rfl (o_fldp F53_1 rfl) ?_
        refine DRQ.v rfl rfl rfl (o_ldp S3 rfl rfl rfl) ?_
        refine DRQ.v rfl rfl rfl (o_fldp F31_0 rfl) ?_
        refine DRQ.v rfl rfl rfl (o_ldpg G28 rfl rfl rfl) ?_
        refine DRQ.v rfl rfl rfl (o_move rfl) ?_
        refine DRQ.cs rfl rfl rfl rfl (o_sig 20 (ren [(0, 0), (1, 15)]) (c40 f.shop (upTo f.shop.pigs.length plan ((i : Int) + 1).toNat) hpg (by rw [hni]; exact fun j hj => by have := hub (i + 1) (by omega) j hj; omega) (by rw [hni, hul]; exact Nat.le_refl _)) e40 rfl rfl rfl w40 ⟨(lx rfl), (lx rfl), trivial⟩ r40) ?_
        refine DRQ.v rfl rfl rfl (o_add rfl rfl (by first | omega | (simp; omega)) (by first | omega | (simp; omega))) ?_
        refine DRQ.v rfl rfl rfl (o_assign rfl) ?_
        refine DRQ.v rfl rfl rfl (o_assign rfl) ?_
        refine DRQ.nil' ?_
        refine EX.then ?_
        refine WP.seq ?_
        refine WP.seq ?_
        refine WP.region ?_
        refine WPl.v rfl (o_move rfl) ?_
        refine WPl.v rfl (o_neq rfl rfl) ?_
        refine WPl.v rfl (o_move rfl) ?_
        refine WPl.bit 20 21 (!(decide ((f.wPotE plan (i : Int)) ≠ 0))) rfl rfl ?_
        refine WPl.gv 20 rfl rfl (.plain rfl (by simp) rfl) (fun hb => o_move rfl) ?_
        refine WPl.gv 20 rfl rfl (.plain rfl (by simp) rfl) (fun hb => o_fldp F23_0 rfl) ?_
        refine WPl.gv 20 rfl rfl (.plain rfl (by simp) rfl) (fun hb => o_ldp S3 rfl rfl rfl) ?_
        refine WPl.gv 20 rfl rfl (.plain rfl (by simp) rfl) (fun hb => o_fldp F23_1 rfl) ?_
        refine WPl.gv 20 rfl rfl (.plain rfl (by simp) rfl) (fun hb => o_ldp S3 rfl rfl rfl) ?_
        refine WPl.gc0 20 rfl rfl (.plain rfl (by simp) rfl) (fun hb => o_sig 21 id (c35 ((f.shop.pounds + (sumOf Pig.pounds f.shop.pigs (upTo f.shop.pigs.length plan ((i : Int) + 1).toNat))) - (sumI t.dross i)) (nth (f.wPotV plan (i : Int)) 0) (nth (f.wPotV plan (i : Int)) 1)) e35 rfl rfl rfl w35 trivial r35) ?_
        refine WPl.gv 20 rfl rfl (.plain rfl (by simp) rfl) (fun hb => o_not rfl) ?_
        refine WPl.v rfl (o_or rfl rfl rfl (by first | (simp; done) | simp_all)) ?_
        refine WPl.v rfl (o_move rfl) ?_
        refine WPl.bit 21 22 (!((decide ((f.wPotE plan (i : Int)) ≠ 0)) || (!(within ((f.shop.pounds + (sumOf Pig.pounds f.shop.pigs (upTo f.shop.pigs.length plan ((i : Int) + 1).toNat))) - (sumI t.dross i)) (nth (f.wPotV plan (i : Int)) 0) (nth (f.wPotV plan (i : Int)) 1))))) rfl rfl ?_
        refine WPl.gv 21 rfl rfl (.plain rfl (by simp) rfl) (fun hb => o_move rfl) ?_
        refine WPl.gv 21 rfl rfl (.plain rfl (by simp) rfl) (fun hb => o_fldp F23_0 rfl) ?_
        refine WPl.gv 21 rfl rfl (.plain rfl (by simp) rfl) (fun hb => o_ldp S3 rfl rfl rfl) ?_
        refine WPl.gv 21 rfl rfl (.plain rfl (by simp) rfl) (fun hb => o_fldp F23_1 rfl) ?_
        refine WPl.gv 21 rfl rfl (.plain rfl (by simp) rfl) (fun hb => o_ldp S3 rfl rfl rfl) ?_
        refine WPl.gc0 21 rfl rfl (.plain rfl (by simp) rfl) (fun hb => o_sig 22 id (c35 ((t.tin + (sumOf Pig.tin f.shop.pigs (upTo f.shop.pigs.length plan ((i : Int) + 1).toNat))) - (sumI t.dross i)) (nth (f.wPotV plan (i : Int)) 2) (nth (f.wPotV plan (i : Int)) 3)) e35 rfl rfl rfl w35 trivial r35) ?_
        refine WPl.gv 21 rfl rfl (.plain rfl (by simp) rfl) (fun hb => o_not rfl) ?_
        refine WPl.v rfl (o_or rfl rfl rfl (by first | (simp; done) | simp_all)) ?_
        refine WPl.v rfl (o_move rfl) ?_
        refine WPl.bit 22 23 (!(((decide ((f.wPotE plan (i : Int)) ≠ 0)) || (!(within ((f.shop.pounds + (sumOf Pig.pounds f.shop.pigs (upTo f.shop.pigs.length plan ((i : Int) + 1).toNat))) - (sumI t.dross i)) (nth (f.wPotV plan (i : Int)) 0) (nth (f.wPotV plan (i : Int)) 1)))) || (!(within ((t.tin + (sumOf Pig.tin f.shop.pigs (upTo f.shop.pigs.length plan ((i : Int) + 1).toNat))) - (sumI t.dross i)) (nth (f.wPotV plan (i : Int)) 2) (nth (f.wPotV plan (i : Int)) 3))))) rfl rfl ?_
        refine WPl.gv 22 rfl rfl (.plain rfl (by simp) rfl) (fun hb => o_move rfl) ?_
        refine WPl.gv 22 rfl rfl (.plain rfl (by simp) rfl) (fun hb => o_fldp F23_0 rfl) ?_
        refine WPl.gv 22 rfl rfl (.plain rfl (by simp) rfl) (fun hb => o_ldp S3 rfl rfl rfl) ?_
        refine WPl.gv 22 rfl rfl (.plain rfl (by simp) rfl) (fun hb => o_fldp F23_1 rfl) ?_
        refine WPl.gv 22 rfl rfl (.plain rfl (by simp) rfl) (fun hb => o_ldp S3 rfl rfl rfl) ?_
        refine WPl.gc0 22 rfl rfl (.plain rfl (by simp) rfl) (fun hb => o_sig 23 id (c35 (t.ant + (sumOf Pig.ant f.shop.pigs (upTo f.shop.pigs.length plan ((i : Int) + 1).toNat))) (nth (f.wPotV plan (i : Int)) 4) (nth (f.wPotV plan (i : Int)) 5)) e35 rfl rfl rfl w35 trivial r35) ?_
        refine WPl.gv 22 rfl rfl (.plain rfl (by simp) rfl) (fun hb => o_not rfl) ?_
        refine WPl.v rfl (o_or rfl rfl rfl (by first | (simp; done) | simp_all)) ?_
        refine WPl.nil ?_
        refine EX.then ?_
        refine WP.cond rfl (fun hc4 => ?_) (fun hc4 => ?_)
        · try simp only [decide_eq_true_eq, decide_eq_false_iff_not, Bool.and_eq_true, Bool.or_eq_true, Bool.and_eq_false_iff, Bool.or_eq_false_iff, Bool.not_eq_true', Bool.not_eq_false', ne_eq, Decidable.not_not] at hc4
          rw [hni, law.e i (by omega), law.p1 i (by omega), law.p2 i (by omega), law.p3 i (by omega)] at hc4
          simp at hc4
        · try simp only [decide_eq_true_eq, decide_eq_false_iff_not, Bool.and_eq_true, Bool.or_eq_true, Bool.and_eq_false_iff, Bool.or_eq_false_iff, Bool.not_eq_true', Bool.not_eq_false', ne_eq, Decidable.not_not] at hc4
          refine WP.skip ?_
          refine EX.then ?_
          refine WP.seq ?_
          refine WP.region ?_
          refine WPl.v rfl (o_ldpa G31 rfl rfl rfl) ?_
          refine WPl.v rfl (o_fldp F53_0 rfl) ?_
          refine WPl.v rfl (o_ldp S3 rfl rfl rfl) ?_
          refine WPl.v rfl (o_fldp F53_1 rfl) ?_
          refine WPl.v rfl (o_ldp S3 rfl rfl rfl) ?_
          refine WPl.v rfl (o_move rfl) ?_
          refine WPl.v rfl (o_move rfl) ?_
          refine WPl.cs 23 rfl rfl rfl rfl (o_sig 23 (ren [(0, 0), (1, 1), (2, 15)]) (c41 f t.tin t.ant (sumI t.dross i) (upTo f.shop.pigs.length plan ((i : Int) + 1).toNat) hs (by rw [hni]; exact fun j hj => by have := hub (i + 1) (by omega) j hj; omega) (by rw [hni, hul]; exact Nat.le_refl _) (by omega) (by omega) (by omega)) e41 rfl rfl rfl w41 ⟨(lx rfl), (lx rfl), (lx rfl), trivial⟩ r41) ?_
          refine WPl.v rfl (o_assign rfl) ?_
          refine WPl.nil ?_
          refine EX.then ?_
          refine WP.seq ?_
          refine WP.seq ?_
          refine WP.region ?_
          refine WPl.v rfl (o_move rfl) ?_
          refine WPl.v rfl (o_not rfl) ?_
          refine WPl.v rfl (o_move rfl) ?_
          refine WPl.bit 23 24 (!(f.keeps t.tin t.ant (sumI t.dross i) (upTo f.shop.pigs.length plan ((i : Int) + 1).toNat))) rfl rfl ?_
          refine WPl.gv 23 rfl rfl (.plain rfl Iff.rfl rfl) (fun hb => o_move rfl) ?_
          refine WPl.gv 23 rfl rfl (.plain rfl Iff.rfl rfl) (fun hb => o_move rfl) ?_
          refine WPl.gc0 23 rfl rfl (.plain rfl Iff.rfl rfl) (fun hb => o_sig 24 (ren [(0, 10)]) (c42 (f.wFailsV plan) (i : Int) (by omega)) e42 rfl rfl rfl w42 ⟨(lx rfl), trivial⟩ r42) ?_
          refine WPl.gv 23 rfl rfl (.plain rfl Iff.rfl rfl) (fun hb => o_not rfl) ?_
          refine WPl.v rfl (o_and rfl rfl rfl id) ?_
          refine WPl.nil ?_
          refine EX.then ?_
          refine WP.cond rfl (fun hc5 => ?_) (fun hc5 => ?_)
          · try simp only [decide_eq_true_eq, decide_eq_false_iff_not, Bool.and_eq_true, Bool.or_eq_true, Bool.and_eq_false_iff, Bool.or_eq_false_iff, Bool.not_eq_true', Bool.not_eq_false', ne_eq, Decidable.not_not] at hc5
            rw [hni] at hc5
            rw [law.k i (by omega) hc5.1] at hc5
            simp at hc5
          · try simp only [decide_eq_true_eq, decide_eq_false_iff_not, Bool.and_eq_true, Bool.or_eq_true, Bool.and_eq_false_iff, Bool.or_eq_false_iff, Bool.not_eq_true', Bool.not_eq_false', ne_eq, Decidable.not_not] at hc5
            refine WP.skip ?_
            refine EX.then ?_
            refine WP.seq ?_
            refine WP.region ?_
            refine WPl.v rfl (o_move rfl) ?_
            refine WPl.v rfl (o_move rfl) ?_
            refine WPl.bit 24 25 (allI (f.keepsAt plan t) i) rfl rfl ?_
            refine WPl.gv 24 rfl rfl (.plain rfl Iff.rfl rfl) (fun hb => o_move rfl) ?_
            refine WPl.v rfl (o_and rfl rfl rfl id) ?_
            refine WPl.v rfl (o_assign rfl) ?_
            refine WPl.nil ?_
            refine EX.then ?_
            refine WP.region ?_
            refine WPl.v rfl (o_move rfl) ?_
            refine WPl.v rfl (o_fldp F53_2 rfl) ?_
            refine WPl.v rfl (o_ldp S44 rfl rfl rfl) ?_
            refine WPl.v rfl (o_move rfl) ?_
            refine WPl.x 25 26 rfl rfl rfl (o_idx L44 rfl (lx rfl) rfl (by first | omega | (simp; omega)) (by first | omega | (simp; omega))) ?_
            refine WPl.v rfl (o_ldq S3 rfl (lx rfl) intc) ?_
            refine WPl.v rfl (o_add rfl rfl (by first | omega | (simp; omega)) (by first | omega | (simp; omega))) ?_
            refine WPl.v rfl (o_assign rfl) ?_
            refine WPl.nil ?_
            refine EX.blk ?_
            refine EX.then ?_
            refine WP.region ?_
            refine WPl.v rfl (o_move rfl) ?_
            refine WPl.v rfl (o_add rfl rfl (by first | omega | (simp; omega)) (by first | omega | (simp; omega))) ?_
            refine WPl.v rfl (o_assign rfl) ?_
            refine WPl.nil ?_
            refine EX.again (i + 1) id (by first | omega | (constructor <;> omega)) (by omega) (LeR.of ⟨rfl, rfl, rfl, rfl, rfl, rfl, rfl, (congrArg (fun z => some (SV.b z)) (show ((allI (f.keepsAt plan t) i) && (f.keeps t.tin t.ant (sumI t.dross i) (upTo f.shop.pigs.length plan ((i : Int) + 1).toNat))) = ((fun i => allI (f.keepsAt plan t) i) (i + 1)) from by rw [hni]; rfl)), rfl, trivial⟩ ⟨(lx rfl), (lx rfl), (lx rfl), (lx rfl), (lx rfl), trivial⟩ ⟨rfl, rfl, trivial⟩ rfl rfl rfl rfl rfl)
      · try simp only [decide_eq_true_eq, decide_eq_false_iff_not, Bool.and_eq_true, Bool.or_eq_true, Bool.and_eq_false_iff, Bool.or_eq_false_iff, Bool.not_eq_true', Bool.not_eq_false', ne_eq, Decidable.not_not] at hc3
        have hi2 : i = f.nights.length := by omega
        subst hi2
        refine WP.exit ?_
        refine EX.exit_then ?_
        refine EX.exit_then ?_
        refine EX.exit_blk ?_
        refine EX.then ?_
        refine WP.seq ?_
        refine WP.region ?_
        refine WPl.v rfl (o_move rfl) ?_
        refine WPl.v rfl (o_neq rfl rfl) ?_
        refine WPl.v rfl (o_move rfl) ?_
        refine WPl.bit 15 16 (!(decide ((f.wSafeV plan) ≠ 1))) rfl rfl ?_
        refine WPl.gv 15 rfl rfl (.plain rfl (by simp) rfl) (fun hb => o_move rfl) ?_
        refine WPl.v rfl (o_or rfl rfl rfl (by first | (simp; done) | simp_all)) ?_
        refine WPl.imp (Imp.bitF 189 (b' := true) rfl (by by_cases h : f.wSafeV plan = 1; simp [h, law.a h]; simp [h])) ?_
        refine WPl.v rfl (o_move rfl) ?_
        refine WPl.on rfl ⟨_, _, rfl, rfl, rfl⟩ (o_move rfl) ?_
        refine WPl.on rfl ⟨_, _, rfl, rfl, rfl⟩ (o_neq rfl rfl) ?_
        refine WPl.on rfl ⟨_, _, rfl, rfl, rfl⟩ (o_move rfl) ?_
        refine WPl.bit 16 17 (!(decide ((f.wSafeV plan) ≠ 2))) rfl rfl ?_
        refine WPl.gv 16 rfl rfl (.plain rfl (by simp) rfl) (fun hb => o_move rfl) ?_
        refine WPl.gv 16 rfl rfl (.plain rfl (by simp) rfl) (fun hb => o_not rfl) ?_
        refine WPl.on rfl ⟨_, _, rfl, rfl, rfl⟩ (o_or rfl rfl rfl (by first | (simp; done) | simp_all)) ?_
        refine WPl.v rfl (o_pickT rfl rfl) ?_
        refine WPl.imp (Imp.bitF 197 (b' := true) rfl (by by_cases h : f.wSafeV plan = 2; simp [h, law.n h]; simp [h])) ?_
        refine WPl.v rfl (o_move rfl) ?_
        refine WPl.cL 18 rfl rfl rfl rfl ⟨_, _, rfl, rfl, rfl⟩ (o_sig 17 id c16 e16 rfl rfl rfl w16 trivial r16) ?_
        refine WPl.v rfl (o_pickT rfl rfl) ?_
        refine WPl.v rfl (o_assign rfl) ?_
        refine WPl.nil ?_
        refine EX.then ?_
        refine WP.ret ?_
        exact EX.fin id (.inl rfl) rfl (.tmp rfl .nil) rfl r4 trivial (by simp) (by simp)
end Go.Flong
