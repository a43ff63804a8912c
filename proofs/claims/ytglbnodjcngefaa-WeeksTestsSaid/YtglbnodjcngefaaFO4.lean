/- Walks (printed by gen.py off the specs). -/
import Derived.Test.YtglbnodjcngefaaFO1
import Derived.Test.YtglbnodjcngefaaBase11
import Derived.Test.YtglbnodjcngefaaProg
set_option linter.unusedSimpArgs false
set_option linter.unusedVariables false
namespace Go.Flong
open Go Go.Eng Go.Proofs
theorem e32 : Enters' Try.prog 32 := Try.call32
theorem e16 : Enters' Try.prog 16 := Try.call16
theorem e49 : Enters' Try.prog 49 := Try.call49
theorem e59 : Enters' Try.prog 59 := Try.call59
theorem e61 : Enters' Try.prog 61 := Try.call61
theorem e50 : Enters' Try.prog 50 := Try.call50
theorem e54 : Enters' Try.prog 54 := Try.call54
theorem w11 {f : Fnd} {night : Int} : ∀ x ∈ ([.e (.g [ai (f.shop.pounds), ai (f.shop.tl), ai (f.shop.th), ai (f.shop.al), ai (f.shop.ah), ai (f.shop.room), ai (f.shop.tpl), ai (f.shop.tph), ai (f.shop.apl), ai (f.shop.aph), .q 0, .q 1]), .i (night)] : List SV), x.res (keys (α := Pred) [(0, PL EPig (f.shop.pigs)), (1, PL ENight (f.nights))]) := by simp [SV.res, El.res, At.res, keys]
theorem r11  : SV.res (keys (α := Pred) []) (.b (true)) := by simp [SV.res, El.res, At.res, keys]
set_option maxHeartbeats 4000000 in
theorem c11 (f : Fnd) (night : Int) (hlaw : f.chk = true → TestsLaw f night) : Sig Try.prog 11 [.e (.g [ai (f.shop.pounds), ai (f.shop.tl), ai (f.shop.th), ai (f.shop.al), ai (f.shop.ah), ai (f.shop.room), ai (f.shop.tpl), ai (f.shop.tph), ai (f.shop.apl), ai (f.shop.aph), .q 0, .q 1]), .i (night)] [(0, PL EPig (f.shop.pigs)), (1, PL ENight (f.nights))] (.b (true)) [] := by
  refine Sig.intro Try.func11 rfl 2 [(0, .e (.g [ai (f.shop.pounds), ai (f.shop.tl), ai (f.shop.th), ai (f.shop.al), ai (f.shop.ah), ai (f.shop.room), ai (f.shop.tpl), ai (f.shop.tph), ai (f.shop.apl), ai (f.shop.aph), .q 0, .q 1])), (1, .i (night))] rfl w11 rfl rfl fun I w => ?_
  refine WP.seq ?_
  refine WP.region ?_
  refine WPl.l 2 3 rfl rfl rfl (o_boxg rfl) ?_
  refine WPl.v rfl (o_assign rfl) ?_
  refine WPl.nil ?_
  refine EX.then ?_
  refine WP.seq ?_
  refine WP.seq ?_
  refine WP.region ?_
  refine WPl.v rfl (o_ldpa G31 rfl rfl rfl) ?_
  refine WPl.cs 3 rfl rfl rfl rfl (o_sig 3 (ren [(0, 0), (1, 1)]) (c32 f) e32 rfl rfl rfl w32 ⟨(lx rfl), (lx rfl), trivial⟩ r32) ?_
  refine WPl.v rfl (o_not rfl) ?_
  refine WPl.nil ?_
  refine EX.then ?_
  refine WP.cond rfl (fun hc1 => ?_) (fun hc1 => ?_)
  · try simp only [decide_eq_true_eq, decide_eq_false_iff_not, Bool.and_eq_true, Bool.or_eq_true, Bool.and_eq_false_iff, Bool.or_eq_false_iff, Bool.not_eq_true', Bool.not_eq_false', ne_eq, Decidable.not_not] at hc1
    refine WP.seq ?_
    refine WP.region ?_
    refine WPl.cs 3 rfl rfl rfl rfl (o_sig 3 id c16 e16 rfl rfl rfl w16 trivial r16) ?_
    refine WPl.v rfl (o_assign rfl) ?_
    refine WPl.nil ?_
    refine EX.then ?_
    refine WP.ret ?_
    refine EX.ret_then ?_
    exact EX.fin id (.inl rfl) rfl (.tmp rfl .nil) rfl r11 trivial (by simp) (by simp)
  · try simp only [decide_eq_true_eq, decide_eq_false_iff_not, Bool.and_eq_true, Bool.or_eq_true, Bool.and_eq_false_iff, Bool.or_eq_false_iff, Bool.not_eq_true', Bool.not_eq_false', ne_eq, Decidable.not_not] at hc1
    have hrd := rdy_parts hc1
    have hf := hrd.2
    have hcb := Fnd.chkB hf
    have law := hlaw hf
    have htb := testsTo_bnd hf
    have hn := Fnd.nightsOK hf
    have hb1 := law.b1
    have hb2 := law.b2
    refine WP.skip ?_
    refine EX.then ?_
    refine WP.seq ?_
    refine WP.region ?_
    refine WPl.v rfl (o_ldpa G31 rfl rfl rfl) ?_
    refine WPl.cs 3 rfl rfl rfl rfl (o_sig 3 (ren [(0, 0), (1, 1)]) (c49 f (by omega) (law.c)) e49 rfl rfl rfl w49 ⟨(lx rfl), (lx rfl), trivial⟩ r49) ?_
    refine WPl.v rfl (o_move rfl) ?_
    refine WPl.v rfl (o_extract rfl rfl) ?_
    refine WPl.v rfl (o_extract rfl rfl) ?_
    refine WPl.v rfl (o_extract rfl rfl) ?_
    refine WPl.v rfl (o_extract rfl rfl) ?_
    refine WPl.v rfl (o_assign rfl) ?_
    refine WPl.v rfl (o_assign rfl) ?_
    refine WPl.v rfl (o_assign rfl) ?_
    refine WPl.v rfl (o_assign rfl) ?_
    refine WPl.nil ?_
    refine EX.then ?_
    refine WP.seq ?_
    refine WP.region ?_
    refine WPl.v rfl (o_ldpa G31 rfl rfl rfl) ?_
    refine WPl.cs 3 rfl rfl rfl rfl (o_sig 3 (ren [(0, 0), (1, 1)]) (c59 f (by omega)) e59 rfl rfl rfl w59 ⟨(lx rfl), (lx rfl), trivial⟩ r59) ?_
    refine WPl.v rfl (o_move rfl) ?_
    refine WPl.v rfl (o_extract rfl rfl) ?_
    refine WPl.v rfl (o_extract rfl rfl) ?_
    refine WPl.v rfl (o_assign rfl) ?_
    refine WPl.v rfl (o_assign rfl) ?_
    refine WPl.nil ?_
    refine EX.then ?_
    refine WP.seq ?_
    refine WP.region ?_
    refine WPl.v rfl (o_ldpa G31 rfl rfl rfl) ?_
    refine WPl.cs 3 rfl rfl rfl rfl (o_sig 3 (ren [(0, 0), (1, 1)]) (c61 f (by omega)) e61 rfl rfl rfl w61 ⟨(lx rfl), (lx rfl), trivial⟩ r61) ?_
    refine WPl.v rfl (o_move rfl) ?_
    refine WPl.v rfl (o_extract rfl rfl) ?_
    refine WPl.v rfl (o_extract rfl rfl) ?_
    refine WPl.v rfl (o_assign rfl) ?_
    refine WPl.v rfl (o_assign rfl) ?_
    refine WPl.nil ?_
    refine EX.then ?_
    refine WP.seq ?_
    refine WP.region ?_
    refine WPl.v rfl (o_assign rfl) ?_
    refine WPl.nil ?_
    refine EX.then ?_
    refine WP.seq ?_
    refine WP.seq ?_
    refine WP.region ?_
    refine WPl.v rfl (o_assign rfl) ?_
    refine WPl.nil ?_
    refine EX.then ?_
    refine WP.block ?_
    refine WP.loop (Gh := Nat) (fun i => ⟨3, [(1, .i (night)), (2, .e (.a (.p 2 (0)))), (4, .b (false)), (5, .i (f.cheapC)), (7, .i (f.knownC)), (8, .b (true)), (9, .i (f.wWorthV)), (10, .i (f.wWorthE)), (11, .i (f.wAskV)), (12, .i (f.wAskE)), (13, .i (f.testsTo i)), (14, .i ((i : Int)))], [(0, PL EPig (f.shop.pigs)), (1, PL ENight (f.nights))], [(2, .blk [ai (f.shop.pounds), ai (f.shop.tl), ai (f.shop.th), ai (f.shop.al), ai (f.shop.ah), ai (f.shop.room), ai (f.shop.tpl), ai (f.shop.tph), ai (f.shop.apl), ai (f.shop.aph), .q 0, .q 1] 31)], [], []⟩) (fun i => i ≤ f.nights.length) (fun i => f.nights.length - i) (0) id ?_ (LeR.of ⟨rfl, rfl, rfl, rfl, rfl, rfl, rfl, rfl, rfl, rfl, rfl, rfl, trivial⟩ ⟨(lx rfl), (lx rfl), trivial⟩ ⟨rfl, trivial⟩ rfl rfl rfl rfl rfl) ?_
    · first | trivial | omega | (constructor <;> omega) | simp
    intro i hφ
    have hi : i ≤ f.nights.length := hφ
    refine WP.seq ?_
    refine WP.seq ?_
    refine WP.region ?_
    refine WPl.v rfl (o_move rfl) ?_
    refine WPl.v rfl (o_fldp F31_1 rfl) ?_
    refine WPl.v rfl (o_ldp S29 rfl rfl rfl) ?_
    refine WPl.v rfl (o_lenq L29 rfl (lx rfl)) ?_
    refine WPl.v rfl (o_lss rfl rfl) ?_
    refine WPl.nil ?_
    refine EX.then ?_
    refine WP.cond rfl (fun hc2 => ?_) (fun hc2 => ?_)
    · try simp only [decide_eq_true_eq, decide_eq_false_iff_not, Bool.and_eq_true, Bool.or_eq_true, Bool.and_eq_false_iff, Bool.or_eq_false_iff, Bool.not_eq_true', Bool.not_eq_false', ne_eq, Decidable.not_not] at hc2
      refine WP.skip ?_
      refine EX.then ?_
      refine WP.seq ?_
      refine WP.block ?_
      refine WP.region ?_
      have hnb := Night.bnds (hn.at (show i < f.nights.length by omega))
      have hti := htb i (by omega)
      refine WPl.v rfl (o_move rfl) ?_
      refine WPl.v rfl (o_fldp F31_1 rfl) ?_
      refine WPl.v rfl (o_ldp S29 rfl rfl rfl) ?_
      refine WPl.v rfl (o_move rfl) ?_
      refine WPl.x 3 4 rfl rfl rfl (o_idx L29 rfl (lx rfl) rfl (by first | omega | (simp; omega)) (by first | omega | (simp; omega))) ?_
      refine WPl.v rfl (o_fldq F75_1 rfl (lx rfl)) ?_
      refine WPl.v rfl (o_lde S3 rfl (lx rfl) (strI rfl)) ?_
      refine WPl.v rfl (o_add rfl rfl (by first | omega | (simp; omega)) (by first | omega | (simp; omega))) ?_
      refine WPl.v rfl (o_assign rfl) ?_
      refine WPl.nil ?_
      refine EX.blk ?_
      refine EX.then ?_
      refine WP.region ?_
      refine WPl.v rfl (o_move rfl) ?_
      refine WPl.v rfl (o_add rfl rfl (by first | omega | (simp; omega)) (by first | omega | (simp; omega))) ?_
      refine WPl.v rfl (o_assign rfl) ?_
      refine WPl.nil ?_
      refine EX.again (i + 1) id (by first | omega | (constructor <;> omega)) (by omega) (LeR.of ⟨rfl, rfl, rfl, rfl, rfl, rfl, rfl, rfl, rfl, rfl, rfl, rfl, trivial⟩ ⟨(lx rfl), (lx rfl), trivial⟩ ⟨rfl, trivial⟩ rfl rfl rfl rfl rfl)
    · try simp only [decide_eq_true_eq, decide_eq_false_iff_not, Bool.and_eq_true, Bool.or_eq_true, Bool.and_eq_false_iff, Bool.or_eq_false_iff, Bool.not_eq_true', Bool.not_eq_false', ne_eq, Decidable.not_not] at hc2
      have hi2 : i = f.nights.length := by omega
      have hti0 : f.testsTo i = f.testsTo f.nights.length := by rw [hi2]
      refine WP.exit ?_
      refine EX.exit_then ?_
      refine EX.exit_then ?_
      refine EX.exit_blk ?_
      refine EX.then ?_
      refine WP.seq ?_
      refine WP.seq ?_
      refine WP.region ?_
      refine WPl.v rfl (o_move rfl) ?_
      refine WPl.v rfl (o_not rfl) ?_
      refine WPl.v rfl (o_move rfl) ?_
      refine WPl.on rfl ⟨_, _, rfl, rfl, rfl⟩ (o_move rfl) ?_
      refine WPl.on rfl ⟨_, _, rfl, rfl, rfl⟩ (o_move rfl) ?_
      refine WPl.on rfl ⟨_, _, rfl, rfl, rfl⟩ (o_gtr rfl rfl) ?_
      refine WPl.v rfl (o_pickF rfl rfl) ?_
      refine WPl.v rfl (o_move rfl) ?_
      refine WPl.bit 3 4 (!(decide (f.cheapC < f.knownC))) rfl rfl ?_
      refine WPl.gv 3 rfl rfl (.plain rfl (by first | (simp; done) | simp only [Bool.not_eq_true']) rfl) (fun hb => o_move rfl) ?_
      refine WPl.gv 3 rfl rfl (.plain rfl (by first | (simp; done) | simp only [Bool.not_eq_true']) rfl) (fun hb => o_eql rfl rfl) ?_
      refine WPl.gv 3 rfl rfl (.plain rfl (by first | (simp; done) | simp only [Bool.not_eq_true']) rfl) (fun hb => o_move rfl) ?_
      refine WPl.bit 4 5 ((!(decide (f.cheapC < f.knownC))) && (decide ((f.testsTo i) = 0))) rfl rfl ?_
      refine WPl.gv 4 rfl rfl (.nest rfl rfl (by first | (simp; done) | simp only [Bool.and_eq_true, Bool.not_eq_true']) rfl) (fun hb => o_move rfl) ?_
      refine WPl.gv 4 rfl rfl (.nest rfl rfl (by first | (simp; done) | simp only [Bool.and_eq_true, Bool.not_eq_true']) rfl) (fun hb => o_move rfl) ?_
      refine WPl.gv 4 rfl rfl (.nest rfl rfl (by first | (simp; done) | simp only [Bool.and_eq_true, Bool.not_eq_true']) rfl) (fun hb => o_neq rfl rfl) ?_
      refine WPl.gv 3 rfl rfl (.plain rfl (by first | (simp; done) | simp only [Bool.not_eq_true']) rfl) (fun hb => o_and rfl rfl rfl (by first | (simp; done) | exact fun h => Bool.and_eq_true_iff.2 ⟨hb, h⟩ | simp_all)) ?_
      refine WPl.v rfl (o_or rfl rfl rfl (by first | (simp; done) | exact fun h => by rw [h]; rfl | exact fun h => Bool.and_eq_true_iff.2 ⟨hb, by rw [h]; rfl⟩ | simp_all)) ?_
      refine WPl.v rfl (o_move rfl) ?_
      refine WPl.bit 5 6 (!((decide (f.cheapC < f.knownC)) || ((decide ((f.testsTo i) = 0)) && (decide (f.knownC ≠ f.cheapC))))) rfl rfl ?_
      refine WPl.gv 5 rfl rfl (.plain rfl (by first | (simp; done) | simp only [Bool.not_eq_true']) rfl) (fun hb => o_move rfl) ?_
      refine WPl.gc0 5 rfl rfl (.plain rfl (by first | (simp; done) | simp only [Bool.not_eq_true']) rfl) (fun hb => o_sig 6 id (c50 f.wWorthE) e50 rfl rfl rfl w50 trivial r50) ?_
      refine WPl.gv 5 rfl rfl (.plain rfl (by first | (simp; done) | simp only [Bool.not_eq_true']) rfl) (fun hb => o_not rfl) ?_
      refine WPl.v rfl (o_or rfl rfl rfl (by first | (simp; done) | exact fun h => by rw [h]; rfl | exact fun h => Bool.and_eq_true_iff.2 ⟨hb, by rw [h]; rfl⟩ | simp_all)) ?_
      refine WPl.v rfl (o_move rfl) ?_
      refine WPl.bit 6 7 (!(((decide (f.cheapC < f.knownC)) || ((decide ((f.testsTo i) = 0)) && (decide (f.knownC ≠ f.cheapC)))) || (!(knownB f.wWorthE)))) rfl rfl ?_
      refine WPl.gv 6 rfl rfl (.plain rfl (by first | (simp; done) | simp only [Bool.not_eq_true']) rfl) (fun hb => o_move rfl) ?_
      refine WPl.gv 6 rfl rfl (.plain rfl (by first | (simp; done) | simp only [Bool.not_eq_true']) rfl) (fun hb => o_eql rfl rfl) ?_
      refine WPl.gv 6 rfl rfl (.plain rfl (by first | (simp; done) | simp only [Bool.not_eq_true']) rfl) (fun hb => o_move rfl) ?_
      refine WPl.gv 6 rfl rfl (.plain rfl (by first | (simp; done) | simp only [Bool.not_eq_true']) rfl) (fun hb => o_lss rfl rfl) ?_
      refine WPl.gv 6 rfl rfl (.plain rfl (by first | (simp; done) | simp only [Bool.not_eq_true']) rfl) (fun hb => o_neb Try.underlying4 rfl rfl) ?_
      refine WPl.v rfl (o_or rfl rfl rfl (by first | (simp; done) | exact fun h => by rw [h]; rfl | exact fun h => Bool.and_eq_true_iff.2 ⟨hb, by rw [h]; rfl⟩ | simp_all)) ?_
      refine WPl.v rfl (o_move rfl) ?_
      refine WPl.bit 7 8 (!((((decide (f.cheapC < f.knownC)) || ((decide ((f.testsTo i) = 0)) && (decide (f.knownC ≠ f.cheapC)))) || (!(knownB f.wWorthE))) || ((decide (f.wWorthE = 0)) != (decide (f.cheapC < 1000000))))) rfl rfl ?_
      refine WPl.gv 7 rfl rfl (.plain rfl (by first | (simp; done) | simp only [Bool.not_eq_true']) rfl) (fun hb => o_move rfl) ?_
      refine WPl.gv 7 rfl rfl (.plain rfl (by first | (simp; done) | simp only [Bool.not_eq_true']) rfl) (fun hb => o_eql rfl rfl) ?_
      refine WPl.gv 7 rfl rfl (.plain rfl (by first | (simp; done) | simp only [Bool.not_eq_true']) rfl) (fun hb => o_move rfl) ?_
      refine WPl.bit 8 9 ((!((((decide (f.cheapC < f.knownC)) || ((decide ((f.testsTo i) = 0)) && (decide (f.knownC ≠ f.cheapC)))) || (!(knownB f.wWorthE))) || ((decide (f.wWorthE = 0)) != (decide (f.cheapC < 1000000))))) && (decide (f.wWorthE = 0))) rfl rfl ?_
      refine WPl.gv 8 rfl rfl (.nest rfl rfl (by first | (simp; done) | simp only [Bool.and_eq_true, Bool.not_eq_true']) rfl) (fun hb => o_move rfl) ?_
      refine WPl.gv 8 rfl rfl (.nest rfl rfl (by first | (simp; done) | simp only [Bool.and_eq_true, Bool.not_eq_true']) rfl) (fun hb => o_move rfl) ?_
      refine WPl.gv 8 rfl rfl (.nest rfl rfl (by first | (simp; done) | simp only [Bool.and_eq_true, Bool.not_eq_true']) rfl) (fun hb => o_move rfl) ?_
      refine WPl.gv 8 rfl rfl (.nest rfl rfl (by first | (simp; done) | simp only [Bool.and_eq_true, Bool.not_eq_true']) rfl) (fun hb => o_sub rfl rfl (by first | omega | (simp; omega)) (by first | omega | (simp; omega))) ?_
      refine WPl.gv 8 rfl rfl (.nest rfl rfl (by first | (simp; done) | simp only [Bool.and_eq_true, Bool.not_eq_true']) rfl) (fun hb => o_neq rfl rfl) ?_
      refine WPl.gv 7 rfl rfl (.plain rfl (by first | (simp; done) | simp only [Bool.not_eq_true']) rfl) (fun hb => o_and rfl rfl rfl (by first | (simp; done) | exact fun h => Bool.and_eq_true_iff.2 ⟨hb, h⟩ | simp_all)) ?_
      refine WPl.v rfl (o_or rfl rfl rfl (by first | (simp; done) | exact fun h => by rw [h]; rfl | exact fun h => Bool.and_eq_true_iff.2 ⟨hb, by rw [h]; rfl⟩ | simp_all)) ?_
      refine WPl.v rfl (o_move rfl) ?_
      refine WPl.bit 9 10 (!(((((decide (f.cheapC < f.knownC)) || ((decide ((f.testsTo i) = 0)) && (decide (f.knownC ≠ f.cheapC)))) || (!(knownB f.wWorthE))) || ((decide (f.wWorthE = 0)) != (decide (f.cheapC < 1000000)))) || ((decide (f.wWorthE = 0)) && (decide (f.wWorthV ≠ (f.cheapC - f.knownC)))))) rfl rfl ?_
      refine WPl.gv 9 rfl rfl (.plain rfl (by first | (simp; done) | simp only [Bool.not_eq_true']) rfl) (fun hb => o_move rfl) ?_
      refine WPl.gc0 9 rfl rfl (.plain rfl (by first | (simp; done) | simp only [Bool.not_eq_true']) rfl) (fun hb => o_sig 10 id (c50 f.wAskE) e50 rfl rfl rfl w50 trivial r50) ?_
      refine WPl.gv 9 rfl rfl (.plain rfl (by first | (simp; done) | simp only [Bool.not_eq_true']) rfl) (fun hb => o_not rfl) ?_
      refine WPl.v rfl (o_or rfl rfl rfl (by first | (simp; done) | exact fun h => by rw [h]; rfl | exact fun h => Bool.and_eq_true_iff.2 ⟨hb, by rw [h]; rfl⟩ | simp_all)) ?_
      refine WPl.v rfl (o_move rfl) ?_
      refine WPl.bit 10 11 (!((((((decide (f.cheapC < f.knownC)) || ((decide ((f.testsTo i) = 0)) && (decide (f.knownC ≠ f.cheapC)))) || (!(knownB f.wWorthE))) || ((decide (f.wWorthE = 0)) != (decide (f.cheapC < 1000000)))) || ((decide (f.wWorthE = 0)) && (decide (f.wWorthV ≠ (f.cheapC - f.knownC))))) || (!(knownB f.wAskE)))) rfl rfl ?_
      refine WPl.gv 10 rfl rfl (.plain rfl (by first | (simp; done) | simp only [Bool.not_eq_true']) rfl) (fun hb => o_move rfl) ?_
      refine WPl.gv 10 rfl rfl (.plain rfl (by first | (simp; done) | simp only [Bool.not_eq_true']) rfl) (fun hb => o_eql rfl rfl) ?_
      refine WPl.gv 10 rfl rfl (.plain rfl (by first | (simp; done) | simp only [Bool.not_eq_true']) rfl) (fun hb => o_move rfl) ?_
      refine WPl.bit 11 12 ((!((((((decide (f.cheapC < f.knownC)) || ((decide ((f.testsTo i) = 0)) && (decide (f.knownC ≠ f.cheapC)))) || (!(knownB f.wWorthE))) || ((decide (f.wWorthE = 0)) != (decide (f.cheapC < 1000000)))) || ((decide (f.wWorthE = 0)) && (decide (f.wWorthV ≠ (f.cheapC - f.knownC))))) || (!(knownB f.wAskE)))) && (decide (f.wAskE = 0))) rfl rfl ?_
      refine WPl.gv 11 rfl rfl (.nest rfl rfl (by first | (simp; done) | simp only [Bool.and_eq_true, Bool.not_eq_true']) rfl) (fun hb => o_ldpa G31 rfl rfl rfl) ?_
      refine WPl.gv 11 rfl rfl (.nest rfl rfl (by first | (simp; done) | simp only [Bool.and_eq_true, Bool.not_eq_true']) rfl) (fun hb => o_move rfl) ?_
      refine WPl.gc0 11 rfl rfl (.nest rfl rfl (by first | (simp; done) | simp only [Bool.and_eq_true, Bool.not_eq_true']) rfl) (fun hb => o_sig 12 (ren [(0, 0), (1, 1)]) (c54 f f.wAskV (by omega)) e54 rfl rfl rfl w54 ⟨(lx rfl), (lx rfl), trivial⟩ r54) ?_
      refine WPl.gv 11 rfl rfl (.nest rfl rfl (by first | (simp; done) | simp only [Bool.and_eq_true, Bool.not_eq_true']) rfl) (fun hb => o_not rfl) ?_
      refine WPl.gv 11 rfl rfl (.nest rfl rfl (by first | (simp; done) | simp only [Bool.and_eq_true, Bool.not_eq_true']) rfl) (fun hb => o_move rfl) ?_
      refine WPl.bit 12 13 (((!((((((decide (f.cheapC < f.knownC)) || ((decide ((f.testsTo i) = 0)) && (decide (f.knownC ≠ f.cheapC)))) || (!(knownB f.wWorthE))) || ((decide (f.wWorthE = 0)) != (decide (f.cheapC < 1000000)))) || ((decide (f.wWorthE = 0)) && (decide (f.wWorthV ≠ (f.cheapC - f.knownC))))) || (!(knownB f.wAskE)))) && (decide (f.wAskE = 0))) && !(!(within f.wAskV 0 ((f.nights.length : Int) - 1)))) rfl rfl ?_
      refine WPl.gv 12 rfl rfl (.nest rfl rfl (by first | (simp; done) | simp only [Bool.and_eq_true, Bool.not_eq_true']) rfl) (fun hb => o_fldp F31_1 rfl) ?_
      refine WPl.gv 12 rfl rfl (.nest rfl rfl (by first | (simp; done) | simp only [Bool.and_eq_true, Bool.not_eq_true']) rfl) (fun hb => o_ldp S29 rfl rfl rfl) ?_
      refine WPl.gv 12 rfl rfl (.nest rfl rfl (by first | (simp; done) | simp only [Bool.and_eq_true, Bool.not_eq_true']) rfl) (fun hb => o_move rfl) ?_
      refine WPl.gx 12 13 14 rfl rfl rfl rfl (.nest rfl rfl (by first | (simp; done) | simp only [Bool.and_eq_true, Bool.not_eq_true']) rfl) (fun hb => o_idx L29 rfl (lx rfl) rfl (by simp [within] at hb; omega) (by simp [within] at hb; omega)) ?_
      refine WPl.gv 12 rfl rfl (.nest rfl rfl (by first | (simp; done) | simp only [Bool.and_eq_true, Bool.not_eq_true']) rfl) (fun hb => o_fldq F75_1 rfl (lxi hb rfl)) ?_
      refine WPl.gv 12 rfl rfl (.nest rfl rfl (by first | (simp; done) | simp only [Bool.and_eq_true, Bool.not_eq_true']) rfl) (fun hb => o_lde S3 rfl (lxi hb rfl) (strI rfl)) ?_
      refine WPl.gv 12 rfl rfl (.nest rfl rfl (by first | (simp; done) | simp only [Bool.and_eq_true, Bool.not_eq_true']) rfl) (fun hb => o_eql rfl rfl) ?_
      refine WPl.gv 11 rfl rfl (.nest rfl rfl (by first | (simp; done) | simp only [Bool.and_eq_true, Bool.not_eq_true']) rfl) (fun hb => o_or rfl rfl rfl (by first | (simp; done) | exact fun h => by rw [h]; rfl | exact fun h => Bool.and_eq_true_iff.2 ⟨hb, by rw [h]; rfl⟩ | simp_all)) ?_
      refine WPl.gv 10 rfl rfl (.plain rfl (by first | (simp; done) | simp only [Bool.not_eq_true']) rfl) (fun hb => o_and rfl rfl rfl (by first | (simp; done) | exact fun h => Bool.and_eq_true_iff.2 ⟨hb, h⟩ | simp_all)) ?_
      refine WPl.v rfl (o_or rfl rfl rfl (by first | (simp; done) | exact fun h => by rw [h]; rfl | exact fun h => Bool.and_eq_true_iff.2 ⟨hb, by rw [h]; rfl⟩ | simp_all)) ?_
      refine WPl.nil ?_
      refine EX.then ?_
      refine WP.cond rfl (fun hc3 => ?_) (fun hc3 => ?_)
      · try simp only [decide_eq_true_eq, decide_eq_false_iff_not, Bool.and_eq_true, Bool.or_eq_true, Bool.and_eq_false_iff, Bool.or_eq_false_iff, Bool.not_eq_true', Bool.not_eq_false', ne_eq, Decidable.not_not] at hc3
        rw [knownB_of law.w1, knownB_of law.q1, hti0] at hc3
        have h1 := law.a
        have h2 := law.b
        have h3 := law.w2
        have h4 := law.w3
        have h5 := law.q2
        simp [within] at hc3
        grind
      · try simp only [decide_eq_true_eq, decide_eq_false_iff_not, Bool.and_eq_true, Bool.or_eq_true, Bool.and_eq_false_iff, Bool.or_eq_false_iff, Bool.not_eq_true', Bool.not_eq_false', ne_eq, Decidable.not_not] at hc3
        refine WP.skip ?_
        refine EX.then ?_
        refine WP.seq ?_
        refine WP.region ?_
        refine WPl.v rfl (o_assign rfl) ?_
        refine WPl.nil ?_
        refine EX.then ?_
        refine WP.seq ?_
        refine WP.seq ?_
        refine WP.region ?_
        refine WPl.v rfl (o_move rfl) ?_
        refine WPl.v rfl (o_eql rfl rfl) ?_
        refine WPl.nil ?_
        refine EX.then ?_
        refine WP.cond rfl (fun hc4 => ?_) (fun hc4 => ?_)
        · try simp only [decide_eq_true_eq, decide_eq_false_iff_not, Bool.and_eq_true, Bool.or_eq_true, Bool.and_eq_false_iff, Bool.or_eq_false_iff, Bool.not_eq_true', Bool.not_eq_false', ne_eq, Decidable.not_not] at hc4
          have hq2 := law.q2 hc4
          have hq3 := law.q3 hc4
          have htc := tested_chk hf (show f.wAskV.toNat < f.nights.length by omega)
          rw [show ((f.wAskV.toNat : Nat) : Int) = f.wAskV by omega] at htc
          have hbc : f.bestC = (f.tested f.wAskV).knownC := if_pos hc4
          refine WP.seq ?_
          refine WP.region ?_
          refine WPl.v rfl (o_ldpa G31 rfl rfl rfl) ?_
          refine WPl.v rfl (o_move rfl) ?_
          refine WPl.cs 16 rfl rfl rfl rfl (o_sig 14 (ren [(0, 0), (1, 1)]) (c64 f f.wAskV hf (by omega)) e64 rfl rfl rfl w64 ⟨(lx rfl), (lx rfl), trivial⟩ r64) ?_
          refine WPl.cs 16 rfl rfl rfl rfl (o_sig 16 (ren [(0, 14), (1, 15)]) (c57 (f.tested f.wAskV) (by show f.shop.pigs.length ≤ 40; omega)) e57 rfl rfl rfl w57 ⟨(lx rfl), (lx rfl), trivial⟩ r57) ?_
          refine WPl.v rfl (o_extract rfl rfl) ?_
          refine WPl.v rfl (o_extract rfl rfl) ?_
          refine WPl.cs 16 rfl rfl rfl rfl (o_sig 16 id (c63 ((f.tested f.wAskV).wKnownV) ((f.tested f.wAskV).wKnownE)) e63 rfl rfl rfl w63 trivial r63) ?_
          refine WPl.v rfl (o_move rfl) ?_
          refine WPl.v rfl (o_extract rfl rfl) ?_
          refine WPl.v rfl (o_extract rfl rfl) ?_
          refine WPl.imp (Imp.bitF 130 (b' := true) rfl hq3.1.c) ?_
          refine WPl.v rfl (o_assign rfl) ?_
          refine WPl.v rfl (o_assign rfl) ?_
          refine WPl.nil ?_
          refine EX.then ?_
          refine WP.seq ?_
          refine WP.seq ?_
          refine WP.region ?_
          refine WPl.v rfl (o_move rfl) ?_
          refine WPl.v rfl (o_not rfl) ?_
          refine WPl.v rfl (o_move rfl) ?_
          refine WPl.on rfl ⟨_, _, rfl, rfl, rfl⟩ (o_move rfl) ?_
          refine WPl.on rfl ⟨_, _, rfl, rfl, rfl⟩ (o_eql rfl rfl) ?_
          refine WPl.v rfl (o_pickF rfl rfl) ?_
          refine WPl.v rfl (o_move rfl) ?_
          refine WPl.bit 16 17 (!(decide ((costN ((f.tested f.wAskV).wKnownV) ((f.tested f.wAskV).wKnownE)) = 1000000))) rfl rfl ?_
          refine WPl.gv 16 rfl rfl (.plain rfl (by first | (simp; done) | simp only [Bool.not_eq_true']) rfl) (fun hb => o_move rfl) ?_
          refine WPl.gv 16 rfl rfl (.plain rfl (by first | (simp; done) | simp only [Bool.not_eq_true']) rfl) (fun hb => o_move rfl) ?_
          refine WPl.gv 16 rfl rfl (.plain rfl (by first | (simp; done) | simp only [Bool.not_eq_true']) rfl) (fun hb => o_gtr rfl rfl) ?_
          refine WPl.v rfl (o_or rfl rfl rfl (by first | (simp; done) | exact fun h => by rw [h]; rfl | exact fun h => Bool.and_eq_true_iff.2 ⟨hb, by rw [h]; rfl⟩ | simp_all)) ?_
          refine WPl.nil ?_
          refine EX.then ?_
          refine WP.cond rfl (fun hc5 => ?_) (fun hc5 => ?_)
          · try simp only [decide_eq_true_eq, decide_eq_false_iff_not, Bool.and_eq_true, Bool.or_eq_true, Bool.and_eq_false_iff, Bool.or_eq_false_iff, Bool.not_eq_true', Bool.not_eq_false', ne_eq, Decidable.not_not] at hc5
            have h1 := hq3.2.1
            have h2 := hq3.2.2
            rw [show (f.tested f.wAskV).knownC = costN (f.tested f.wAskV).wKnownV (f.tested f.wAskV).wKnownE from rfl] at h1 h2
            omega
          · try simp only [decide_eq_true_eq, decide_eq_false_iff_not, Bool.and_eq_true, Bool.or_eq_true, Bool.and_eq_false_iff, Bool.or_eq_false_iff, Bool.not_eq_true', Bool.not_eq_false', ne_eq, Decidable.not_not] at hc5
            refine WP.skip ?_
            refine EX.then ?_
            refine WP.region ?_
            refine WPl.v rfl (o_move rfl) ?_
            refine WPl.v rfl (o_assign rfl) ?_
            refine WPl.nil ?_
            refine EX.then ?_
            refine WP.seq ?_
            refine WP.seq ?_
            refine WP.region ?_
            refine WPl.v rfl (o_ldpa G31 rfl rfl rfl) ?_
            refine WPl.v rfl (o_move rfl) ?_
            refine WPl.cs 17 rfl rfl rfl rfl (o_sig 17 (ren [(0, 0), (1, 1)]) (c54 f night (by omega)) e54 rfl rfl rfl w54 ⟨(lx rfl), (lx rfl), trivial⟩ r54) ?_
            refine WPl.v rfl (o_not rfl) ?_
            refine WPl.v rfl (o_move rfl) ?_
            refine WPl.bit 17 18 (!(!(within night 0 ((f.nights.length : Int) - 1)))) rfl rfl ?_
            refine WPl.gv 17 rfl rfl (.plain rfl (by first | (simp; done) | simp only [Bool.not_eq_true']) rfl) (fun hb => o_fldp F31_1 rfl) ?_
            refine WPl.gv 17 rfl rfl (.plain rfl (by first | (simp; done) | simp only [Bool.not_eq_true']) rfl) (fun hb => o_ldp S29 rfl rfl rfl) ?_
            refine WPl.gv 17 rfl rfl (.plain rfl (by first | (simp; done) | simp only [Bool.not_eq_true']) rfl) (fun hb => o_move rfl) ?_
            refine WPl.gx 17 18 19 rfl rfl rfl rfl (.plain rfl (by first | (simp; done) | simp only [Bool.not_eq_true']) rfl) (fun hb => o_idx L29 rfl (lx rfl) rfl (by simp [within] at hb; omega) (by simp [within] at hb; omega)) ?_
            refine WPl.gv 17 rfl rfl (.plain rfl (by first | (simp; done) | simp only [Bool.not_eq_true']) rfl) (fun hb => o_fldq F75_1 rfl (lxi hb rfl)) ?_
            refine WPl.gv 17 rfl rfl (.plain rfl (by first | (simp; done) | simp only [Bool.not_eq_true']) rfl) (fun hb => o_lde S3 rfl (lxi hb rfl) (strI rfl)) ?_
            refine WPl.gv 17 rfl rfl (.plain rfl (by first | (simp; done) | simp only [Bool.not_eq_true']) rfl) (fun hb => o_eql rfl rfl) ?_
            refine WPl.v rfl (o_or rfl rfl rfl (by first | (simp; done) | exact fun h => by rw [h]; rfl | exact fun h => Bool.and_eq_true_iff.2 ⟨hb, by rw [h]; rfl⟩ | simp_all)) ?_
            refine WPl.nil ?_
            refine EX.then ?_
            refine WP.cond rfl (fun hc6 => ?_) (fun hc6 => ?_)
            · try simp only [decide_eq_true_eq, decide_eq_false_iff_not, Bool.and_eq_true, Bool.or_eq_true, Bool.and_eq_false_iff, Bool.or_eq_false_iff, Bool.not_eq_true', Bool.not_eq_false', ne_eq, Decidable.not_not] at hc6
              refine WP.seq ?_
              refine WP.region ?_
              refine WPl.cs 19 rfl rfl rfl rfl (o_sig 19 id c16 e16 rfl rfl rfl w16 trivial r16) ?_
              refine WPl.v rfl (o_assign rfl) ?_
              refine WPl.nil ?_
              refine EX.then ?_
              refine WP.ret ?_
              refine EX.ret_then ?_
              exact EX.fin id (.inl rfl) rfl (.tmp rfl .nil) rfl r11 trivial (by simp) (by simp)
            · try simp only [decide_eq_true_eq, decide_eq_false_iff_not, Bool.and_eq_true, Bool.or_eq_true, Bool.and_eq_false_iff, Bool.or_eq_false_iff, Bool.not_eq_true', Bool.not_eq_false', ne_eq, Decidable.not_not] at hc6
              have hw := hc6
              simp only [within, Bool.and_eq_true, decide_eq_true_eq] at hw
              have hnl := law.n (by omega) (by omega) hw.2
              have htd := tested_chk hf (show night.toNat < f.nights.length by omega)
              rw [show ((night.toNat : Nat) : Int) = night by omega] at htd
              refine WP.skip ?_
              refine EX.then ?_
              refine WP.seq ?_
              refine WP.region ?_
              refine WPl.v rfl (o_ldpa G31 rfl rfl rfl) ?_
              refine WPl.v rfl (o_move rfl) ?_
              refine WPl.cs 21 rfl rfl rfl rfl (o_sig 19 (ren [(0, 0), (1, 1)]) (c64 f night hf (by omega)) e64 rfl rfl rfl w64 ⟨(lx rfl), (lx rfl), trivial⟩ r64) ?_
              refine WPl.cs 21 rfl rfl rfl rfl (o_sig 21 (ren [(0, 19), (1, 20)]) (c57 (f.tested night) (by show f.shop.pigs.length ≤ 40; omega)) e57 rfl rfl rfl w57 ⟨(lx rfl), (lx rfl), trivial⟩ r57) ?_
              refine WPl.v rfl (o_extract rfl rfl) ?_
              refine WPl.v rfl (o_extract rfl rfl) ?_
              refine WPl.cs 21 rfl rfl rfl rfl (o_sig 21 id (c63 ((f.tested night).wKnownV) ((f.tested night).wKnownE)) e63 rfl rfl rfl w63 trivial r63) ?_
              refine WPl.v rfl (o_move rfl) ?_
              refine WPl.v rfl (o_extract rfl rfl) ?_
              refine WPl.v rfl (o_extract rfl rfl) ?_
              refine WPl.imp (Imp.bitF 166 (b' := true) rfl hnl.1.c) ?_
              refine WPl.v rfl (o_assign rfl) ?_
              refine WPl.v rfl (o_assign rfl) ?_
              refine WPl.nil ?_
              refine EX.then ?_
              refine WP.seq ?_
              refine WP.region ?_
              refine WPl.v rfl (o_move rfl) ?_
              refine WPl.v rfl (o_move rfl) ?_
              refine WPl.on rfl ⟨_, _, rfl, rfl, rfl⟩ (o_move rfl) ?_
              refine WPl.on rfl ⟨_, _, rfl, rfl, rfl⟩ (o_move rfl) ?_
              refine WPl.on rfl ⟨_, _, rfl, rfl, rfl⟩ (o_leq rfl rfl) ?_
              refine WPl.v rfl (o_pickT rfl rfl) ?_
              refine WPl.imp (Imp.bitF 172 (b' := true) rfl (decide_eq_true hnl.2.1)) ?_
              refine WPl.v rfl (o_move rfl) ?_
              refine WPl.on rfl ⟨_, _, rfl, rfl, rfl⟩ (o_move rfl) ?_
              refine WPl.on rfl ⟨_, _, rfl, rfl, rfl⟩ (o_move rfl) ?_
              refine WPl.on rfl ⟨_, _, rfl, rfl, rfl⟩ (o_geq rfl rfl) ?_
              refine WPl.v rfl (o_pickT rfl rfl) ?_
              refine WPl.imp (Imp.bitF 177 (b' := true) rfl (by have h := hnl.2.2.1; rw [hbc] at h; exact decide_eq_true h)) ?_
              refine WPl.v rfl (o_move rfl) ?_
              refine WPl.on rfl ⟨_, _, rfl, rfl, rfl⟩ (o_move rfl) ?_
              refine WPl.on rfl ⟨_, _, rfl, rfl, rfl⟩ (o_move rfl) ?_
              refine WPl.on rfl ⟨_, _, rfl, rfl, rfl⟩ (o_gtr rfl rfl) ?_
              refine WPl.on rfl ⟨_, _, rfl, rfl, rfl⟩ (o_move rfl) ?_
              refine WPl.bit 21 22 (!(decide ((costN ((f.tested f.wAskV).wKnownV) ((f.tested f.wAskV).wKnownE)) < (costN ((f.tested night).wKnownV) ((f.tested night).wKnownE))))) rfl rfl ?_
              refine WPl.gv 21 rfl rfl (.plain rfl (by first | (simp; done) | simp only [Bool.not_eq_true']) rfl) (fun hb => o_move rfl) ?_
              refine WPl.gv 21 rfl rfl (.plain rfl (by first | (simp; done) | simp only [Bool.not_eq_true']) rfl) (fun hb => o_eql rfl rfl) ?_
              refine WPl.on rfl ⟨_, _, rfl, rfl, rfl⟩ (o_or rfl rfl rfl (by first | (simp; done) | exact fun h => by rw [h]; rfl | exact fun h => Bool.and_eq_true_iff.2 ⟨hb, by rw [h]; rfl⟩ | simp_all)) ?_
              refine WPl.on rfl ⟨_, _, rfl, rfl, rfl⟩ (o_move rfl) ?_
              refine WPl.bit 22 23 (!((decide ((costN ((f.tested f.wAskV).wKnownV) ((f.tested f.wAskV).wKnownE)) < (costN ((f.tested night).wKnownV) ((f.tested night).wKnownE)))) || (decide ((costN ((f.tested night).wKnownV) ((f.tested night).wKnownE)) = 1000000)))) rfl rfl ?_
              refine WPl.gv 22 rfl rfl (.plain rfl (by first | (simp; done) | simp only [Bool.not_eq_true']) rfl) (fun hb => o_move rfl) ?_
              refine WPl.gv 22 rfl rfl (.plain rfl (by first | (simp; done) | simp only [Bool.not_eq_true']) rfl) (fun hb => o_move rfl) ?_
              refine WPl.gv 22 rfl rfl (.plain rfl (by first | (simp; done) | simp only [Bool.not_eq_true']) rfl) (fun hb => o_geq rfl rfl) ?_
              refine WPl.on rfl ⟨_, _, rfl, rfl, rfl⟩ (o_or rfl rfl rfl (by first | (simp; done) | exact fun h => by rw [h]; rfl | exact fun h => Bool.and_eq_true_iff.2 ⟨hb, by rw [h]; rfl⟩ | simp_all)) ?_
              refine WPl.v rfl (o_pickT rfl rfl) ?_
              refine WPl.imp (Imp.bitF 191 (b' := true) rfl (by have h := hnl.2.2.2; rw [hbc] at h; unfold Fnd.knownC at h; simp; omega)) ?_
              refine WPl.v rfl (o_move rfl) ?_
              refine WPl.cL 24 rfl rfl rfl rfl ⟨_, _, rfl, rfl, rfl⟩ (o_sig 23 id c16 e16 rfl rfl rfl w16 trivial r16) ?_
              refine WPl.v rfl (o_pickT rfl rfl) ?_
              refine WPl.v rfl (o_assign rfl) ?_
              refine WPl.nil ?_
              refine EX.then ?_
              refine WP.ret ?_
              exact EX.fin id (.inl rfl) rfl (.tmp rfl .nil) rfl r11 trivial (by simp) (by simp)
        · try simp only [decide_eq_true_eq, decide_eq_false_iff_not, Bool.and_eq_true, Bool.or_eq_true, Bool.and_eq_false_iff, Bool.or_eq_false_iff, Bool.not_eq_true', Bool.not_eq_false', ne_eq, Decidable.not_not] at hc4
          have hbc : f.bestC = 1000000 := if_neg hc4
          refine WP.skip ?_
          refine EX.then ?_
          refine WP.seq ?_
          refine WP.seq ?_
          refine WP.region ?_
          refine WPl.v rfl (o_ldpa G31 rfl rfl rfl) ?_
          refine WPl.v rfl (o_move rfl) ?_
          refine WPl.cs 14 rfl rfl rfl rfl (o_sig 14 (ren [(0, 0), (1, 1)]) (c54 f night (by omega)) e54 rfl rfl rfl w54 ⟨(lx rfl), (lx rfl), trivial⟩ r54) ?_
          refine WPl.v rfl (o_not rfl) ?_
          refine WPl.v rfl (o_move rfl) ?_
          refine WPl.bit 14 15 (!(!(within night 0 ((f.nights.length : Int) - 1)))) rfl rfl ?_
          refine WPl.gv 14 rfl rfl (.plain rfl (by first | (simp; done) | simp only [Bool.not_eq_true']) rfl) (fun hb => o_fldp F31_1 rfl) ?_
          refine WPl.gv 14 rfl rfl (.plain rfl (by first | (simp; done) | simp only [Bool.not_eq_true']) rfl) (fun hb => o_ldp S29 rfl rfl rfl) ?_
          refine WPl.gv 14 rfl rfl (.plain rfl (by first | (simp; done) | simp only [Bool.not_eq_true']) rfl) (fun hb => o_move rfl) ?_
          refine WPl.gx 14 15 16 rfl rfl rfl rfl (.plain rfl (by first | (simp; done) | simp only [Bool.not_eq_true']) rfl) (fun hb => o_idx L29 rfl (lx rfl) rfl (by simp [within] at hb; omega) (by simp [within] at hb; omega)) ?_
          refine WPl.gv 14 rfl rfl (.plain rfl (by first | (simp; done) | simp only [Bool.not_eq_true']) rfl) (fun hb => o_fldq F75_1 rfl (lxi hb rfl)) ?_
          refine WPl.gv 14 rfl rfl (.plain rfl (by first | (simp; done) | simp only [Bool.not_eq_true']) rfl) (fun hb => o_lde S3 rfl (lxi hb rfl) (strI rfl)) ?_
          refine WPl.gv 14 rfl rfl (.plain rfl (by first | (simp; done) | simp only [Bool.not_eq_true']) rfl) (fun hb => o_eql rfl rfl) ?_
          refine WPl.v rfl (o_or rfl rfl rfl (by first | (simp; done) | exact fun h => by rw [h]; rfl | exact fun h => Bool.and_eq_true_iff.2 ⟨hb, by rw [h]; rfl⟩ | simp_all)) ?_
          refine WPl.nil ?_
          refine EX.then ?_
          refine WP.cond rfl (fun hc7 => ?_) (fun hc7 => ?_)
          · try simp only [decide_eq_true_eq, decide_eq_false_iff_not, Bool.and_eq_true, Bool.or_eq_true, Bool.and_eq_false_iff, Bool.or_eq_false_iff, Bool.not_eq_true', Bool.not_eq_false', ne_eq, Decidable.not_not] at hc7
            refine WP.seq ?_
            refine WP.region ?_
            refine WPl.cs 16 rfl rfl rfl rfl (o_sig 16 id c16 e16 rfl rfl rfl w16 trivial r16) ?_
            refine WPl.v rfl (o_assign rfl) ?_
            refine WPl.nil ?_
            refine EX.then ?_
            refine WP.ret ?_
            refine EX.ret_then ?_
            exact EX.fin id (.inl rfl) rfl (.tmp rfl .nil) rfl r11 trivial (by simp) (by simp)
          · try simp only [decide_eq_true_eq, decide_eq_false_iff_not, Bool.and_eq_true, Bool.or_eq_true, Bool.and_eq_false_iff, Bool.or_eq_false_iff, Bool.not_eq_true', Bool.not_eq_false', ne_eq, Decidable.not_not] at hc7
            have hw := hc7
            simp only [within, Bool.and_eq_true, decide_eq_true_eq] at hw
            have hnl := law.n (by omega) (by omega) hw.2
            have htd := tested_chk hf (show night.toNat < f.nights.length by omega)
            rw [show ((night.toNat : Nat) : Int) = night by omega] at htd
            refine WP.skip ?_
            refine EX.then ?_
            refine WP.seq ?_
            refine WP.region ?_
            refine WPl.v rfl (o_ldpa G31 rfl rfl rfl) ?_
            refine WPl.v rfl (o_move rfl) ?_
            refine WPl.cs 18 rfl rfl rfl rfl (o_sig 16 (ren [(0, 0), (1, 1)]) (c64 f night hf (by omega)) e64 rfl rfl rfl w64 ⟨(lx rfl), (lx rfl), trivial⟩ r64) ?_
            refine WPl.cs 18 rfl rfl rfl rfl (o_sig 18 (ren [(0, 16), (1, 17)]) (c57 (f.tested night) (by show f.shop.pigs.length ≤ 40; omega)) e57 rfl rfl rfl w57 ⟨(lx rfl), (lx rfl), trivial⟩ r57) ?_
            refine WPl.v rfl (o_extract rfl rfl) ?_
            refine WPl.v rfl (o_extract rfl rfl) ?_
            refine WPl.cs 18 rfl rfl rfl rfl (o_sig 18 id (c63 ((f.tested night).wKnownV) ((f.tested night).wKnownE)) e63 rfl rfl rfl w63 trivial r63) ?_
            refine WPl.v rfl (o_move rfl) ?_
            refine WPl.v rfl (o_extract rfl rfl) ?_
            refine WPl.v rfl (o_extract rfl rfl) ?_
            refine WPl.imp (Imp.bitF 166 (b' := true) rfl hnl.1.c) ?_
            refine WPl.v rfl (o_assign rfl) ?_
            refine WPl.v rfl (o_assign rfl) ?_
            refine WPl.nil ?_
            refine EX.then ?_
            refine WP.seq ?_
            refine WP.region ?_
            refine WPl.v rfl (o_move rfl) ?_
            refine WPl.v rfl (o_move rfl) ?_
            refine WPl.on rfl ⟨_, _, rfl, rfl, rfl⟩ (o_move rfl) ?_
            refine WPl.on rfl ⟨_, _, rfl, rfl, rfl⟩ (o_move rfl) ?_
            refine WPl.on rfl ⟨_, _, rfl, rfl, rfl⟩ (o_leq rfl rfl) ?_
            refine WPl.v rfl (o_pickT rfl rfl) ?_
            refine WPl.imp (Imp.bitF 172 (b' := true) rfl (decide_eq_true hnl.2.1)) ?_
            refine WPl.v rfl (o_move rfl) ?_
            refine WPl.on rfl ⟨_, _, rfl, rfl, rfl⟩ (o_move rfl) ?_
            refine WPl.on rfl ⟨_, _, rfl, rfl, rfl⟩ (o_move rfl) ?_
            refine WPl.on rfl ⟨_, _, rfl, rfl, rfl⟩ (o_geq rfl rfl) ?_
            refine WPl.v rfl (o_pickT rfl rfl) ?_
            refine WPl.imp (Imp.bitF 177 (b' := true) rfl (by have h := hnl.2.2.1; rw [hbc] at h; exact decide_eq_true h)) ?_
            refine WPl.v rfl (o_move rfl) ?_
            refine WPl.on rfl ⟨_, _, rfl, rfl, rfl⟩ (o_move rfl) ?_
            refine WPl.on rfl ⟨_, _, rfl, rfl, rfl⟩ (o_move rfl) ?_
            refine WPl.on rfl ⟨_, _, rfl, rfl, rfl⟩ (o_gtr rfl rfl) ?_
            refine WPl.on rfl ⟨_, _, rfl, rfl, rfl⟩ (o_move rfl) ?_
            refine WPl.bit 18 19 (!(decide (1000000 < (costN ((f.tested night).wKnownV) ((f.tested night).wKnownE))))) rfl rfl ?_
            refine WPl.gv 18 rfl rfl (.plain rfl (by first | (simp; done) | simp only [Bool.not_eq_true']) rfl) (fun hb => o_move rfl) ?_
            refine WPl.gv 18 rfl rfl (.plain rfl (by first | (simp; done) | simp only [Bool.not_eq_true']) rfl) (fun hb => o_eql rfl rfl) ?_
            refine WPl.on rfl ⟨_, _, rfl, rfl, rfl⟩ (o_or rfl rfl rfl (by first | (simp; done) | exact fun h => by rw [h]; rfl | exact fun h => Bool.and_eq_true_iff.2 ⟨hb, by rw [h]; rfl⟩ | simp_all)) ?_
            refine WPl.on rfl ⟨_, _, rfl, rfl, rfl⟩ (o_move rfl) ?_
            refine WPl.bit 19 20 (!((decide (1000000 < (costN ((f.tested night).wKnownV) ((f.tested night).wKnownE)))) || (decide ((costN ((f.tested night).wKnownV) ((f.tested night).wKnownE)) = 1000000)))) rfl rfl ?_
            refine WPl.gv 19 rfl rfl (.plain rfl (by first | (simp; done) | simp only [Bool.not_eq_true']) rfl) (fun hb => o_move rfl) ?_
            refine WPl.gv 19 rfl rfl (.plain rfl (by first | (simp; done) | simp only [Bool.not_eq_true']) rfl) (fun hb => o_move rfl) ?_
            refine WPl.gv 19 rfl rfl (.plain rfl (by first | (simp; done) | simp only [Bool.not_eq_true']) rfl) (fun hb => o_geq rfl rfl) ?_
            refine WPl.on rfl ⟨_, _, rfl, rfl, rfl⟩ (o_or rfl rfl rfl (by first | (simp; done) | exact fun h => by rw [h]; rfl | exact fun h => Bool.and_eq_true_iff.2 ⟨hb, by rw [h]; rfl⟩ | simp_all)) ?_
            refine WPl.v rfl (o_pickT rfl rfl) ?_
            refine WPl.imp (Imp.bitF 191 (b' := true) rfl (by have h := hnl.2.2.2; rw [hbc] at h; unfold Fnd.knownC at h; simp; omega)) ?_
            refine WPl.v rfl (o_move rfl) ?_
            refine WPl.cL 21 rfl rfl rfl rfl ⟨_, _, rfl, rfl, rfl⟩ (o_sig 20 id c16 e16 rfl rfl rfl w16 trivial r16) ?_
            refine WPl.v rfl (o_pickT rfl rfl) ?_
            refine WPl.v rfl (o_assign rfl) ?_
            refine WPl.nil ?_
            refine EX.then ?_
            refine WP.ret ?_
            exact EX.fin id (.inl rfl) rfl (.tmp rfl .nil) rfl r11 trivial (by simp) (by simp)
end Go.Flong
