/- Walks (printed by gen.py off the specs). -/
import Derived.Test.YtglbnodjcngefaaCL1
import Derived.Test.YtglbnodjcngefaaBase9
import Derived.Test.YtglbnodjcngefaaProg
set_option linter.unusedSimpArgs false
set_option linter.unusedVariables false
namespace Go.Flong
open Go Go.Eng Go.Proofs
theorem e14 : Enters' Try.prog 14 := Try.call14
theorem e16 : Enters' Try.prog 16 := Try.call16
theorem e59 : Enters' Try.prog 59 := Try.call59
theorem e60 : Enters' Try.prog 60 := Try.call60
theorem e61 : Enters' Try.prog 61 := Try.call61
theorem e62 : Enters' Try.prog 62 := Try.call62
theorem e30 : Enters' Try.prog 30 := Try.call30
theorem w10 {f : Fnd} : ∀ x ∈ ([.e (.g [ai (f.shop.pounds), ai (f.shop.tl), ai (f.shop.th), ai (f.shop.al), ai (f.shop.ah), ai (f.shop.room), ai (f.shop.tpl), ai (f.shop.tph), ai (f.shop.apl), ai (f.shop.aph), .q 0, .q 1])] : List SV), x.res (keys (α := Pred) [(0, PL EPig (f.shop.pigs)), (1, PL ENight (f.nights))]) := by simp [SV.res, El.res, At.res, keys]
theorem r10  : SV.res (keys (α := Pred) []) (.b (true)) := by simp [SV.res, El.res, At.res, keys]
set_option maxHeartbeats 4000000 in
theorem c10 (f : Fnd) (hlaw : f.huge = false → KnownLaw f) : Sig Try.prog 10 [.e (.g [ai (f.shop.pounds), ai (f.shop.tl), ai (f.shop.th), ai (f.shop.al), ai (f.shop.ah), ai (f.shop.room), ai (f.shop.tpl), ai (f.shop.tph), ai (f.shop.apl), ai (f.shop.aph), .q 0, .q 1])] [(0, PL EPig (f.shop.pigs)), (1, PL ENight (f.nights))] (.b (true)) [] := by
  refine Sig.intro Try.func10 rfl 2 [(0, .e (.g [ai (f.shop.pounds), ai (f.shop.tl), ai (f.shop.th), ai (f.shop.al), ai (f.shop.ah), ai (f.shop.room), ai (f.shop.tpl), ai (f.shop.tph), ai (f.shop.apl), ai (f.shop.aph), .q 0, .q 1]))] rfl w10 rfl rfl fun I w => ?_
  refine WP.seq ?_
  refine WP.region ?_
  refine WPl.l 2 3 rfl rfl rfl (o_boxg rfl) ?_
  refine WPl.v rfl (o_assign rfl) ?_
  refine WPl.nil ?_
  refine EX.then ?_
  refine WP.seq ?_
  refine WP.seq ?_
  refine WP.region ?_
  refine WPl.v rfl (o_ldpa G31 rfl rfl rfl) ?_
  refine WPl.cs 3 rfl rfl rfl rfl (o_sig 3 (ren [(0, 0), (1, 1)]) (c14 f) e14 rfl rfl rfl w14 ⟨(lx rfl), (lx rfl), trivial⟩ r14) ?_
  refine WPl.nil ?_
  refine EX.then ?_
  refine WP.cond rfl (fun hc1 => ?_) (fun hc1 => ?_)
  · try simp only [decide_eq_true_eq, decide_eq_false_iff_not, Bool.and_eq_true, Bool.or_eq_true, Bool.and_eq_false_iff, Bool.or_eq_false_iff, Bool.not_eq_true', Bool.not_eq_false', ne_eq, Decidable.not_not] at hc1
    refine WP.seq ?_
    refine WP.region ?_
    refine WPl.cs 3 rfl rfl rfl rfl (o_sig 3 id c16 e16 rfl rfl rfl w16 trivial r16) ?_
    refine WPl.v rfl (o_assign rfl) ?_
    refine WPl.nil ?_
    refine EX.then ?_
    refine WP.ret ?_
    refine EX.ret_then ?_
    exact EX.fin id (.inl rfl) rfl (.tmp rfl .nil) rfl r10 trivial (by simp) (by simp)
  · try simp only [decide_eq_true_eq, decide_eq_false_iff_not, Bool.and_eq_true, Bool.or_eq_true, Bool.and_eq_false_iff, Bool.or_eq_false_iff, Bool.not_eq_true', Bool.not_eq_false', ne_eq, Decidable.not_not] at hc1
    have hfar : f.far = false := hc1
    have hh := far_huge hfar
    have hlen := huge_len hh
    have law := hlaw hh
    refine WP.skip ?_
    refine EX.then ?_
    refine WP.seq ?_
    refine WP.region ?_
    refine WPl.v rfl (o_ldpa G31 rfl rfl rfl) ?_
    refine WPl.cs 5 rfl rfl rfl rfl (o_sig 3 (ren [(0, 0), (1, 1)]) (c17 f hlen.1 hlen.2) e17 rfl rfl rfl w17 ⟨(lx rfl), (lx rfl), trivial⟩ r17) ?_
    refine WPl.l 5 6 rfl rfl rfl (o_alloc Z31) ?_
    refine WPl.s1 (o_stag G31 rfl rfl rfl ⟨rfl, rfl, rfl, rfl, rfl, rfl, rfl, rfl, rfl, rfl, (.inl ⟨_, (lx rfl), PL.one⟩), (.inl ⟨_, (lx rfl), PL.one⟩), trivial⟩ rfl rfl) ?_
    refine WPl.nil ?_
    refine EX.then ?_
    refine WP.seq ?_
    refine WP.region ?_
    refine WPl.v rfl (o_ldpa G31 rfl rfl rfl) ?_
    refine WPl.cs 6 rfl rfl rfl rfl (o_sig 6 (ren [(0, 3), (1, 4)]) (c57 f hlen.1) e57 rfl rfl rfl w57 ⟨(lx rfl), (lx rfl), trivial⟩ r57) ?_
    refine WPl.v rfl (o_move rfl) ?_
    refine WPl.v rfl (o_extract rfl rfl) ?_
    refine WPl.v rfl (o_extract rfl rfl) ?_
    refine WPl.v rfl (o_assign rfl) ?_
    refine WPl.v rfl (o_assign rfl) ?_
    refine WPl.nil ?_
    refine EX.then ?_
    refine WP.seq ?_
    refine WP.region ?_
    refine WPl.v rfl (o_ldpa G31 rfl rfl rfl) ?_
    refine WPl.cs 6 rfl rfl rfl rfl (o_sig 6 (ren [(0, 0), (1, 1)]) (c58 f) e58 rfl rfl rfl w58 ⟨(lx rfl), (lx rfl), trivial⟩ r58) ?_
    refine WPl.v rfl (o_move rfl) ?_
    refine WPl.v rfl (o_extract rfl rfl) ?_
    refine WPl.v rfl (o_extract rfl rfl) ?_
    refine WPl.v rfl (o_assign rfl) ?_
    refine WPl.v rfl (o_assign rfl) ?_
    refine WPl.nil ?_
    refine EX.then ?_
    refine WP.seq ?_
    refine WP.region ?_
    refine WPl.v rfl (o_ldpa G31 rfl rfl rfl) ?_
    refine WPl.cs 6 rfl rfl rfl rfl (o_sig 6 (ren [(0, 3), (1, 4)]) (c59 f hlen.1) e59 rfl rfl rfl w59 ⟨(lx rfl), (lx rfl), trivial⟩ r59) ?_
    refine WPl.v rfl (o_move rfl) ?_
    refine WPl.v rfl (o_extract rfl rfl) ?_
    refine WPl.v rfl (o_extract rfl rfl) ?_
    refine WPl.v rfl (o_assign rfl) ?_
    refine WPl.v rfl (o_assign rfl) ?_
    refine WPl.nil ?_
    refine EX.then ?_
    refine WP.seq ?_
    refine WP.region ?_
    refine WPl.v rfl (o_ldpa G31 rfl rfl rfl) ?_
    refine WPl.cs 6 rfl rfl rfl rfl (o_sig 6 (ren [(0, 0), (1, 1)]) (c60 f) e60 rfl rfl rfl w60 ⟨(lx rfl), (lx rfl), trivial⟩ r60) ?_
    refine WPl.v rfl (o_move rfl) ?_
    refine WPl.v rfl (o_extract rfl rfl) ?_
    refine WPl.v rfl (o_extract rfl rfl) ?_
    refine WPl.v rfl (o_assign rfl) ?_
    refine WPl.v rfl (o_assign rfl) ?_
    refine WPl.nil ?_
    refine EX.then ?_
    refine WP.seq ?_
    refine WP.seq ?_
    refine WP.region ?_
    refine WPl.v rfl (o_move rfl) ?_
    refine WPl.v rfl (o_move rfl) ?_
    refine WPl.v rfl (o_neq rfl rfl) ?_
    refine WPl.v rfl (o_move rfl) ?_
    refine WPl.bit 6 7 (!(decide (f.wKnownV ≠ f.knownV))) rfl rfl ?_
    refine WPl.gv 6 rfl rfl (.plain rfl (by simp) rfl) (fun hb => o_move rfl) ?_
    refine WPl.gv 6 rfl rfl (.plain rfl (by simp) rfl) (fun hb => o_move rfl) ?_
    refine WPl.gv 6 rfl rfl (.plain rfl (by simp) rfl) (fun hb => o_neq rfl rfl) ?_
    refine WPl.v rfl (o_or rfl rfl rfl (by first | (simp; done) | simp_all)) ?_
    refine WPl.v rfl (o_move rfl) ?_
    refine WPl.bit 7 8 (!((decide (f.wKnownV ≠ f.knownV)) || (decide (f.wKnownE ≠ f.knownE)))) rfl rfl ?_
    refine WPl.gv 7 rfl rfl (.plain rfl (by simp) rfl) (fun hb => o_move rfl) ?_
    refine WPl.gv 7 rfl rfl (.plain rfl (by simp) rfl) (fun hb => o_move rfl) ?_
    refine WPl.gv 7 rfl rfl (.plain rfl (by simp) rfl) (fun hb => o_neq rfl rfl) ?_
    refine WPl.v rfl (o_or rfl rfl rfl (by first | (simp; done) | simp_all)) ?_
    refine WPl.v rfl (o_move rfl) ?_
    refine WPl.bit 8 9 (!(((decide (f.wKnownV ≠ f.knownV)) || (decide (f.wKnownE ≠ f.knownE))) || (decide (f.wWorthV ≠ f.worthV)))) rfl rfl ?_
    refine WPl.gv 8 rfl rfl (.plain rfl (by simp) rfl) (fun hb => o_move rfl) ?_
    refine WPl.gv 8 rfl rfl (.plain rfl (by simp) rfl) (fun hb => o_move rfl) ?_
    refine WPl.gv 8 rfl rfl (.plain rfl (by simp) rfl) (fun hb => o_neq rfl rfl) ?_
    refine WPl.v rfl (o_or rfl rfl rfl (by first | (simp; done) | simp_all)) ?_
    refine WPl.nil ?_
    refine EX.then ?_
    refine WP.cond rfl (fun hc2 => ?_) (fun hc2 => ?_)
    · try simp only [decide_eq_true_eq, decide_eq_false_iff_not, Bool.and_eq_true, Bool.or_eq_true, Bool.and_eq_false_iff, Bool.or_eq_false_iff, Bool.not_eq_true', Bool.not_eq_false', ne_eq, Decidable.not_not] at hc2
      rw [law.k, law.ke, law.w, law.we] at hc2
      simp at hc2
    · try simp only [decide_eq_true_eq, decide_eq_false_iff_not, Bool.and_eq_true, Bool.or_eq_true, Bool.and_eq_false_iff, Bool.or_eq_false_iff, Bool.not_eq_true', Bool.not_eq_false', ne_eq, Decidable.not_not] at hc2
      refine WP.skip ?_
      refine EX.then ?_
      refine WP.seq ?_
      refine WP.region ?_
      refine WPl.v rfl (o_ldpa G31 rfl rfl rfl) ?_
      refine WPl.cs 9 rfl rfl rfl rfl (o_sig 9 (ren [(0, 3), (1, 4)]) (c61 f hlen.1) e61 rfl rfl rfl w61 ⟨(lx rfl), (lx rfl), trivial⟩ r61) ?_
      refine WPl.v rfl (o_move rfl) ?_
      refine WPl.v rfl (o_extract rfl rfl) ?_
      refine WPl.v rfl (o_extract rfl rfl) ?_
      refine WPl.v rfl (o_assign rfl) ?_
      refine WPl.v rfl (o_assign rfl) ?_
      refine WPl.nil ?_
      refine EX.then ?_
      refine WP.seq ?_
      refine WP.region ?_
      refine WPl.v rfl (o_ldpa G31 rfl rfl rfl) ?_
      refine WPl.cs 9 rfl rfl rfl rfl (o_sig 9 (ren [(0, 0), (1, 1)]) (c62 f) e62 rfl rfl rfl w62 ⟨(lx rfl), (lx rfl), trivial⟩ r62) ?_
      refine WPl.v rfl (o_move rfl) ?_
      refine WPl.v rfl (o_extract rfl rfl) ?_
      refine WPl.v rfl (o_extract rfl rfl) ?_
      refine WPl.v rfl (o_assign rfl) ?_
      refine WPl.v rfl (o_assign rfl) ?_
      refine WPl.nil ?_
      refine EX.then ?_
      refine WP.seq ?_
      refine WP.region ?_
      refine WPl.v rfl (o_move rfl) ?_
      refine WPl.v rfl (o_move rfl) ?_
      refine WPl.v rfl (o_eql rfl rfl) ?_
      refine WPl.imp (Imp.bitF 67 (b' := true) rfl (decide_eq_true law.a)) ?_
      refine WPl.v rfl (o_move rfl) ?_
      refine WPl.on rfl ⟨_, _, rfl, rfl, rfl⟩ (o_move rfl) ?_
      refine WPl.on rfl ⟨_, _, rfl, rfl, rfl⟩ (o_move rfl) ?_
      refine WPl.on rfl ⟨_, _, rfl, rfl, rfl⟩ (o_eql rfl rfl) ?_
      refine WPl.v rfl (o_pickT rfl rfl) ?_
      refine WPl.imp (Imp.bitF 72 (b' := true) rfl (decide_eq_true law.ae)) ?_
      refine WPl.v rfl (o_move rfl) ?_
      refine WPl.on rfl ⟨_, _, rfl, rfl, rfl⟩ (o_ldpa G31 rfl rfl rfl) ?_
      refine WPl.on rfl ⟨_, _, rfl, rfl, rfl⟩ (o_ldpa G31 rfl rfl rfl) ?_
      refine WPl.cL 10 rfl rfl rfl rfl ⟨_, _, rfl, rfl, rfl⟩ (o_sig 9 (ren [(0, 3), (1, 4), (2, 0), (3, 1)]) (c30 f (by omega) (by omega)) e30 rfl rfl rfl w30 ⟨(lx rfl), (lx rfl), (lx rfl), (lx rfl), trivial⟩ r30) ?_
      refine WPl.v rfl (o_pickT rfl rfl) ?_
      refine WPl.v rfl (o_move rfl) ?_
      refine WPl.cL 10 rfl rfl rfl rfl ⟨_, _, rfl, rfl, rfl⟩ (o_sig 9 id c16 e16 rfl rfl rfl w16 trivial r16) ?_
      refine WPl.v rfl (o_pickT rfl rfl) ?_
      refine WPl.v rfl (o_assign rfl) ?_
      refine WPl.nil ?_
      refine EX.then ?_
      refine WP.ret ?_
      exact EX.fin id (.inl rfl) rfl (.tmp rfl .nil) rfl r10 trivial (by simp) (by simp)
end Go.Flong
