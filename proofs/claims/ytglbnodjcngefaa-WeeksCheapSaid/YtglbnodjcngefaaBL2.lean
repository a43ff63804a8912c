/- Walks (printed by gen.py off the specs). -/
import Derived.Test.YtglbnodjcngefaaBL1
import Derived.Test.YtglbnodjcngefaaBase9
import Derived.Test.YtglbnodjcngefaaProg
set_option linter.unusedSimpArgs false
set_option linter.unusedVariables false
namespace Go.Flong
open Go Go.Eng Go.Proofs
theorem e14 : Enters' Try.prog 14 := Try.call14
theorem e16 : Enters' Try.prog 16 := Try.call16
theorem e44 : Enters' Try.prog 44 := Try.call44
theorem e47 : Enters' Try.prog 47 := Try.call47
theorem e48 : Enters' Try.prog 48 := Try.call48
theorem e30 : Enters' Try.prog 30 := Try.call30
theorem w5 {f : Fnd} : ∀ x ∈ ([.e (.g [ai (f.shop.pounds), ai (f.shop.tl), ai (f.shop.th), ai (f.shop.al), ai (f.shop.ah), ai (f.shop.room), ai (f.shop.tpl), ai (f.shop.tph), ai (f.shop.apl), ai (f.shop.aph), .q 0, .q 1])] : List SV), x.res (keys (α := Pred) [(0, PL EPig (f.shop.pigs)), (1, PL ENight (f.nights))]) := by simp [SV.res, El.res, At.res, keys]
theorem r5  : SV.res (keys (α := Pred) []) (.b (true)) := by simp [SV.res, El.res, At.res, keys]
set_option maxHeartbeats 4000000 in
theorem c5 (f : Fnd) (hlaw : f.huge = false → CheapLaw f) : Sig Try.prog 5 [.e (.g [ai (f.shop.pounds), ai (f.shop.tl), ai (f.shop.th), ai (f.shop.al), ai (f.shop.ah), ai (f.shop.room), ai (f.shop.tpl), ai (f.shop.tph), ai (f.shop.apl), ai (f.shop.aph), .q 0, .q 1])] [(0, PL EPig (f.shop.pigs)), (1, PL ENight (f.nights))] (.b (true)) [] := by
  refine Sig.intro Try.func5 rfl 2 [(0, .e (.g [ai (f.shop.pounds), ai (f.shop.tl), ai (f.shop.th), ai (f.shop.al), ai (f.shop.ah), ai (f.shop.room), ai (f.shop.tpl), ai (f.shop.tph), ai (f.shop.apl), ai (f.shop.aph), .q 0, .q 1]))] rfl w5 rfl rfl fun I w => ?_
  refine WP.seq ?_
  refine WP.region ?_
  refine WPl.l 2 3 rfl rfl rfl (o_boxg rfl) ?_
  refine WPl.v rfl (o_assign rfl) ?_
  refine WPl.nil ?_
  refine EX.then ?_
  refine WP.seq ?_
  refine WP.seq ?_
  refine WP.region ?_
  refine WPl.v rfl (o_ldpa G31 rfl rfl rfl) ?_
  refine WPl.cs 3 rfl rfl rfl rfl (o_sig 3 (ren [(0, 0), (1, 1)]) (c14 f) e14 rfl rfl rfl w14 ⟨(lx rfl), (lx rfl), trivial⟩ r14) ?_
  refine WPl.nil ?_
  refine EX.then ?_
  refine WP.cond rfl (fun hc1 => ?_) (fun hc1 => ?_)
  · try simp only [decide_eq_true_eq, decide_eq_false_iff_not, Bool.and_eq_true, Bool.or_eq_true, Bool.and_eq_false_iff, Bool.or_eq_false_iff, Bool.not_eq_true', Bool.not_eq_false', ne_eq, Decidable.not_not] at hc1
    refine WP.seq ?_
    refine WP.region ?_
    refine WPl.cs 3 rfl rfl rfl rfl (o_sig 3 id c16 e16 rfl rfl rfl w16 trivial r16) ?_
    refine WPl.v rfl (o_assign rfl) ?_
    refine WPl.nil ?_
    refine EX.then ?_
    refine WP.ret ?_
    refine EX.ret_then ?_
    exact EX.fin id (.inl rfl) rfl (.tmp rfl .nil) rfl r5 trivial (by simp) (by simp)
  · try simp only [decide_eq_true_eq, decide_eq_false_iff_not, Bool.and_eq_true, Bool.or_eq_true, Bool.and_eq_false_iff, Bool.or_eq_false_iff, Bool.not_eq_true', Bool.not_eq_false', ne_eq, Decidable.not_not] at hc1
    have hfar : f.far = false := hc1
    have hh := far_huge hfar
    have hlen := huge_len hh
    have law := hlaw hh
    have hpl := wPlanV_len (f := f)
    refine WP.skip ?_
    refine EX.then ?_
    refine WP.seq ?_
    refine WP.region ?_
    refine WPl.v rfl (o_ldpa G31 rfl rfl rfl) ?_
    refine WPl.cs 5 rfl rfl rfl rfl (o_sig 3 (ren [(0, 0), (1, 1)]) (c17 f hlen.1 hlen.2) e17 rfl rfl rfl w17 ⟨(lx rfl), (lx rfl), trivial⟩ r17) ?_
    refine WPl.l 5 6 rfl rfl rfl (o_alloc Z31) ?_
    refine WPl.s1 (o_stag G31 rfl rfl rfl ⟨rfl, rfl, rfl, rfl, rfl, rfl, rfl, rfl, rfl, rfl, (.inl ⟨_, (lx rfl), PL.one⟩), (.inl ⟨_, (lx rfl), PL.one⟩), trivial⟩ rfl rfl) ?_
    refine WPl.nil ?_
    refine EX.then ?_
    refine WP.seq ?_
    refine WP.region ?_
    refine WPl.v rfl (o_ldpa G31 rfl rfl rfl) ?_
    refine WPl.cs 6 rfl rfl rfl rfl (o_sig 6 (ren [(0, 3), (1, 4)]) (c43 f hlen.1) e43 rfl rfl rfl w43 ⟨(lx rfl), (lx rfl), trivial⟩ r43) ?_
    refine WPl.v rfl (o_move rfl) ?_
    refine WPl.v rfl (o_extract rfl rfl) ?_
    refine WPl.v rfl (o_extract rfl rfl) ?_
    refine WPl.v rfl (o_assign rfl) ?_
    refine WPl.v rfl (o_assign rfl) ?_
    refine WPl.nil ?_
    refine EX.then ?_
    refine WP.seq ?_
    refine WP.region ?_
    refine WPl.v rfl (o_ldpa G31 rfl rfl rfl) ?_
    refine WPl.cs 6 rfl rfl rfl rfl (o_sig 6 (ren [(0, 0), (1, 1)]) (c44 f) e44 rfl rfl rfl w44 ⟨(lx rfl), (lx rfl), trivial⟩ r44) ?_
    refine WPl.v rfl (o_move rfl) ?_
    refine WPl.v rfl (o_extract rfl rfl) ?_
    refine WPl.v rfl (o_extract rfl rfl) ?_
    refine WPl.v rfl (o_assign rfl) ?_
    refine WPl.v rfl (o_assign rfl) ?_
    refine WPl.nil ?_
    refine EX.then ?_
    refine WP.seq ?_
    refine WP.region ?_
    refine WPl.v rfl (o_ldpa G31 rfl rfl rfl) ?_
    refine WPl.cs 7 rfl rfl rfl rfl (o_sig 6 (ren [(0, 3), (1, 4)]) (c45 f hlen.1) e45 rfl rfl rfl w45 ⟨(lx rfl), (lx rfl), trivial⟩ r45) ?_
    refine WPl.v rfl (o_move rfl) ?_
    refine WPl.v rfl (o_extract rfl rfl) ?_
    refine WPl.v rfl (o_extract rfl rfl) ?_
    refine WPl.v rfl (o_assign rfl) ?_
    refine WPl.v rfl (o_assign rfl) ?_
    refine WPl.nil ?_
    refine EX.then ?_
    refine WP.seq ?_
    refine WP.region ?_
    refine WPl.v rfl (o_ldpa G31 rfl rfl rfl) ?_
    refine WPl.cs 8 rfl rfl rfl rfl (o_sig 7 (ren [(0, 0), (1, 1)]) (c46 f) e46 rfl rfl rfl w46 ⟨(lx rfl), (lx rfl), trivial⟩ r46) ?_
    refine WPl.v rfl (o_move rfl) ?_
    refine WPl.v rfl (o_extract rfl rfl) ?_
    refine WPl.v rfl (o_extract rfl rfl) ?_
    refine WPl.v rfl (o_assign rfl) ?_
    refine WPl.v rfl (o_assign rfl) ?_
    refine WPl.nil ?_
    refine EX.then ?_
    refine WP.seq ?_
    refine WP.seq ?_
    refine WP.region ?_
    rw [law.p]
    refine WPl.v rfl (o_move rfl) ?_
    refine WPl.v rfl (o_move rfl) ?_
    refine WPl.v rfl (o_neq rfl rfl) ?_
    refine WPl.v rfl (o_move rfl) ?_
    refine WPl.bit 8 9 (!(decide ((f.leastV costG) ≠ f.cheapV))) rfl rfl ?_
    refine WPl.gv 8 rfl rfl (.plain rfl (by simp) rfl) (fun hb => o_move rfl) ?_
    refine WPl.gv 8 rfl rfl (.plain rfl (by simp) rfl) (fun hb => o_move rfl) ?_
    refine WPl.gv 8 rfl rfl (.plain rfl (by simp) rfl) (fun hb => o_neq rfl rfl) ?_
    refine WPl.v rfl (o_or rfl rfl rfl (by first | (simp; done) | simp_all)) ?_
    refine WPl.v rfl (o_move rfl) ?_
    have hpl2 := hpl
    rw [law.p] at hpl2
    refine WPl.bit 9 10 (!((decide ((f.leastV costG) ≠ f.cheapV)) || (decide ((f.leastE costG) ≠ f.plansE)))) rfl rfl ?_
    refine WPl.gv 9 rfl rfl (.plain rfl (by simp) rfl) (fun hb => o_move rfl) ?_
    refine WPl.gv 9 rfl rfl (.plain rfl (by simp) rfl) (fun hb => o_move rfl) ?_
    refine WPl.gc0 9 rfl rfl (.plain rfl (by simp) rfl) (fun hb => o_sig 10 (ren [(0, 6), (1, 7)]) (c31 f.planV (by omega) (fun i hi => by have := hpl2.2 i hi; omega)) e31 rfl rfl rfl w31 ⟨(lx rfl), (lx rfl), trivial⟩ r31) ?_
    refine WPl.gv 9 rfl rfl (.plain rfl (by simp) rfl) (fun hb => o_not rfl) ?_
    refine WPl.v rfl (o_or rfl rfl rfl (by first | (simp; done) | simp_all)) ?_
    refine WPl.v rfl (o_move rfl) ?_
    refine WPl.bit 10 11 (!(((decide ((f.leastV costG) ≠ f.cheapV)) || (decide ((f.leastE costG) ≠ f.plansE))) || false)) rfl rfl ?_
    refine WPl.gv 10 rfl rfl (.plain rfl (by simp) rfl) (fun hb => o_move rfl) ?_
    refine WPl.gv 10 rfl rfl (.plain rfl (by simp) rfl) (fun hb => o_move rfl) ?_
    refine WPl.gv 10 rfl rfl (.plain rfl (by simp) rfl) (fun hb => o_neq rfl rfl) ?_
    refine WPl.v rfl (o_or rfl rfl rfl (by first | (simp; done) | simp_all)) ?_
    refine WPl.nil ?_
    refine EX.then ?_
    refine WP.cond rfl (fun hc2 => ?_) (fun hc2 => ?_)
    · try simp only [decide_eq_true_eq, decide_eq_false_iff_not, Bool.and_eq_true, Bool.or_eq_true, Bool.and_eq_false_iff, Bool.or_eq_false_iff, Bool.not_eq_true', Bool.not_eq_false', ne_eq, Decidable.not_not] at hc2
      rw [law.c, law.e] at hc2
      simp at hc2
    · try simp only [decide_eq_true_eq, decide_eq_false_iff_not, Bool.and_eq_true, Bool.or_eq_true, Bool.and_eq_false_iff, Bool.or_eq_false_iff, Bool.not_eq_true', Bool.not_eq_false', ne_eq, Decidable.not_not] at hc2
      refine WP.skip ?_
      refine EX.then ?_
      refine WP.seq ?_
      refine WP.region ?_
      refine WPl.v rfl (o_ldpa G31 rfl rfl rfl) ?_
      refine WPl.cs 11 rfl rfl rfl rfl (o_sig 11 (ren [(0, 3), (1, 4)]) (c47 f hlen.1) e47 rfl rfl rfl w47 ⟨(lx rfl), (lx rfl), trivial⟩ r47) ?_
      refine WPl.v rfl (o_move rfl) ?_
      refine WPl.v rfl (o_extract rfl rfl) ?_
      refine WPl.v rfl (o_extract rfl rfl) ?_
      refine WPl.v rfl (o_assign rfl) ?_
      refine WPl.v rfl (o_assign rfl) ?_
      refine WPl.nil ?_
      refine EX.then ?_
      refine WP.seq ?_
      refine WP.region ?_
      refine WPl.v rfl (o_ldpa G31 rfl rfl rfl) ?_
      refine WPl.cs 11 rfl rfl rfl rfl (o_sig 11 (ren [(0, 0), (1, 1)]) (c48 f) e48 rfl rfl rfl w48 ⟨(lx rfl), (lx rfl), trivial⟩ r48) ?_
      refine WPl.v rfl (o_move rfl) ?_
      refine WPl.v rfl (o_extract rfl rfl) ?_
      refine WPl.v rfl (o_extract rfl rfl) ?_
      refine WPl.v rfl (o_assign rfl) ?_
      refine WPl.v rfl (o_assign rfl) ?_
      refine WPl.nil ?_
      refine EX.then ?_
      refine WP.seq ?_
      refine WP.region ?_
      refine WPl.v rfl (o_move rfl) ?_
      refine WPl.v rfl (o_move rfl) ?_
      refine WPl.v rfl (o_eql rfl rfl) ?_
      refine WPl.imp (Imp.bitF 68 (b' := true) rfl (decide_eq_true law.o)) ?_
      refine WPl.v rfl (o_move rfl) ?_
      refine WPl.on rfl ⟨_, _, rfl, rfl, rfl⟩ (o_move rfl) ?_
      refine WPl.on rfl ⟨_, _, rfl, rfl, rfl⟩ (o_move rfl) ?_
      refine WPl.on rfl ⟨_, _, rfl, rfl, rfl⟩ (o_eql rfl rfl) ?_
      refine WPl.v rfl (o_pickT rfl rfl) ?_
      refine WPl.imp (Imp.bitF 73 (b' := true) rfl (decide_eq_true law.oe)) ?_
      refine WPl.v rfl (o_move rfl) ?_
      refine WPl.on rfl ⟨_, _, rfl, rfl, rfl⟩ (o_ldpa G31 rfl rfl rfl) ?_
      refine WPl.on rfl ⟨_, _, rfl, rfl, rfl⟩ (o_ldpa G31 rfl rfl rfl) ?_
      refine WPl.cL 12 rfl rfl rfl rfl ⟨_, _, rfl, rfl, rfl⟩ (o_sig 11 (ren [(0, 3), (1, 4), (2, 0), (3, 1)]) (c30 f (by omega) (by omega)) e30 rfl rfl rfl w30 ⟨(lx rfl), (lx rfl), (lx rfl), (lx rfl), trivial⟩ r30) ?_
      refine WPl.v rfl (o_pickT rfl rfl) ?_
      refine WPl.v rfl (o_move rfl) ?_
      refine WPl.cL 12 rfl rfl rfl rfl ⟨_, _, rfl, rfl, rfl⟩ (o_sig 11 id c16 e16 rfl rfl rfl w16 trivial r16) ?_
      refine WPl.v rfl (o_pickT rfl rfl) ?_
      refine WPl.v rfl (o_assign rfl) ?_
      refine WPl.nil ?_
      refine EX.then ?_
      refine WP.ret ?_
      exact EX.fin id (.inl rfl) rfl (.tmp rfl .nil) rfl r5 trivial (by simp) (by simp)
end Go.Flong
