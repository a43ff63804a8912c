/- Walks (printed by gen.py off the specs). -/
import Derived.Test.YtglbnodjcngefaaAL1
import Derived.Test.YtglbnodjcngefaaBase9
import Derived.Test.YtglbnodjcngefaaProg
set_option linter.unusedSimpArgs false
set_option linter.unusedVariables false
namespace Go.Flong
open Go Go.Eng Go.Proofs
theorem e14 : Enters' Try.prog 14 := Try.call14
theorem e15 : Enters' Try.prog 15 := Try.call15
theorem e16 : Enters' Try.prog 16 := Try.call16
theorem e18 : Enters' Try.prog 18 := Try.call18
theorem e19 : Enters' Try.prog 19 := Try.call19
theorem e20 : Enters' Try.prog 20 := Try.call20
theorem e24 : Enters' Try.prog 24 := Try.call24
theorem e26 : Enters' Try.prog 26 := Try.call26
theorem e29 : Enters' Try.prog 29 := Try.call29
theorem e30 : Enters' Try.prog 30 := Try.call30
theorem w3 {f : Fnd} {plan : List (List Int)} {night : Int} : ∀ x ∈ ([.e (.g [ai (f.shop.pounds), ai (f.shop.tl), ai (f.shop.th), ai (f.shop.al), ai (f.shop.ah), ai (f.shop.room), ai (f.shop.tpl), ai (f.shop.tph), ai (f.shop.apl), ai (f.shop.aph), .q 0, .q 1]), .e (.a (.q 2)), .i (night)] : List SV), x.res (keys (α := Pred) [(0, PL EPig (f.shop.pigs)), (1, PL ENight (f.nights)), (2, PL (EP.sl EP.int) (plan))]) := by simp [SV.res, El.res, At.res, keys]
theorem r3  : SV.res (keys (α := Pred) []) (.b (true)) := by simp [SV.res, El.res, At.res, keys]
set_option maxHeartbeats 4000000 in
theorem c3 (f : Fnd) (plan : List (List Int)) (night : Int) (hlaw : f.huge = false → longP plan = false → PotLaw f plan night) : Sig Try.prog 3 [.e (.g [ai (f.shop.pounds), ai (f.shop.tl), ai (f.shop.th), ai (f.shop.al), ai (f.shop.ah), ai (f.shop.room), ai (f.shop.tpl), ai (f.shop.tph), ai (f.shop.apl), ai (f.shop.aph), .q 0, .q 1]), .e (.a (.q 2)), .i (night)] [(0, PL EPig (f.shop.pigs)), (1, PL ENight (f.nights)), (2, PL (EP.sl EP.int) (plan))] (.b (true)) [] := by
  refine Sig.intro Try.func3 rfl 3 [(0, .e (.g [ai (f.shop.pounds), ai (f.shop.tl), ai (f.shop.th), ai (f.shop.al), ai (f.shop.ah), ai (f.shop.room), ai (f.shop.tpl), ai (f.shop.tph), ai (f.shop.apl), ai (f.shop.aph), .q 0, .q 1])), (1, .e (.a (.q 2))), (2, .i (night))] rfl w3 rfl rfl fun I w => ?_
  refine WP.seq ?_
  refine WP.region ?_
  refine WPl.l 3 4 rfl rfl rfl (o_boxg rfl) ?_
  refine WPl.v rfl (o_assign rfl) ?_
  refine WPl.nil ?_
  refine EX.then ?_
  refine WP.seq ?_
  refine WP.seq ?_
  refine WP.region ?_
  refine WPl.v rfl (o_ldpa G31 rfl rfl rfl) ?_
  refine WPl.cs 4 rfl rfl rfl rfl (o_sig 4 (ren [(0, 0), (1, 1)]) (c14 f) e14 rfl rfl rfl w14 ⟨(lx rfl), (lx rfl), trivial⟩ r14) ?_
  refine WPl.v rfl (o_move rfl) ?_
  refine WPl.bit 4 5 (!f.far) rfl rfl ?_
  refine WPl.gv 4 rfl rfl (.plain rfl (by simp) rfl) (fun hb => o_move rfl) ?_
  refine WPl.gc0 4 rfl rfl (.plain rfl (by simp) rfl) (fun hb => o_sig 5 (ren [(0, 2)]) (c15 plan) e15 rfl rfl rfl w15 ⟨(lx rfl), trivial⟩ r15) ?_
  refine WPl.v rfl (o_or rfl rfl rfl (by first | (simp; done) | simp_all)) ?_
  refine WPl.nil ?_
  refine EX.then ?_
  refine WP.cond rfl (fun hc1 => ?_) (fun hc1 => ?_)
  · try simp only [decide_eq_true_eq, decide_eq_false_iff_not, Bool.and_eq_true, Bool.or_eq_true, Bool.and_eq_false_iff, Bool.or_eq_false_iff, Bool.not_eq_true', Bool.not_eq_false', ne_eq, Decidable.not_not] at hc1
    refine WP.seq ?_
    refine WP.region ?_
    refine WPl.cs 5 rfl rfl rfl rfl (o_sig 5 id c16 e16 rfl rfl rfl w16 trivial r16) ?_
    refine WPl.v rfl (o_assign rfl) ?_
    refine WPl.nil ?_
    refine EX.then ?_
    refine WP.ret ?_
    refine EX.ret_then ?_
    exact EX.fin id (.inl rfl) rfl (.tmp rfl .nil) rfl r3 trivial (by simp) (by simp)
  · try simp only [decide_eq_true_eq, decide_eq_false_iff_not, Bool.and_eq_true, Bool.or_eq_true, Bool.and_eq_false_iff, Bool.or_eq_false_iff, Bool.not_eq_true', Bool.not_eq_false', ne_eq, Decidable.not_not] at hc1
    have hfar : f.far = false := (by simpa using hc1 : f.far = false ∧ longP plan = false).1
    have hlong : longP plan = false := (by simpa using hc1 : f.far = false ∧ longP plan = false).2
    have hh := far_huge hfar
    have hlen := huge_len hh
    have hll := longP_len hlong
    have law := hlaw hh hlong
    have hwl := wFailsV_len f plan
    refine WP.skip ?_
    refine EX.then ?_
    refine WP.seq ?_
    refine WP.region ?_
    refine WPl.v rfl (o_ldpa G31 rfl rfl rfl) ?_
    refine WPl.cs 7 rfl rfl rfl rfl (o_sig 5 (ren [(0, 0), (1, 1)]) (c17 f hlen.1 hlen.2) e17 rfl rfl rfl w17 ⟨(lx rfl), (lx rfl), trivial⟩ r17) ?_
    refine WPl.v rfl (o_move rfl) ?_
    refine WPl.cs 8 rfl rfl rfl rfl (o_sig 7 (ren [(0, 2)]) (c18 plan hll.1 hll.2) e18 rfl rfl rfl w18 ⟨(lx rfl), trivial⟩ r18) ?_
    refine WPl.l 8 9 rfl rfl rfl (o_alloc Z31) ?_
    refine WPl.s1 (o_stag G31 rfl rfl rfl ⟨rfl, rfl, rfl, rfl, rfl, rfl, rfl, rfl, rfl, rfl, (.inl ⟨_, (lx rfl), PL.one⟩), (.inl ⟨_, (lx rfl), PL.one⟩), trivial⟩ rfl rfl) ?_
    refine WPl.v rfl (o_assign rfl) ?_
    refine WPl.nil ?_
    refine EX.then ?_
    refine WP.seq ?_
    refine WP.region ?_
    refine WPl.v rfl (o_ldpa G31 rfl rfl rfl) ?_
    refine WPl.v rfl (o_move rfl) ?_
    refine WPl.v rfl (o_move rfl) ?_
    refine WPl.cs 9 rfl rfl rfl rfl (o_sig 9 (ren [(0, 5), (1, 6), (2, 7)]) (c19 f plan night hlen.1) e19 rfl rfl rfl w19 ⟨(lx rfl), (lx rfl), (lx rfl), trivial⟩ r19) ?_
    refine WPl.v rfl (o_move rfl) ?_
    refine WPl.v rfl (o_extract rfl rfl) ?_
    refine WPl.v rfl (o_extract rfl rfl) ?_
    refine WPl.v rfl (o_extract rfl rfl) ?_
    refine WPl.v rfl (o_extract rfl rfl) ?_
    refine WPl.l 9 10 rfl rfl rfl (o_alloc Z23) ?_
    refine WPl.l 10 11 rfl rfl rfl (o_alloc Z23) ?_
    refine WPl.l 11 12 rfl rfl rfl (o_alloc Z23) ?_
    refine WPl.s1 (o_stag G23 rfl rfl rfl ⟨rfl, rfl, trivial⟩ rfl rfl) ?_
    refine WPl.s1 (o_stag G23 rfl rfl rfl ⟨rfl, rfl, trivial⟩ rfl rfl) ?_
    refine WPl.s1 (o_stag G23 rfl rfl rfl ⟨rfl, rfl, trivial⟩ rfl rfl) ?_
    refine WPl.v rfl (o_assign rfl) ?_
    refine WPl.nil ?_
    refine EX.then ?_
    refine WP.seq ?_
    refine WP.region ?_
    refine WPl.v rfl (o_ldpa G31 rfl rfl rfl) ?_
    refine WPl.v rfl (o_move rfl) ?_
    refine WPl.v rfl (o_move rfl) ?_
    refine WPl.cs 12 rfl rfl rfl rfl (o_sig 12 (ren [(0, 0), (1, 1), (2, 2)]) (c20 f plan night hlen.2) e20 rfl rfl rfl w20 ⟨(lx rfl), (lx rfl), (lx rfl), trivial⟩ r20) ?_
    refine WPl.v rfl (o_move rfl) ?_
    refine WPl.v rfl (o_extract rfl rfl) ?_
    refine WPl.v rfl (o_extract rfl rfl) ?_
    refine WPl.v rfl (o_extract rfl rfl) ?_
    refine WPl.v rfl (o_extract rfl rfl) ?_
    refine WPl.l 12 13 rfl rfl rfl (o_alloc Z23) ?_
    refine WPl.l 13 14 rfl rfl rfl (o_alloc Z23) ?_
    refine WPl.l 14 15 rfl rfl rfl (o_alloc Z23) ?_
    refine WPl.s1 (o_stag G23 rfl rfl rfl ⟨rfl, rfl, trivial⟩ rfl rfl) ?_
    refine WPl.s1 (o_stag G23 rfl rfl rfl ⟨rfl, rfl, trivial⟩ rfl rfl) ?_
    refine WPl.s1 (o_stag G23 rfl rfl rfl ⟨rfl, rfl, trivial⟩ rfl rfl) ?_
    refine WPl.v rfl (o_assign rfl) ?_
    refine WPl.nil ?_
    refine EX.then ?_
    refine WP.seq ?_
    refine WP.seq ?_
    refine WP.imp (Imp.bit 15 16 (!(decide ((errW f.chk) ≠ (errW f.chk)))) rfl rfl) ?_
    refine WP.imp (Imp.bit 16 17 (!((decide ((errW f.chk) ≠ (errW f.chk))) || (decide ([nth (f.wPotV plan night) 0, nth (f.wPotV plan night) 1] ≠ [nth (f.potV plan night) 0, nth (f.potV plan night) 1])))) rfl rfl) ?_
    refine WP.imp (Imp.bit 17 18 (!(((decide ((errW f.chk) ≠ (errW f.chk))) || (decide ([nth (f.wPotV plan night) 0, nth (f.wPotV plan night) 1] ≠ [nth (f.potV plan night) 0, nth (f.potV plan night) 1]))) || (decide ([nth (f.wPotV plan night) 2, nth (f.wPotV plan night) 3] ≠ [nth (f.potV plan night) 2, nth (f.potV plan night) 3])))) rfl rfl) ?_
    refine WP.imp (Imp.bit 18 19 (!((((decide ((errW f.chk) ≠ (errW f.chk))) || (decide ([nth (f.wPotV plan night) 0, nth (f.wPotV plan night) 1] ≠ [nth (f.potV plan night) 0, nth (f.potV plan night) 1]))) || (decide ([nth (f.wPotV plan night) 2, nth (f.wPotV plan night) 3] ≠ [nth (f.potV plan night) 2, nth (f.potV plan night) 3]))) || (decide ([nth (f.wPotV plan night) 4, nth (f.wPotV plan night) 5] ≠ [nth (f.potV plan night) 4, nth (f.potV plan night) 5])))) rfl rfl) ?_
    refine WP.draw (nf := 19) [⟨[54], [], [], [], []⟩, ⟨[54], [], [], [], [0]⟩, ⟨[52, 53], [], [], [], []⟩, ⟨[], [], [], [], [0, 1, 2]⟩, ⟨[], [], [], [], [0, 1, 2, 3]⟩, ⟨[], [], [], [], [0, 1, 2, 3, 4]⟩, ⟨[59], [], [], [], [0, 1, 2, 3, 4, 5]⟩, ⟨[58], [], [], [], [0, 1, 2, 3, 4, 5]⟩, ⟨[], [], [], [], [0, 1, 2, 3, 4, 5, 6, 7]⟩, ⟨[], [], [], [], [0, 1, 2, 3, 4, 5, 6, 7, 8]⟩, ⟨[], [], [], [], [0, 1, 2, 3, 4, 5, 6, 7, 8, 9]⟩, ⟨[64], [], [], [], [0, 1, 2, 3, 4, 5, 6, 7, 8, 9, 10]⟩, ⟨[63], [], [], [], [0, 1, 2, 3, 4, 5, 6, 7, 8, 9, 10]⟩, ⟨[], [], [], [], [0, 1, 2, 3, 4, 5, 6, 7, 8, 9, 10, 11, 12]⟩, ⟨[], [], [], [], [0, 1, 2, 3, 4, 5, 6, 7, 8, 9, 10, 11, 12, 13]⟩, ⟨[], [], [], [], [0, 1, 2, 3, 4, 5, 6, 7, 8, 9, 10, 11, 12, 13, 14]⟩, ⟨[69], [], [], [], [0, 1, 2, 3, 4, 5, 6, 7, 8, 9, 10, 11, 12, 13, 14, 15]⟩, ⟨[68], [], [], [], [0, 1, 2, 3, 4, 5, 6, 7, 8, 9, 10, 11, 12, 13, 14, 15]⟩, ⟨[], [], [], [], [0, 1, 2, 3, 4, 5, 6, 7, 8, 9, 10, 11, 12, 13, 14, 15, 16, 17]⟩, ⟨[], [], [], [], [0, 1, 2, 3, 4, 5, 6, 7, 8, 9, 10, 11, 12, 13, 14, 15, 16, 17, 18]⟩, ⟨[], [], [], [], [0, 1, 2, 3, 4, 5, 6, 7, 8, 9, 10, 11, 12, 13, 14, 15, 16, 17, 18, 19]⟩, ⟨[74], [], [], [], [0, 1, 2, 3, 4, 5, 6, 7, 8, 9, 10, 11, 12, 13, 14, 15, 16, 17, 18, 19, 20]⟩, ⟨[73], [], [], [], [0, 1, 2, 3, 4, 5, 6, 7, 8, 9, 10, 11, 12, 13, 14, 15, 16, 17, 18, 19, 20]⟩, ⟨[], [], [], [], [0, 1, 2, 3, 4, 5, 6, 7, 8, 9, 10, 11, 12, 13, 14, 15, 16, 17, 18, 19, 20, 21, 22]⟩, ⟨[], [], [], [], [0, 1, 2, 3, 4, 5, 6, 7, 8, 9, 10, 11, 12, 13, 14, 15, 16, 17, 18, 19, 20, 21, 22, 23]⟩] (by kernel_rfl) (by kernel_rfl) ?_
    refine DRQ.v rfl rfl rfl (o_ldpa G31 rfl rfl rfl) ?_
    refine DRQ.cs rfl rfl rfl rfl (o_sig 19 (ren [(0, 5), (1, 6)]) (c21 f hlen.1) e21 rfl rfl rfl w21 ⟨(lx rfl), (lx rfl), trivial⟩ r21) ?_
    refine DRQ.v rfl rfl rfl (o_ldpa G31 rfl rfl rfl) ?_
    refine DRQ.cs rfl rfl rfl rfl (o_sig 19 (ren [(0, 0), (1, 1)]) (c22 f) e22 rfl rfl rfl w22 ⟨(lx rfl), (lx rfl), trivial⟩ r22) ?_
    refine DRQ.v rfl rfl rfl (o_neq rfl rfl) ?_
    refine DRQ.v rfl rfl rfl (o_move rfl) ?_
    refine DRQ.gv 15 rfl rfl (.plain rfl (by simp) rfl) rfl (fun hb => o_ldpa G23 rfl rfl rfl) ?_
    refine DRQ.gv 15 rfl rfl (.plain rfl (by simp) rfl) rfl (fun hb => o_ldpa G23 rfl rfl rfl) ?_
    refine DRQ.gv 15 rfl rfl (.plain rfl (by simp) rfl) rfl (fun hb => o_nes (a := [nth (f.wPotV plan night) 0, nth (f.wPotV plan night) 1]) (b := [nth (f.potV plan night) 0, nth (f.potV plan night) 1]) Q23 rfl Try.eqGuardType23 rfl rfl rfl rfl) ?_
    refine DRQ.v rfl rfl rfl (o_or rfl rfl rfl (by first | (simp; done) | simp_all)) ?_
    refine DRQ.v rfl rfl rfl (o_move rfl) ?_
    refine DRQ.gv 16 rfl rfl (.plain rfl (by simp) rfl) rfl (fun hb => o_ldpa G23 rfl rfl rfl) ?_
    refine DRQ.gv 16 rfl rfl (.plain rfl (by simp) rfl) rfl (fun hb => o_ldpa G23 rfl rfl rfl) ?_
    refine DRQ.gv 16 rfl rfl (.plain rfl (by simp) rfl) rfl (fun hb => o_nes (a := [nth (f.wPotV plan night) 2, nth (f.wPotV plan night) 3]) (b := [nth (f.potV plan night) 2, nth (f.potV plan night) 3]) Q23 rfl Try.eqGuardType23 rfl rfl rfl rfl) ?_
    refine DRQ.v rfl rfl rfl (o_or rfl rfl rfl (by first | (simp; done) | simp_all)) ?_
    refine DRQ.v rfl rfl rfl (o_move rfl) ?_
    refine DRQ.gv 17 rfl rfl (.plain rfl (by simp) rfl) rfl (fun hb => o_ldpa G23 rfl rfl rfl) ?_
    refine DRQ.gv 17 rfl rfl (.plain rfl (by simp) rfl) rfl (fun hb => o_ldpa G23 rfl rfl rfl) ?_
    refine DRQ.gv 17 rfl rfl (.plain rfl (by simp) rfl) rfl (fun hb => o_nes (a := [nth (f.wPotV plan night) 4, nth (f.wPotV plan night) 5]) (b := [nth (f.potV plan night) 4, nth (f.potV plan night) 5]) Q23 rfl Try.eqGuardType23 rfl rfl rfl rfl) ?_
    refine DRQ.v rfl rfl rfl (o_or rfl rfl rfl (by first | (simp; done) | simp_all)) ?_
    refine DRQ.v rfl rfl rfl (o_move rfl) ?_
    refine DRQ.gv 18 rfl rfl (.plain rfl (by simp) rfl) rfl (fun hb => o_move rfl) ?_
    refine DRQ.gv 18 rfl rfl (.plain rfl (by simp) rfl) rfl (fun hb => o_move rfl) ?_
    refine DRQ.gv 18 rfl rfl (.plain rfl (by simp) rfl) rfl (fun hb => o_neq rfl rfl) ?_
    refine DRQ.v rfl rfl rfl (o_or rfl rfl rfl (by first | (simp; done) | simp_all)) ?_
    refine DRQ.nil' ?_
    refine EX.then ?_
    refine WP.cond rfl (fun hc2 => ?_) (fun hc2 => ?_)
    · try simp only [decide_eq_true_eq, decide_eq_false_iff_not, Bool.and_eq_true, Bool.or_eq_true, Bool.and_eq_false_iff, Bool.or_eq_false_iff, Bool.not_eq_true', Bool.not_eq_false', ne_eq, Decidable.not_not] at hc2
      rw [law.v, law.e] at hc2
      simp at hc2
    · try simp only [decide_eq_true_eq, decide_eq_false_iff_not, Bool.and_eq_true, Bool.or_eq_true, Bool.and_eq_false_iff, Bool.or_eq_false_iff, Bool.not_eq_true', Bool.not_eq_false', ne_eq, Decidable.not_not] at hc2
      refine WP.skip ?_
      refine EX.then ?_
      refine WP.seq ?_
      refine WP.region ?_
      refine WPl.v rfl (o_ldpa G31 rfl rfl rfl) ?_
      refine WPl.v rfl (o_move rfl) ?_
      refine WPl.cs 19 rfl rfl rfl rfl (o_sig 19 (ren [(0, 5), (1, 6), (2, 7)]) (c23 f plan hlen.1) e23 rfl rfl rfl w23 ⟨(lx rfl), (lx rfl), (lx rfl), trivial⟩ r23) ?_
      refine WPl.v rfl (o_move rfl) ?_
      refine WPl.v rfl (o_extract rfl rfl) ?_
      refine WPl.v rfl (o_extract rfl rfl) ?_
      refine WPl.v rfl (o_assign rfl) ?_
      refine WPl.v rfl (o_assign rfl) ?_
      refine WPl.nil ?_
      refine EX.then ?_
      refine WP.seq ?_
      refine WP.region ?_
      refine WPl.v rfl (o_ldpa G31 rfl rfl rfl) ?_
      refine WPl.v rfl (o_move rfl) ?_
      refine WPl.cs 19 rfl rfl rfl rfl (o_sig 19 (ren [(0, 0), (1, 1), (2, 2)]) (c24 f plan) e24 rfl rfl rfl w24 ⟨(lx rfl), (lx rfl), (lx rfl), trivial⟩ r24) ?_
      refine WPl.v rfl (o_move rfl) ?_
      refine WPl.v rfl (o_extract rfl rfl) ?_
      refine WPl.v rfl (o_extract rfl rfl) ?_
      refine WPl.v rfl (o_assign rfl) ?_
      refine WPl.v rfl (o_assign rfl) ?_
      refine WPl.nil ?_
      refine EX.then ?_
      refine WP.seq ?_
      refine WP.region ?_
      refine WPl.v rfl (o_ldpa G31 rfl rfl rfl) ?_
      refine WPl.v rfl (o_move rfl) ?_
      refine WPl.cs 20 rfl rfl rfl rfl (o_sig 19 (ren [(0, 5), (1, 6), (2, 7)]) (c25 f plan hlen.1) e25 rfl rfl rfl w25 ⟨(lx rfl), (lx rfl), (lx rfl), trivial⟩ r25) ?_
      refine WPl.v rfl (o_move rfl) ?_
      refine WPl.v rfl (o_extract rfl rfl) ?_
      refine WPl.v rfl (o_extract rfl rfl) ?_
      refine WPl.v rfl (o_assign rfl) ?_
      refine WPl.v rfl (o_assign rfl) ?_
      refine WPl.nil ?_
      refine EX.then ?_
      refine WP.seq ?_
      refine WP.region ?_
      refine WPl.v rfl (o_ldpa G31 rfl rfl rfl) ?_
      refine WPl.v rfl (o_move rfl) ?_
      refine WPl.cs 21 rfl rfl rfl rfl (o_sig 20 (ren [(0, 0), (1, 1), (2, 2)]) (c26 f plan) e26 rfl rfl rfl w26 ⟨(lx rfl), (lx rfl), (lx rfl), trivial⟩ r26) ?_
      refine WPl.v rfl (o_move rfl) ?_
      refine WPl.v rfl (o_extract rfl rfl) ?_
      refine WPl.v rfl (o_extract rfl rfl) ?_
      refine WPl.v rfl (o_assign rfl) ?_
      refine WPl.v rfl (o_assign rfl) ?_
      refine WPl.nil ?_
      refine EX.then ?_
      refine WP.seq ?_
      refine WP.seq ?_
      refine WP.region ?_
      refine WPl.v rfl (o_move rfl) ?_
      refine WPl.v rfl (o_move rfl) ?_
      refine WPl.v rfl (o_neq rfl rfl) ?_
      refine WPl.v rfl (o_move rfl) ?_
      refine WPl.bit 21 22 (!(decide ((f.wSafeV plan) ≠ (f.safeK plan)))) rfl rfl ?_
      refine WPl.gv 21 rfl rfl (.plain rfl (by simp) rfl) (fun hb => o_move rfl) ?_
      refine WPl.gv 21 rfl rfl (.plain rfl (by simp) rfl) (fun hb => o_move rfl) ?_
      refine WPl.gv 21 rfl rfl (.plain rfl (by simp) rfl) (fun hb => o_neq rfl rfl) ?_
      refine WPl.v rfl (o_or rfl rfl rfl (by first | (simp; done) | simp_all)) ?_
      refine WPl.v rfl (o_move rfl) ?_
      refine WPl.bit 22 23 (!((decide ((f.wSafeV plan) ≠ (f.safeK plan))) || (decide ((f.wOpen (f.wPlan plan)) ≠ (f.openE plan))))) rfl rfl ?_
      refine WPl.gv 22 rfl rfl (.plain rfl (by simp) rfl) (fun hb => o_move rfl) ?_
      refine WPl.gv 22 rfl rfl (.plain rfl (by simp) rfl) (fun hb => o_move rfl) ?_
      refine WPl.gc0 22 rfl rfl (.plain rfl (by simp) rfl) (fun hb => o_sig 23 (ren [(0, 19), (1, 20)]) (c27 (f.wFailsV plan) (f.failsR plan) (by omega)) e27 rfl rfl rfl w27 ⟨(lx rfl), (lx rfl), trivial⟩ r27) ?_
      refine WPl.gv 22 rfl rfl (.plain rfl (by simp) rfl) (fun hb => o_not rfl) ?_
      refine WPl.v rfl (o_or rfl rfl rfl (by first | (simp; done) | simp_all)) ?_
      refine WPl.v rfl (o_move rfl) ?_
      refine WPl.bit 23 24 (!(((decide ((f.wSafeV plan) ≠ (f.safeK plan))) || (decide ((f.wOpen (f.wPlan plan)) ≠ (f.openE plan)))) || (!(sameInts (f.wFailsV plan) (f.failsR plan))))) rfl rfl ?_
      refine WPl.gv 23 rfl rfl (.plain rfl (by simp) rfl) (fun hb => o_move rfl) ?_
      refine WPl.gv 23 rfl rfl (.plain rfl (by simp) rfl) (fun hb => o_move rfl) ?_
      refine WPl.gv 23 rfl rfl (.plain rfl (by simp) rfl) (fun hb => o_neq rfl rfl) ?_
      refine WPl.v rfl (o_or rfl rfl rfl (by first | (simp; done) | simp_all)) ?_
      refine WPl.nil ?_
      refine EX.then ?_
      refine WP.cond rfl (fun hc3 => ?_) (fun hc3 => ?_)
      · try simp only [decide_eq_true_eq, decide_eq_false_iff_not, Bool.and_eq_true, Bool.or_eq_true, Bool.and_eq_false_iff, Bool.or_eq_false_iff, Bool.not_eq_true', Bool.not_eq_false', ne_eq, Decidable.not_not] at hc3
        rw [law.s, law.o, law.w] at hc3
        simp [sameInts_refl] at hc3
      · try simp only [decide_eq_true_eq, decide_eq_false_iff_not, Bool.and_eq_true, Bool.or_eq_true, Bool.and_eq_false_iff, Bool.or_eq_false_iff, Bool.not_eq_true', Bool.not_eq_false', ne_eq, Decidable.not_not] at hc3
        refine WP.skip ?_
        refine EX.then ?_
        refine WP.seq ?_
        refine WP.region ?_
        refine WPl.v rfl (o_ldpa G31 rfl rfl rfl) ?_
        refine WPl.cs 24 rfl rfl rfl rfl (o_sig 24 (ren [(0, 5), (1, 6)]) (c28 f hlen.1) e28 rfl rfl rfl w28 ⟨(lx rfl), (lx rfl), trivial⟩ r28) ?_
        refine WPl.v rfl (o_move rfl) ?_
        refine WPl.v rfl (o_extract rfl rfl) ?_
        refine WPl.v rfl (o_extract rfl rfl) ?_
        refine WPl.v rfl (o_assign rfl) ?_
        refine WPl.v rfl (o_assign rfl) ?_
        refine WPl.nil ?_
        refine EX.then ?_
        refine WP.seq ?_
        refine WP.region ?_
        refine WPl.v rfl (o_ldpa G31 rfl rfl rfl) ?_
        refine WPl.cs 24 rfl rfl rfl rfl (o_sig 24 (ren [(0, 0), (1, 1)]) (c29 f) e29 rfl rfl rfl w29 ⟨(lx rfl), (lx rfl), trivial⟩ r29) ?_
        refine WPl.v rfl (o_move rfl) ?_
        refine WPl.v rfl (o_extract rfl rfl) ?_
        refine WPl.v rfl (o_extract rfl rfl) ?_
        refine WPl.v rfl (o_assign rfl) ?_
        refine WPl.v rfl (o_assign rfl) ?_
        refine WPl.nil ?_
        refine EX.then ?_
        refine WP.seq ?_
        refine WP.region ?_
        refine WPl.v rfl (o_move rfl) ?_
        refine WPl.v rfl (o_move rfl) ?_
        refine WPl.v rfl (o_eql rfl rfl) ?_
        refine WPl.imp (Imp.bitF 132 (b' := true) rfl (decide_eq_true law.l)) ?_
        refine WPl.v rfl (o_move rfl) ?_
        refine WPl.on rfl ⟨_, _, rfl, rfl, rfl⟩ (o_move rfl) ?_
        refine WPl.on rfl ⟨_, _, rfl, rfl, rfl⟩ (o_move rfl) ?_
        refine WPl.on rfl ⟨_, _, rfl, rfl, rfl⟩ (o_eql rfl rfl) ?_
        refine WPl.v rfl (o_pickT rfl rfl) ?_
        refine WPl.imp (Imp.bitF 137 (b' := true) rfl (decide_eq_true rfl)) ?_
        refine WPl.v rfl (o_move rfl) ?_
        refine WPl.on rfl ⟨_, _, rfl, rfl, rfl⟩ (o_ldpa G31 rfl rfl rfl) ?_
        refine WPl.on rfl ⟨_, _, rfl, rfl, rfl⟩ (o_ldpa G31 rfl rfl rfl) ?_
        refine WPl.cL 25 rfl rfl rfl rfl ⟨_, _, rfl, rfl, rfl⟩ (o_sig 24 (ren [(0, 5), (1, 6), (2, 0), (3, 1)]) (c30 f (by omega) (by omega)) e30 rfl rfl rfl w30 ⟨(lx rfl), (lx rfl), (lx rfl), (lx rfl), trivial⟩ r30) ?_
        refine WPl.v rfl (o_pickT rfl rfl) ?_
        refine WPl.v rfl (o_move rfl) ?_
        refine WPl.on rfl ⟨_, _, rfl, rfl, rfl⟩ (o_move rfl) ?_
        refine WPl.on rfl ⟨_, _, rfl, rfl, rfl⟩ (o_move rfl) ?_
        refine WPl.cL 25 rfl rfl rfl rfl ⟨_, _, rfl, rfl, rfl⟩ (o_sig 24 (ren [(0, 7), (1, 2)]) (c31 plan (by have := hll.1; omega) (fun i hi => by have := hll.2 i hi; omega)) e31 rfl rfl rfl w31 ⟨(lx rfl), (lx rfl), trivial⟩ r31) ?_
        refine WPl.v rfl (o_pickT rfl rfl) ?_
        refine WPl.v rfl (o_move rfl) ?_
        refine WPl.cL 25 rfl rfl rfl rfl ⟨_, _, rfl, rfl, rfl⟩ (o_sig 24 id c16 e16 rfl rfl rfl w16 trivial r16) ?_
        refine WPl.v rfl (o_pickT rfl rfl) ?_
        refine WPl.v rfl (o_assign rfl) ?_
        refine WPl.nil ?_
        refine EX.then ?_
        refine WP.ret ?_
        exact EX.fin id (.inl rfl) rfl (.tmp rfl .nil) rfl r3 trivial (by simp) (by simp)
end Go.Flong
