/- Walks (printed by gen.py off the specs). -/
import Derived.Test.YtglbnodjcngefaaAW1
import Derived.Test.YtglbnodjcngefaaBase2
import Derived.Test.YtglbnodjcngefaaProg
set_option linter.unusedSimpArgs false
set_option linter.unusedVariables false
namespace Go.Flong
open Go Go.Eng Go.Proofs
theorem e92 : Enters' Try.prog 92 := Try.call92
theorem Z25 : Zero Try.prog 25 [ai (0), ai (0), ai (0), ai (0), ai (0)] := .mk Try.zeroValue25 rfl rfl
theorem w92 {f : Fnd} {plan : List (List Int)} {night t a d : Int} : ∀ x ∈ ([.e (.g [ai (f.shop.pounds), ai (f.shop.tl), ai (f.shop.th), ai (f.shop.al), ai (f.shop.ah), ai (f.shop.room), ai (f.shop.tpl), ai (f.shop.tph), ai (f.shop.apl), ai (f.shop.aph), .q 0, .q 1]), .e (.a (.q 2)), .i (night), .i (t), .i (a), .i (d)] : List SV), x.res (keys (α := Pred) [(0, PL EPig (f.shop.pigs)), (1, PL ENight (f.nights)), (2, PL (EP.sl EP.int) (plan))]) := by simp [SV.res, El.res, At.res, keys]
theorem r92 {f : Fnd} {plan : List (List Int)} {t a d : Int} {n : Nat} : SV.res (keys (α := Pred) []) (.b (f.holds plan t a n d)) := by simp [SV.res, El.res, At.res, keys]
set_option maxHeartbeats 4000000 in
theorem c92 (f : Fnd) (plan : List (List Int)) (night t a d : Int) (n : Nat) (hf : f.chk = true) (hp : PlanB f plan) (hnt : night + n = f.nights.length) (hn0 : 0 ≤ night) (ht : 0 ≤ t ∧ t ≤ 400) (ha : 0 ≤ a ∧ a ≤ 400) (hd : 0 ≤ d ∧ d ≤ hiTo f.nights night.toNat) : Sig Try.prog 92 [.e (.g [ai (f.shop.pounds), ai (f.shop.tl), ai (f.shop.th), ai (f.shop.al), ai (f.shop.ah), ai (f.shop.room), ai (f.shop.tpl), ai (f.shop.tph), ai (f.shop.apl), ai (f.shop.aph), .q 0, .q 1]), .e (.a (.q 2)), .i (night), .i (t), .i (a), .i (d)] [(0, PL EPig (f.shop.pigs)), (1, PL ENight (f.nights)), (2, PL (EP.sl EP.int) (plan))] (.b (f.holds plan t a n d)) [] := by
  have hs := Fnd.shopOK hf
  have hn := Fnd.nightsOK hf
  have hn4 := hn.2
  have hpg := Shop.pigsOK hs
  have hp4 := hpg.2
  have htb := tl_bnd hs
  have hp0 := hp
  obtain ⟨hpl, hpb⟩ := hp
  have hub := upTo_bnd (by omega) hpb
  have hul := upTo_len f.shop.pigs.length plan
  have hlh := lohi_bnd hn
  have hhi := fun i hi => Fnd.hi_le hf (i := i) hi
  refine Sig.intro Try.func92 rfl 3 [(0, .e (.g [ai (f.shop.pounds), ai (f.shop.tl), ai (f.shop.th), ai (f.shop.al), ai (f.shop.ah), ai (f.shop.room), ai (f.shop.tpl), ai (f.shop.tph), ai (f.shop.apl), ai (f.shop.aph), .q 0, .q 1])), (1, .e (.a (.q 2))), (2, .i (night)), (3, .i (t)), (4, .i (a)), (5, .i (d))] rfl w92 rfl rfl fun I w => ?_
  refine WP.seq ?_
  refine WP.region ?_
  refine WPl.l 3 4 rfl rfl rfl (o_boxg rfl) ?_
  refine WPl.v rfl (o_assign rfl) ?_
  refine WPl.nil ?_
  refine EX.then ?_
  refine WP.seq ?_
  refine WP.seq ?_
  refine WP.region ?_
  refine WPl.v rfl (o_move rfl) ?_
  refine WPl.v rfl (o_fldp F31_1 rfl) ?_
  refine WPl.v rfl (o_ldp S29 rfl rfl rfl) ?_
  refine WPl.v rfl (o_lenq L29 rfl (lx rfl)) ?_
  refine WPl.v rfl (o_eql rfl rfl) ?_
  refine WPl.nil ?_
  refine EX.then ?_
  refine WP.cond rfl (fun hc1 => ?_) (fun hc1 => ?_)
  · try simp only [decide_eq_true_eq, decide_eq_false_iff_not, Bool.and_eq_true, Bool.or_eq_true, Bool.and_eq_false_iff, Bool.or_eq_false_iff, Bool.not_eq_true', Bool.not_eq_false', ne_eq, Decidable.not_not] at hc1
    refine WP.seq ?_
    refine WP.region ?_
    refine WPl.v rfl (o_assign rfl) ?_
    refine WPl.nil ?_
    refine EX.then ?_
    refine WP.ret ?_
    refine EX.ret_then ?_
    have hn1 : n = 0 := by omega
    subst hn1
    rw [show f.holds plan t a 0 d = true from rfl]
    exact EX.fin id (.inl rfl) rfl (.tmp rfl .nil) rfl (by simp [SV.res, El.res, At.res, keys]) trivial (by simp) (by simp)
  · try simp only [decide_eq_true_eq, decide_eq_false_iff_not, Bool.and_eq_true, Bool.or_eq_true, Bool.and_eq_false_iff, Bool.or_eq_false_iff, Bool.not_eq_true', Bool.not_eq_false', ne_eq, Decidable.not_not] at hc1
    obtain ⟨m, rfl⟩ : ∃ m, n = m + 1 := ⟨n - 1, by omega⟩
    have hni : (night + 1).toNat = f.nights.length - m := by omega
    have hnn : ((f.nights.length - (m + 1) : Nat) : Int) = night := by omega
    have hl1 := hlh night.toNat (by omega)
    have hl2 := hhi night.toNat (by omega)
    have hnb := Night.bnds (hn.at (show night.toNat < f.nights.length by omega))
    rw [show ((night.toNat : Nat) : Int) = night by omega] at hnb
    have hst : hiTo f.nights (night + 1).toNat = hiTo f.nights night.toNat + (nth f.nights night).hi := by rw [show (night + 1).toNat = night.toNat + 1 by omega, hiTo, show ((night.toNat : Nat) : Int) = night by omega]
    refine WP.skip ?_
    refine EX.then ?_
    refine WP.seq ?_
    refine WP.seq ?_
    refine WP.draw (nf := 5) [⟨[20, 21, 22, 23, 24, 25, 26], [4], [], [], []⟩, ⟨[19, 21, 22, 23, 24, 25, 26], [4], [], [], []⟩, ⟨[19, 20, 22, 23, 24, 25, 26], [4], [], [], []⟩, ⟨[19, 20, 21, 23, 24, 25, 26], [4], [], [], []⟩, ⟨[19, 20, 21, 22, 24, 25], [], [], [], []⟩, ⟨[19, 20, 21, 22, 23, 25], [], [], [], []⟩, ⟨[19, 20, 21, 22, 23, 24], [], [], [], []⟩, ⟨[19, 20, 21, 22], [], [4], [4], [4, 5, 6]⟩, ⟨[], [], [], [], [0, 1, 2, 3, 4, 5, 6, 7]⟩, ⟨[], [], [], [], [0, 1, 2, 3, 4, 5, 6, 7, 8]⟩] (by kernel_rfl) (by kernel_rfl) ?_
    refine DRQ.v rfl rfl rfl (o_ldpa G31 rfl rfl rfl) ?_
    refine DRQ.v rfl rfl rfl (o_move rfl) ?_
    refine DRQ.v rfl rfl rfl (o_move rfl) ?_
    refine DRQ.v rfl rfl rfl (o_move rfl) ?_
    refine DRQ.v rfl rfl rfl (o_ldpa G31 rfl rfl rfl) ?_
    refine DRQ.v rfl rfl rfl (o_move rfl) ?_
    refine DRQ.v rfl rfl rfl (o_move rfl) ?_
    refine DRQ.cs rfl rfl rfl rfl (o_sig 4 (ren [(0, 0), (1, 1), (2, 2)]) (c82 f plan night (by omega) (by omega) (by omega) (fun i hi => ⟨(hpb i hi).1, fun j hj => by have := (hpb i hi).2 j hj; omega⟩)) e82 rfl rfl rfl w82 ⟨(lx rfl), (lx rfl), (lx rfl), trivial⟩ r82) ?_
    refine DRQ.cs rfl rfl rfl rfl (o_sig 5 (ren [(0, 0), (1, 1), (2, 4)]) (c41 f t a d (upTo f.shop.pigs.length plan (night + 1).toNat) hs (fun j hj => by rw [hni] at hj ⊢; have := hub (f.nights.length - m) (by omega) j hj; omega) (by rw [hul]; exact Nat.le_refl _) (by omega) (by omega) (by omega)) e41 rfl rfl rfl w41 ⟨(lx rfl), (lx rfl), (lx rfl), trivial⟩ r41) ?_
    refine DRQ.v rfl rfl rfl (o_not rfl) ?_
    refine DRQ.nil' ?_
    refine EX.then ?_
    refine WP.cond rfl (fun hc2 => ?_) (fun hc2 => ?_)
    · try simp only [decide_eq_true_eq, decide_eq_false_iff_not, Bool.and_eq_true, Bool.or_eq_true, Bool.and_eq_false_iff, Bool.or_eq_false_iff, Bool.not_eq_true', Bool.not_eq_false', ne_eq, Decidable.not_not] at hc2
      refine WP.seq ?_
      refine WP.region ?_
      refine WPl.v rfl (o_assign rfl) ?_
      refine WPl.nil ?_
      refine EX.then ?_
      refine WP.ret ?_
      refine EX.ret_then ?_
      rw [hni] at hc2
      rw [show f.holds plan t a (m + 1) d = false from by simp [Fnd.holds]; (try simp at hc2); simp [hc2]]
      exact EX.fin id (.inl rfl) rfl (.tmp rfl .nil) rfl (by simp [SV.res, El.res, At.res, keys]) trivial (by simp) (by simp)
    · try simp only [decide_eq_true_eq, decide_eq_false_iff_not, Bool.and_eq_true, Bool.or_eq_true, Bool.and_eq_false_iff, Bool.or_eq_false_iff, Bool.not_eq_true', Bool.not_eq_false', ne_eq, Decidable.not_not] at hc2
      refine WP.skip ?_
      refine EX.then ?_
      refine WP.seq ?_
      refine WP.seq ?_
      refine WP.region ?_
      refine WPl.v rfl (o_fldp F31_1 rfl) ?_
      refine WPl.v rfl (o_ldp S29 rfl rfl rfl) ?_
      refine WPl.v rfl (o_move rfl) ?_
      refine WPl.x 5 6 rfl rfl rfl (o_idx L29 rfl (lx rfl) rfl (by first | omega | (simp; omega)) (by first | omega | (simp; omega))) ?_
      refine WPl.v rfl (o_fldq F75_0 rfl (lx rfl)) ?_
      refine WPl.v rfl (o_flde F23_0 rfl (lx rfl)) ?_
      refine WPl.v rfl (o_lde S3 rfl (lx rfl) (strI rfl)) ?_
      refine WPl.v rfl (o_assign rfl) ?_
      refine WPl.nil ?_
      refine EX.then ?_
      refine WP.block ?_
      refine WP.loop (Gh := Nat) (fun j => ⟨6, [(1, .e (.a (.q 2))), (2, .i (night)), (3, .i (t)), (4, .i (a)), (5, .i (d)), (6, .e (.a (.p 3 (0)))), (12, .b (false)), (13, .i ((nth f.nights night).lo + (j : Int)))], [(0, PL EPig (f.shop.pigs)), (1, PL ENight (f.nights)), (2, PL (EP.sl EP.int) (plan))], [(3, .blk [ai (f.shop.pounds), ai (f.shop.tl), ai (f.shop.th), ai (f.shop.al), ai (f.shop.ah), ai (f.shop.room), ai (f.shop.tpl), ai (f.shop.tph), ai (f.shop.apl), ai (f.shop.aph), .q 0, .q 1] 31)], [], []⟩) (fun j => j ≤ ((nth f.nights night).hi - (nth f.nights night).lo + 1).toNat ∧ allI (fun (j : Nat) => !f.holds plan t a m (d + (nth f.nights night).lo + (j : Int))) j = true) (fun j => ((nth f.nights night).hi - (nth f.nights night).lo + 1).toNat - j) (0) id ?_ (LeR.of ⟨rfl, rfl, rfl, rfl, rfl, rfl, rfl, (congrArg (fun z => some (SV.i z)) (show ((nth f.nights night).lo) = ((fun j => (nth f.nights night).lo + (j : Int)) 0) from by simp)), trivial⟩ ⟨(lx rfl), (lx rfl), (lx rfl), trivial⟩ ⟨rfl, trivial⟩ rfl rfl rfl rfl rfl) ?_
      · exact ⟨by omega, rfl⟩
      intro j hφ
      obtain ⟨hj, hall⟩ := hφ
      refine WP.seq ?_
      refine WP.seq ?_
      refine WP.region ?_
      refine WPl.v rfl (o_move rfl) ?_
      refine WPl.v rfl (o_fldp F31_1 rfl) ?_
      refine WPl.v rfl (o_ldp S29 rfl rfl rfl) ?_
      refine WPl.v rfl (o_move rfl) ?_
      refine WPl.x 6 7 rfl rfl rfl (o_idx L29 rfl (lx rfl) rfl (by first | omega | (simp; omega)) (by first | omega | (simp; omega))) ?_
      refine WPl.v rfl (o_fldq F75_0 rfl (lx rfl)) ?_
      refine WPl.v rfl (o_flde F23_1 rfl (lx rfl)) ?_
      refine WPl.v rfl (o_lde S3 rfl (lx rfl) (strI rfl)) ?_
      refine WPl.v rfl (o_leq rfl rfl) ?_
      refine WPl.nil ?_
      refine EX.then ?_
      refine WP.cond rfl (fun hc3 => ?_) (fun hc3 => ?_)
      · try simp only [decide_eq_true_eq, decide_eq_false_iff_not, Bool.and_eq_true, Bool.or_eq_true, Bool.and_eq_false_iff, Bool.or_eq_false_iff, Bool.not_eq_true', Bool.not_eq_false', ne_eq, Decidable.not_not] at hc3
        refine WP.skip ?_
        refine EX.then ?_
        refine WP.seq ?_
        refine WP.block ?_
        refine WP.seq ?_
        refine WP.region ?_
        refine WPl.v rfl (o_ldpa G31 rfl rfl rfl) ?_
        refine WPl.v rfl (o_move rfl) ?_
        refine WPl.v rfl (o_move rfl) ?_
        refine WPl.v rfl (o_add rfl rfl (by first | omega | (simp; omega)) (by first | omega | (simp; omega))) ?_
        refine WPl.v rfl (o_move rfl) ?_
        refine WPl.v rfl (o_move rfl) ?_
        refine WPl.v rfl (o_move rfl) ?_
        refine WPl.v rfl (o_move rfl) ?_
        refine WPl.v rfl (o_add rfl rfl (by first | omega | (simp; omega)) (by first | omega | (simp; omega))) ?_
        refine WPl.cs 7 rfl rfl rfl rfl (o_sig 7 (ren [(0, 0), (1, 1), (2, 2)]) (c92 f plan (night + 1) t a (d + ((nth f.nights night).lo + (j : Int))) m hf hp0 (by omega) (by omega) ht ha (by rw [hst]; omega)) e92 rfl rfl rfl w92 ⟨(lx rfl), (lx rfl), (lx rfl), trivial⟩ r92) ?_
        refine WPl.nil ?_
        refine EX.then ?_
        refine WP.cond rfl (fun hc4 => ?_) (fun hc4 => ?_)
        · try simp only [decide_eq_true_eq, decide_eq_false_iff_not, Bool.and_eq_true, Bool.or_eq_true, Bool.and_eq_false_iff, Bool.or_eq_false_iff, Bool.not_eq_true', Bool.not_eq_false', ne_eq, Decidable.not_not] at hc4
          refine WP.seq ?_
          refine WP.region ?_
          refine WPl.v rfl (o_assign rfl) ?_
          refine WPl.nil ?_
          refine EX.then ?_
          refine WP.ret ?_
          refine EX.ret_blk ?_
          refine EX.ret_then ?_
          refine EX.ret_then ?_
          refine EX.ret_blk ?_
          refine EX.ret_then ?_
          rw [← Int.add_assoc] at hc4
          rw [hni] at hc2
          rw [show f.holds plan t a (m + 1) d = true from by simp only [Fnd.holds, hnn, allI_false (p := fun (j : Nat) => !f.holds plan t a m (d + (nth f.nights night).lo + (j : Int))) (show j < ((nth f.nights night).hi - (nth f.nights night).lo + 1).toNat by omega) (by simpa using hc4)]; (try simp at hc2); simp [hc2]]
          exact EX.fin id (.inl rfl) rfl (.tmp rfl .nil) rfl (by simp [SV.res, El.res, At.res, keys]) trivial (by simp) (by simp)
        · try simp only [decide_eq_true_eq, decide_eq_false_iff_not, Bool.and_eq_true, Bool.or_eq_true, Bool.and_eq_false_iff, Bool.or_eq_false_iff, Bool.not_eq_true', Bool.not_eq_false', ne_eq, Decidable.not_not] at hc4
          refine WP.skip ?_
          refine EX.blk ?_
          refine EX.then ?_
          refine WP.region ?_
          refine WPl.v rfl (o_move rfl) ?_
          refine WPl.v rfl (o_add rfl rfl (by first | omega | (simp; omega)) (by first | omega | (simp; omega))) ?_
          refine WPl.v rfl (o_assign rfl) ?_
          refine WPl.nil ?_
          refine EX.again (j + 1) id (by exact ⟨by omega, by rw [← Int.add_assoc] at hc4; simp [allI, hall]; simpa using hc4⟩) (by omega) (LeR.of ⟨rfl, rfl, rfl, rfl, rfl, rfl, rfl, (congrArg (fun z => some (SV.i z)) (show (((nth f.nights night).lo + (j : Int)) + 1) = ((fun j => (nth f.nights night).lo + (j : Int)) (j + 1)) from by show (nth f.nights night).lo + (j : Int) + 1 = (nth f.nights night).lo + ((j + 1 : Nat) : Int); omega)), trivial⟩ ⟨(lx rfl), (lx rfl), (lx rfl), trivial⟩ ⟨rfl, trivial⟩ rfl rfl rfl rfl rfl)
      · try simp only [decide_eq_true_eq, decide_eq_false_iff_not, Bool.and_eq_true, Bool.or_eq_true, Bool.and_eq_false_iff, Bool.or_eq_false_iff, Bool.not_eq_true', Bool.not_eq_false', ne_eq, Decidable.not_not] at hc3
        refine WP.exit ?_
        refine EX.exit_then ?_
        refine EX.exit_then ?_
        refine EX.exit_blk ?_
        refine EX.then ?_
        refine WP.seq ?_
        refine WP.region ?_
        refine WPl.v rfl (o_assign rfl) ?_
        refine WPl.nil ?_
        refine EX.then ?_
        refine WP.ret ?_
        have hj2 : j = ((nth f.nights night).hi - (nth f.nights night).lo + 1).toNat := by omega
        subst hj2
        rw [show f.holds plan t a (m + 1) d = false from by simp only [Fnd.holds, hnn, hall]; simp]
        exact EX.fin id (.inl rfl) rfl (.tmp rfl .nil) rfl (by simp [SV.res, El.res, At.res, keys]) trivial (by simp) (by simp)
termination_by n
decreasing_by all_goals omega
theorem w24 {f : Fnd} {plan : List (List Int)} : ∀ x ∈ ([.e (.g [ai (f.shop.pounds), ai (f.shop.tl), ai (f.shop.th), ai (f.shop.al), ai (f.shop.ah), ai (f.shop.room), ai (f.shop.tpl), ai (f.shop.tph), ai (f.shop.apl), ai (f.shop.aph), .q 0, .q 1]), .e (.a (.q 2))] : List SV), x.res (keys (α := Pred) [(0, PL EPig (f.shop.pigs)), (1, PL ENight (f.nights)), (2, PL (EP.sl EP.int) (plan))]) := by simp [SV.res, El.res, At.res, keys]
theorem r24 {f : Fnd} {plan : List (List Int)} : SV.res (keys (α := Pred) []) (.t [.a (ai (f.safeK plan)), .a (ai (f.openE plan))]) := by simp [SV.res, El.res, At.res, keys]
set_option maxHeartbeats 4000000 in
theorem c24 (f : Fnd) (plan : List (List Int))  : Sig Try.prog 24 [.e (.g [ai (f.shop.pounds), ai (f.shop.tl), ai (f.shop.th), ai (f.shop.al), ai (f.shop.ah), ai (f.shop.room), ai (f.shop.tpl), ai (f.shop.tph), ai (f.shop.apl), ai (f.shop.aph), .q 0, .q 1]), .e (.a (.q 2))] [(0, PL EPig (f.shop.pigs)), (1, PL ENight (f.nights)), (2, PL (EP.sl EP.int) (plan))] (.t [.a (ai (f.safeK plan)), .a (ai (f.openE plan))]) [] := by
  refine Sig.intro Try.func24 rfl 3 [(0, .e (.g [ai (f.shop.pounds), ai (f.shop.tl), ai (f.shop.th), ai (f.shop.al), ai (f.shop.ah), ai (f.shop.room), ai (f.shop.tpl), ai (f.shop.tph), ai (f.shop.apl), ai (f.shop.aph), .q 0, .q 1])), (1, .e (.a (.q 2)))] rfl w24 rfl rfl fun I w => ?_
  refine WP.seq ?_
  refine WP.region ?_
  refine WPl.l 3 4 rfl rfl rfl (o_boxg rfl) ?_
  refine WPl.v rfl (o_assign rfl) ?_
  refine WPl.v rfl (o_assign rfl) ?_
  refine WPl.nil ?_
  refine EX.then ?_
  refine WP.seq ?_
  refine WP.seq ?_
  refine WP.region ?_
  refine WPl.v rfl (o_ldpa G31 rfl rfl rfl) ?_
  refine WPl.v rfl (o_move rfl) ?_
  refine WPl.cs 4 rfl rfl rfl rfl (o_sig 4 (ren [(0, 0), (1, 1), (2, 2)]) (c81 f plan) e81 rfl rfl rfl w81 ⟨(lx rfl), (lx rfl), (lx rfl), trivial⟩ r81) ?_
  refine WPl.v rfl (o_assign rfl) ?_
  refine WPl.nil ?_
  refine EX.then ?_
  refine WP.seq ?_
  refine WP.region ?_
  refine WPl.v rfl (o_move rfl) ?_
  refine WPl.v rfl (o_neq rfl rfl) ?_
  refine WPl.nil ?_
  refine EX.then ?_
  refine WP.cond rfl (fun hc1 => ?_) (fun hc1 => ?_)
  · try simp only [decide_eq_true_eq, decide_eq_false_iff_not, Bool.and_eq_true, Bool.or_eq_true, Bool.and_eq_false_iff, Bool.or_eq_false_iff, Bool.not_eq_true', Bool.not_eq_false', ne_eq, Decidable.not_not] at hc1
    refine WP.seq ?_
    refine WP.region ?_
    refine WPl.v rfl (o_move rfl) ?_
    refine WPl.v rfl (o_assign rfl) ?_
    refine WPl.v rfl (o_assign rfl) ?_
    refine WPl.nil ?_
    refine EX.then ?_
    refine WP.ret ?_
    refine EX.ret_then ?_
    rw [show f.safeK plan = 0 from by simp [Fnd.safeK, hc1]]
    exact EX.fin id (.inl rfl) rfl (.tmp rfl (.tmp rfl .nil)) rfl (by simp [SV.res, El.res, At.res, keys]) trivial (by simp) (by simp)
  · try simp only [decide_eq_true_eq, decide_eq_false_iff_not, Bool.and_eq_true, Bool.or_eq_true, Bool.and_eq_false_iff, Bool.or_eq_false_iff, Bool.not_eq_true', Bool.not_eq_false', ne_eq, Decidable.not_not] at hc1
    have h0 : f.openE plan = 0 := by simpa using hc1
    have h1 := Fnd.openE_eq h0
    have hf := h1.1
    have hp := Fnd.planB h1.1 h1.2
    have htb := tl_bnd (Fnd.shopOK hf)
    have hlh := (lohi_bnd (Fnd.nightsOK hf) 0 (by omega))
    refine WP.skip ?_
    refine EX.then ?_
    refine WP.seq ?_
    refine WP.seq ?_
    refine WP.region ?_
    refine WPl.v rfl (o_ldpa G31 rfl rfl rfl) ?_
    refine WPl.v rfl (o_move rfl) ?_
    refine WPl.cs 5 rfl rfl rfl rfl (o_sig 4 (ren [(0, 0), (1, 1), (2, 2)]) (c91 f plan hf hp) e91 rfl rfl rfl w91 ⟨(lx rfl), (lx rfl), (lx rfl), trivial⟩ r91) ?_
    refine WPl.v rfl (o_lenq L44 rfl (lx rfl)) ?_
    refine WPl.v rfl (o_eql rfl rfl) ?_
    refine WPl.nil ?_
    refine EX.then ?_
    refine WP.cond rfl (fun hc2 => ?_) (fun hc2 => ?_)
    · try simp only [decide_eq_true_eq, decide_eq_false_iff_not, Bool.and_eq_true, Bool.or_eq_true, Bool.and_eq_false_iff, Bool.or_eq_false_iff, Bool.not_eq_true', Bool.not_eq_false', ne_eq, Decidable.not_not] at hc2
      refine WP.seq ?_
      refine WP.region ?_
      refine WPl.v rfl (o_assign rfl) ?_
      refine WPl.v rfl (o_assign rfl) ?_
      refine WPl.nil ?_
      refine EX.then ?_
      refine WP.ret ?_
      refine EX.ret_then ?_
      rw [show f.safeK plan = 1 from by simp at hc2; simp [Fnd.safeK, h0, hc2], h0]
      exact EX.fin id (.inl rfl) rfl (.tmp rfl (.tmp rfl .nil)) rfl (by simp [SV.res, El.res, At.res, keys]) trivial (by simp) (by simp)
    · try simp only [decide_eq_true_eq, decide_eq_false_iff_not, Bool.and_eq_true, Bool.or_eq_true, Bool.and_eq_false_iff, Bool.or_eq_false_iff, Bool.not_eq_true', Bool.not_eq_false', ne_eq, Decidable.not_not] at hc2
      refine WP.skip ?_
      refine EX.then ?_
      refine WP.seq ?_
      refine WP.region ?_
      refine WPl.v rfl (o_fldp F31_0 rfl) ?_
      refine WPl.v rfl (o_fldp F28_0 rfl) ?_
      refine WPl.v rfl (o_ldpg G25 rfl rfl rfl) ?_
      refine WPl.l 5 6 rfl rfl rfl (o_alloc Z25) ?_
      refine WPl.s1 (o_stag G25 rfl rfl rfl ⟨rfl, rfl, rfl, rfl, rfl, trivial⟩ rfl rfl) ?_
      refine WPl.nil ?_
      refine EX.then ?_
      refine WP.seq ?_
      refine WP.seq ?_
      refine WP.region ?_
      refine WPl.v rfl (o_fldp F25_1 rfl) ?_
      refine WPl.v rfl (o_fldp F23_0 rfl) ?_
      refine WPl.v rfl (o_ldp S3 rfl rfl rfl) ?_
      refine WPl.v rfl (o_assign rfl) ?_
      refine WPl.nil ?_
      refine EX.then ?_
      refine WP.block ?_
      refine WP.loop (Gh := Nat) (fun i => ⟨6, [(1, .e (.a (.q 2))), (2, .e (.a (.p 3 (0)))), (4, .i (0)), (5, .i (0)), (7, .e (.a (.p 5 (0)))), (8, .i (f.shop.tl + (i : Int)))], [(0, PL EPig (f.shop.pigs)), (1, PL ENight (f.nights)), (2, PL (EP.sl EP.int) (plan))], [(3, .blk [ai (f.shop.pounds), ai (f.shop.tl), ai (f.shop.th), ai (f.shop.al), ai (f.shop.ah), ai (f.shop.room), ai (f.shop.tpl), ai (f.shop.tph), ai (f.shop.apl), ai (f.shop.aph), .q 0, .q 1] 31), (5, .blk [ai (f.shop.pounds), ai (f.shop.tl), ai (f.shop.th), ai (f.shop.al), ai (f.shop.ah)] 25)], [], []⟩) (fun i => i ≤ (f.shop.th - f.shop.tl + 1).toNat ∧ allI (f.noneAt plan) i = true) (fun i => (f.shop.th - f.shop.tl + 1).toNat - i) (0) id ?_ (LeR.of ⟨rfl, rfl, rfl, rfl, rfl, (congrArg (fun z => some (SV.i z)) (show (f.shop.tl) = ((fun i => f.shop.tl + (i : Int)) 0) from by simp)), trivial⟩ ⟨(lx rfl), (lx rfl), (lx rfl), trivial⟩ ⟨rfl, rfl, trivial⟩ rfl rfl rfl rfl rfl) ?_
      · exact ⟨by omega, rfl⟩
      intro i hφ
      obtain ⟨hi, hall⟩ := hφ
      refine WP.seq ?_
      refine WP.seq ?_
      refine WP.region ?_
      refine WPl.v rfl (o_move rfl) ?_
      refine WPl.v rfl (o_fldp F25_1 rfl) ?_
      refine WPl.v rfl (o_fldp F23_1 rfl) ?_
      refine WPl.v rfl (o_ldp S3 rfl rfl rfl) ?_
      refine WPl.v rfl (o_leq rfl rfl) ?_
      refine WPl.nil ?_
      refine EX.then ?_
      refine WP.cond rfl (fun hc3 => ?_) (fun hc3 => ?_)
      · try simp only [decide_eq_true_eq, decide_eq_false_iff_not, Bool.and_eq_true, Bool.or_eq_true, Bool.and_eq_false_iff, Bool.or_eq_false_iff, Bool.not_eq_true', Bool.not_eq_false', ne_eq, Decidable.not_not] at hc3
        refine WP.skip ?_
        refine EX.then ?_
        refine WP.seq ?_
        refine WP.block ?_
        refine WP.seq ?_
        refine WP.region ?_
        refine WPl.v rfl (o_fldp F25_2 rfl) ?_
        refine WPl.v rfl (o_fldp F23_0 rfl) ?_
        refine WPl.v rfl (o_ldp S3 rfl rfl rfl) ?_
        refine WPl.v rfl (o_assign rfl) ?_
        refine WPl.nil ?_
        refine EX.then ?_
        refine WP.block ?_
        refine WP.loop (Gh := Nat) (fun j => ⟨6, [(1, .e (.a (.q 2))), (2, .e (.a (.p 3 (0)))), (4, .i (0)), (5, .i (0)), (7, .e (.a (.p 5 (0)))), (8, .i (f.shop.tl + (i : Int))), (27, .i (f.shop.tl + (i : Int))), (28, .e (.a (.p 5 (1)))), (29, .e (.a (.p 5 (2)))), (30, .i (f.shop.th)), (31, .b (decide ((f.shop.tl + (i : Int)) ≤ f.shop.th))), (34, .e (.a (.p 5 (3)))), (35, .e (.a (.p 5 (3)))), (36, .i (f.shop.al)), (9, .i (f.shop.al + (j : Int)))], [(0, PL EPig (f.shop.pigs)), (1, PL ENight (f.nights)), (2, PL (EP.sl EP.int) (plan))], [(3, .blk [ai (f.shop.pounds), ai (f.shop.tl), ai (f.shop.th), ai (f.shop.al), ai (f.shop.ah), ai (f.shop.room), ai (f.shop.tpl), ai (f.shop.tph), ai (f.shop.apl), ai (f.shop.aph), .q 0, .q 1] 31), (5, .blk [ai (f.shop.pounds), ai (f.shop.tl), ai (f.shop.th), ai (f.shop.al), ai (f.shop.ah)] 25)], [], []⟩) (fun j => j ≤ (f.shop.ah - f.shop.al + 1).toNat ∧ allI (fun (j : Nat) => !f.holds plan (f.shop.tl + (i : Int)) (f.shop.al + (j : Int)) f.nights.length 0) j = true) (fun j => (f.shop.ah - f.shop.al + 1).toNat - j) (0) id ?_ (LeR.of ⟨rfl, rfl, rfl, rfl, rfl, rfl, rfl, rfl, rfl, rfl, rfl, rfl, rfl, rfl, (congrArg (fun z => some (SV.i z)) (show (f.shop.al) = ((fun j => f.shop.al + (j : Int)) 0) from by simp)), trivial⟩ ⟨(lx rfl), (lx rfl), (lx rfl), trivial⟩ ⟨rfl, rfl, trivial⟩ rfl rfl rfl rfl rfl) ?_
        · exact ⟨by omega, rfl⟩
        intro j hφ
        obtain ⟨hj, hallj⟩ := hφ
        refine WP.seq ?_
        refine WP.seq ?_
        refine WP.region ?_
        refine WPl.v rfl (o_move rfl) ?_
        refine WPl.v rfl (o_fldp F25_2 rfl) ?_
        refine WPl.v rfl (o_fldp F23_1 rfl) ?_
        refine WPl.v rfl (o_ldp S3 rfl rfl rfl) ?_
        refine WPl.v rfl (o_leq rfl rfl) ?_
        refine WPl.nil ?_
        refine EX.then ?_
        refine WP.cond rfl (fun hc4 => ?_) (fun hc4 => ?_)
        · try simp only [decide_eq_true_eq, decide_eq_false_iff_not, Bool.and_eq_true, Bool.or_eq_true, Bool.and_eq_false_iff, Bool.or_eq_false_iff, Bool.not_eq_true', Bool.not_eq_false', ne_eq, Decidable.not_not] at hc4
          refine WP.skip ?_
          refine EX.then ?_
          refine WP.seq ?_
          refine WP.block ?_
          refine WP.seq ?_
          refine WP.region ?_
          refine WPl.v rfl (o_ldpa G31 rfl rfl rfl) ?_
          refine WPl.v rfl (o_move rfl) ?_
          refine WPl.v rfl (o_move rfl) ?_
          refine WPl.v rfl (o_move rfl) ?_
          refine WPl.cs 6 rfl rfl rfl rfl (o_sig 6 (ren [(0, 0), (1, 1), (2, 2)]) (c92 f plan 0 (f.shop.tl + (i : Int)) (f.shop.al + (j : Int)) 0 f.nights.length hf hp (by omega) (by omega) (by omega) (by omega) (by simp [hiTo])) e92 rfl rfl rfl w92 ⟨(lx rfl), (lx rfl), (lx rfl), trivial⟩ r92) ?_
          refine WPl.nil ?_
          refine EX.then ?_
          refine WP.cond rfl (fun hc5 => ?_) (fun hc5 => ?_)
          · try simp only [decide_eq_true_eq, decide_eq_false_iff_not, Bool.and_eq_true, Bool.or_eq_true, Bool.and_eq_false_iff, Bool.or_eq_false_iff, Bool.not_eq_true', Bool.not_eq_false', ne_eq, Decidable.not_not] at hc5
            refine WP.seq ?_
            refine WP.region ?_
            refine WPl.v rfl (o_assign rfl) ?_
            refine WPl.v rfl (o_assign rfl) ?_
            refine WPl.nil ?_
            refine EX.then ?_
            refine WP.ret ?_
            refine EX.ret_blk ?_
            refine EX.ret_then ?_
            refine EX.ret_then ?_
            refine EX.ret_blk ?_
            refine EX.ret_blk ?_
            refine EX.ret_then ?_
            refine EX.ret_then ?_
            refine EX.ret_blk ?_
            refine EX.ret_then ?_
            rw [show f.safeK plan = 3 from by have e := allI_false (p := f.noneAt plan) (show i < (f.shop.th - f.shop.tl + 1).toNat by omega) (allI_false (p := fun (j : Nat) => !f.holds plan (f.shop.tl + (i : Int)) (f.shop.al + (j : Int)) f.nights.length 0) (show j < (f.shop.ah - f.shop.al + 1).toNat by omega) (by simpa using hc5)); simp [Fnd.safeK, h0, e]; simpa using hc2, h0]
            exact EX.fin id (.inl rfl) rfl (.tmp rfl (.tmp rfl .nil)) rfl (by simp [SV.res, El.res, At.res, keys]) trivial (by simp) (by simp)
          · try simp only [decide_eq_true_eq, decide_eq_false_iff_not, Bool.and_eq_true, Bool.or_eq_true, Bool.and_eq_false_iff, Bool.or_eq_false_iff, Bool.not_eq_true', Bool.not_eq_false', ne_eq, Decidable.not_not] at hc5
            refine WP.skip ?_
            refine EX.blk ?_
            refine EX.then ?_
            refine WP.region ?_
            refine WPl.v rfl (o_move rfl) ?_
            refine WPl.v rfl (o_add rfl rfl (by first | omega | (simp; omega)) (by first | omega | (simp; omega))) ?_
            refine WPl.v rfl (o_assign rfl) ?_
            refine WPl.nil ?_
            refine EX.again (j + 1) id (by exact ⟨by omega, by simp [allI, hallj]; simpa using hc5⟩) (by omega) (LeR.of ⟨rfl, rfl, rfl, rfl, rfl, rfl, rfl, rfl, rfl, rfl, rfl, rfl, rfl, rfl, (congrArg (fun z => some (SV.i z)) (show ((f.shop.al + (j : Int)) + 1) = ((fun j => f.shop.al + (j : Int)) (j + 1)) from by show f.shop.al + (j : Int) + 1 = f.shop.al + ((j + 1 : Nat) : Int); omega)), trivial⟩ ⟨(lx rfl), (lx rfl), (lx rfl), trivial⟩ ⟨rfl, rfl, trivial⟩ rfl rfl rfl rfl rfl)
        · try simp only [decide_eq_true_eq, decide_eq_false_iff_not, Bool.and_eq_true, Bool.or_eq_true, Bool.and_eq_false_iff, Bool.or_eq_false_iff, Bool.not_eq_true', Bool.not_eq_false', ne_eq, Decidable.not_not] at hc4
          refine WP.exit ?_
          refine EX.exit_then ?_
          refine EX.exit_then ?_
          refine EX.exit_blk ?_
          refine EX.blk ?_
          refine EX.then ?_
          refine WP.region ?_
          refine WPl.v rfl (o_move rfl) ?_
          refine WPl.v rfl (o_add rfl rfl (by first | omega | (simp; omega)) (by first | omega | (simp; omega))) ?_
          refine WPl.v rfl (o_assign rfl) ?_
          refine WPl.nil ?_
          refine EX.again (i + 1) id (by exact ⟨by omega, by have e : j = (f.shop.ah - f.shop.al + 1).toNat := (by omega); simp only [allI, hall, Bool.true_and, Fnd.noneAt]; rw [← e]; exact hallj⟩) (by omega) (LeR.of ⟨rfl, rfl, rfl, rfl, rfl, (congrArg (fun z => some (SV.i z)) (show ((f.shop.tl + (i : Int)) + 1) = ((fun i => f.shop.tl + (i : Int)) (i + 1)) from by show f.shop.tl + (i : Int) + 1 = f.shop.tl + ((i + 1 : Nat) : Int); omega)), trivial⟩ ⟨(lx rfl), (lx rfl), (lx rfl), trivial⟩ ⟨rfl, rfl, trivial⟩ rfl rfl rfl rfl rfl)
      · try simp only [decide_eq_true_eq, decide_eq_false_iff_not, Bool.and_eq_true, Bool.or_eq_true, Bool.and_eq_false_iff, Bool.or_eq_false_iff, Bool.not_eq_true', Bool.not_eq_false', ne_eq, Decidable.not_not] at hc3
        refine WP.exit ?_
        refine EX.exit_then ?_
        refine EX.exit_then ?_
        refine EX.exit_blk ?_
        refine EX.then ?_
        refine WP.seq ?_
        refine WP.region ?_
        refine WPl.v rfl (o_assign rfl) ?_
        refine WPl.v rfl (o_assign rfl) ?_
        refine WPl.nil ?_
        refine EX.then ?_
        refine WP.ret ?_
        have e : i = (f.shop.th - f.shop.tl + 1).toNat := by omega
        subst e
        rw [show f.safeK plan = 2 from by simp [Fnd.safeK, h0, hall]; simpa using hc2, h0]
        exact EX.fin id (.inl rfl) rfl (.tmp rfl (.tmp rfl .nil)) rfl (by simp [SV.res, El.res, At.res, keys]) trivial (by simp) (by simp)
theorem w29 {f : Fnd} : ∀ x ∈ ([.e (.g [ai (f.shop.pounds), ai (f.shop.tl), ai (f.shop.th), ai (f.shop.al), ai (f.shop.ah), ai (f.shop.room), ai (f.shop.tpl), ai (f.shop.tph), ai (f.shop.apl), ai (f.shop.aph), .q 0, .q 1])] : List SV), x.res (keys (α := Pred) [(0, PL EPig (f.shop.pigs)), (1, PL ENight (f.nights))]) := by simp [SV.res, El.res, At.res, keys]
theorem r29 {f : Fnd} : SV.res (keys (α := Pred) []) (.t [.a (ai (f.lastN)), .a (ai (errW f.chk))]) := by simp [SV.res, El.res, At.res, keys]
set_option maxHeartbeats 4000000 in
theorem c29 (f : Fnd)  : Sig Try.prog 29 [.e (.g [ai (f.shop.pounds), ai (f.shop.tl), ai (f.shop.th), ai (f.shop.al), ai (f.shop.ah), ai (f.shop.room), ai (f.shop.tpl), ai (f.shop.tph), ai (f.shop.apl), ai (f.shop.aph), .q 0, .q 1])] [(0, PL EPig (f.shop.pigs)), (1, PL ENight (f.nights))] (.t [.a (ai (f.lastN)), .a (ai (errW f.chk))]) [] := by
  refine Sig.intro Try.func29 rfl 2 [(0, .e (.g [ai (f.shop.pounds), ai (f.shop.tl), ai (f.shop.th), ai (f.shop.al), ai (f.shop.ah), ai (f.shop.room), ai (f.shop.tpl), ai (f.shop.tph), ai (f.shop.apl), ai (f.shop.aph), .q 0, .q 1]))] rfl w29 rfl rfl fun I w => ?_
  refine WP.seq ?_
  refine WP.region ?_
  refine WPl.l 2 3 rfl rfl rfl (o_boxg rfl) ?_
  refine WPl.v rfl (o_assign rfl) ?_
  refine WPl.v rfl (o_assign rfl) ?_
  refine WPl.nil ?_
  refine EX.then ?_
  refine WP.seq ?_
  refine WP.seq ?_
  refine WP.region ?_
  refine WPl.v rfl (o_ldpa G31 rfl rfl rfl) ?_
  refine WPl.cs 3 rfl rfl rfl rfl (o_sig 3 (ren [(0, 0), (1, 1)]) (c22 f) e22 rfl rfl rfl w22 ⟨(lx rfl), (lx rfl), trivial⟩ r22) ?_
  refine WPl.v rfl (o_assign rfl) ?_
  refine WPl.nil ?_
  refine EX.then ?_
  refine WP.seq ?_
  refine WP.region ?_
  refine WPl.v rfl (o_move rfl) ?_
  refine WPl.v rfl (o_neq rfl rfl) ?_
  refine WPl.nil ?_
  refine EX.then ?_
  refine WP.cond rfl (fun hc1 => ?_) (fun hc1 => ?_)
  · try simp only [decide_eq_true_eq, decide_eq_false_iff_not, Bool.and_eq_true, Bool.or_eq_true, Bool.and_eq_false_iff, Bool.or_eq_false_iff, Bool.not_eq_true', Bool.not_eq_false', ne_eq, Decidable.not_not] at hc1
    refine WP.seq ?_
    refine WP.region ?_
    refine WPl.v rfl (o_move rfl) ?_
    refine WPl.v rfl (o_assign rfl) ?_
    refine WPl.v rfl (o_assign rfl) ?_
    refine WPl.nil ?_
    refine EX.then ?_
    refine WP.ret ?_
    refine EX.ret_then ?_
    have hf : f.chk = false := errW_ne.1 (by simpa using hc1)
    rw [show f.lastN = 0 from by simp [Fnd.lastN, hf]]
    exact EX.fin id (.inl rfl) rfl (.tmp rfl (.tmp rfl .nil)) rfl (by simp [SV.res, El.res, At.res, keys]) trivial (by simp) (by simp)
  · try simp only [decide_eq_true_eq, decide_eq_false_iff_not, Bool.and_eq_true, Bool.or_eq_true, Bool.and_eq_false_iff, Bool.or_eq_false_iff, Bool.not_eq_true', Bool.not_eq_false', ne_eq, Decidable.not_not] at hc1
    have hf : f.chk = true := errW_eq.1 (by simpa using hc1)
    have hs := Fnd.shopOK hf
    have hn := Fnd.nightsOK hf
    have hn4 := hn.2
    have hpg := Shop.pigsOK hs
    have hp4 := hpg.2
    have htb := tl_bnd hs
    have hlh := lohi_bnd hn
    have hhi := fun i hi => Fnd.hi_le hf (i := i) hi
    refine WP.skip ?_
    refine EX.then ?_
    refine WP.seq ?_
    refine WP.region ?_
    refine WPl.v rfl (o_assign rfl) ?_
    refine WPl.nil ?_
    refine EX.then ?_
    refine WP.seq ?_
    refine WP.block ?_
    refine WP.loop (Gh := Nat) (fun i => ⟨3, [(1, .e (.a (.p 2 (0)))), (2, .i (0)), (3, .i (0)), (5, .i ((i : Int)))], [(0, PL EPig (f.shop.pigs)), (1, PL ENight (f.nights))], [(2, .blk [ai (f.shop.pounds), ai (f.shop.tl), ai (f.shop.th), ai (f.shop.al), ai (f.shop.ah), ai (f.shop.room), ai (f.shop.tpl), ai (f.shop.tph), ai (f.shop.apl), ai (f.shop.aph), .q 0, .q 1] 31)], [], []⟩) (fun i => i ≤ f.nights.length ∧ allI f.calmAt i = true) (fun i => f.nights.length - i) (0) id ?_ (LeR.of ⟨rfl, rfl, rfl, rfl, trivial⟩ ⟨(lx rfl), (lx rfl), trivial⟩ ⟨rfl, trivial⟩ rfl rfl rfl rfl rfl) ?_
    · exact ⟨by omega, rfl⟩
    intro i hφ
    obtain ⟨hi, hall⟩ := hφ
    refine WP.seq ?_
    refine WP.seq ?_
    refine WP.imp (Imp.bit 3 4 (decide ((i : Int) < (f.nights.length : Int))) rfl rfl) ?_
    refine WP.draw (nf := 5) [⟨[12, 13, 14], [], [], [], []⟩, ⟨[11], [], [], [], []⟩, ⟨[11], [], [], [], [1]⟩, ⟨[11], [], [], [], [1, 2]⟩, ⟨[], [], [], [], [0, 1, 2, 3]⟩, ⟨[], [], [], [], [0, 1, 2, 3, 4]⟩, ⟨[18, 19, 20, 21, 22, 23, 24, 25, 26, 27, 28, 29, 30], [4], [], [], [0, 1, 2, 3, 4, 5]⟩, ⟨[17, 22, 23, 24, 25, 26, 27, 28, 29, 30], [4], [], [], [0, 1, 2, 3, 4, 5]⟩, ⟨[17, 22, 23, 24, 25, 26, 27, 28, 29, 30], [4], [], [], [0, 1, 2, 3, 4, 5, 7]⟩, ⟨[17, 22, 23, 24, 25, 26, 27, 28, 29, 30], [4], [], [], [0, 1, 2, 3, 4, 5, 7, 8]⟩, ⟨[17, 22, 23, 24, 25, 26, 27, 28, 29, 30], [4], [], [], [0, 1, 2, 3, 4, 5, 7, 8, 9]⟩, ⟨[17, 18, 19, 20, 21, 26, 27, 28, 29, 30], [4], [], [], [0, 1, 2, 3, 4, 5]⟩, ⟨[17, 18, 19, 20, 21, 26, 27, 28, 29, 30], [4], [], [], [0, 1, 2, 3, 4, 5, 11]⟩, ⟨[17, 18, 19, 20, 21, 26, 27, 28, 29, 30], [4], [], [], [0, 1, 2, 3, 4, 5, 11, 12]⟩, ⟨[17, 18, 19, 20, 21, 26, 27, 28, 29, 30], [4], [], [], [0, 1, 2, 3, 4, 5, 11, 12, 13]⟩, ⟨[17, 18, 19, 20, 21, 22, 23, 24, 25, 27, 29], [], [], [], [0, 1, 2, 3, 4, 5]⟩, ⟨[17, 18, 19, 20, 21, 22, 23, 24, 25, 26, 29], [], [], [], [0, 1, 2, 3, 4, 5]⟩, ⟨[17, 18, 19, 20, 21, 22, 23, 24, 25, 29], [], [], [], [0, 1, 2, 3, 4, 5, 15, 16]⟩, ⟨[17, 18, 19, 20, 21, 22, 23, 24, 25, 26, 27, 28], [], [], [], [0, 1, 2, 3, 4, 5]⟩, ⟨[17, 18, 19, 20, 21, 22, 23, 24, 25], [], [4], [4], [0, 1, 2, 3, 4, 5, 15, 16, 17, 18]⟩, ⟨[], [], [], [], [0, 1, 2, 3, 4, 5, 6, 7, 8, 9, 10, 11, 12, 13, 14, 15, 16, 17, 18, 19]⟩, ⟨[], [], [], [], [0, 1, 2, 3, 4, 5, 6, 7, 8, 9, 10, 11, 12, 13, 14, 15, 16, 17, 18, 19, 20]⟩] (by kernel_rfl) (by kernel_rfl) ?_
    refine DRQ.v rfl rfl rfl (o_move rfl) ?_
    refine DRQ.v rfl rfl rfl (o_fldp F31_1 rfl) ?_
    refine DRQ.v rfl rfl rfl (o_ldp S29 rfl rfl rfl) ?_
    refine DRQ.v rfl rfl rfl (o_lenq L29 rfl (lx rfl)) ?_
    refine DRQ.v rfl rfl rfl (o_lss rfl rfl) ?_
    refine DRQ.v rfl rfl rfl (o_move rfl) ?_
    refine DRQ.gv 3 rfl rfl (.plain rfl Iff.rfl rfl) rfl (fun hb => o_ldpa G31 rfl rfl rfl) ?_
    refine DRQ.gv 3 rfl rfl (.plain rfl Iff.rfl rfl) rfl (fun hb => o_fldp F31_0 rfl) ?_
    refine DRQ.gv 3 rfl rfl (.plain rfl Iff.rfl rfl) rfl (fun hb => o_fldp F28_0 rfl) ?_
    refine DRQ.gv 3 rfl rfl (.plain rfl Iff.rfl rfl) rfl (fun hb => o_fldp F25_1 rfl) ?_
    refine DRQ.gv 3 rfl rfl (.plain rfl Iff.rfl rfl) rfl (fun hb => o_ldpg G23 rfl rfl rfl) ?_
    refine DRQ.gv 3 rfl rfl (.plain rfl Iff.rfl rfl) rfl (fun hb => o_fldp F31_0 rfl) ?_
    refine DRQ.gv 3 rfl rfl (.plain rfl Iff.rfl rfl) rfl (fun hb => o_fldp F28_0 rfl) ?_
    refine DRQ.gv 3 rfl rfl (.plain rfl Iff.rfl rfl) rfl (fun hb => o_fldp F25_2 rfl) ?_
    refine DRQ.gv 3 rfl rfl (.plain rfl Iff.rfl rfl) rfl (fun hb => o_ldpg G23 rfl rfl rfl) ?_
    refine DRQ.gv 3 rfl rfl (.plain rfl Iff.rfl rfl) rfl (fun hb => o_ldpa G31 rfl rfl rfl) ?_
    refine DRQ.gv 3 rfl rfl (.plain rfl Iff.rfl rfl) rfl (fun hb => o_move rfl) ?_
    refine DRQ.gv 3 rfl rfl (.plain rfl Iff.rfl rfl) rfl (fun hb => o_sig 4 (ren [(0, 0), (1, 1)]) (c83 f (i : Int) hn (by simp at hb; omega)) e83 rfl rfl rfl w83 ⟨(lx rfl), (lx rfl), trivial⟩ r83) ?_
    refine DRQ.gv 3 rfl rfl (.plain rfl Iff.rfl rfl) rfl (fun hb => o_ldpa G31 rfl rfl rfl) ?_
    refine DRQ.gcs 3 rfl rfl (.plain rfl Iff.rfl rfl) rfl rfl (fun hb => o_sig 4 (ren [(0, 0), (1, 1)]) (c97 f (by omega)) e97 rfl rfl rfl w97 ⟨(lx rfl), (lx rfl), trivial⟩ r97) ?_
    refine DRQ.gv 3 rfl rfl (.plain rfl Iff.rfl rfl) rfl (fun hb => o_sig 5 (ren [(0, 0), (1, 1), (2, 4)]) (c96 f f.shop.tl f.shop.th f.shop.al f.shop.ah (loTo f.nights (i : Int).toNat) (hiTo f.nights (i : Int).toNat) (List.replicate f.shop.pigs.length 0) hs (rep_bnd _) (by simp) (by omega) (by omega) (by have h1 := hlh i (by simp at hb; omega); have h2 := hhi i (by simp at hb; omega); simp; omega)) e96 rfl rfl rfl w96 ⟨(lx rfl), (lx rfl), (lxi hb rfl), trivial⟩ r96) ?_
    refine DRQ.v rfl rfl rfl (o_and rfl rfl rfl id) ?_
    refine DRQ.nil' ?_
    refine EX.then ?_
    refine WP.cond rfl (fun hc2 => ?_) (fun hc2 => ?_)
    · try simp only [decide_eq_true_eq, decide_eq_false_iff_not, Bool.and_eq_true, Bool.or_eq_true, Bool.and_eq_false_iff, Bool.or_eq_false_iff, Bool.not_eq_true', Bool.not_eq_false', ne_eq, Decidable.not_not] at hc2
      refine WP.skip ?_
      refine EX.then ?_
      refine WP.block ?_
      refine WP.region ?_
      refine WPl.v rfl (o_move rfl) ?_
      refine WPl.v rfl (o_add rfl rfl (by first | omega | (simp; omega)) (by first | omega | (simp; omega))) ?_
      refine WPl.v rfl (o_assign rfl) ?_
      refine WPl.nil ?_
      refine EX.blk ?_
      refine EX.again (i + 1) id (by exact ⟨by simp at hc2; omega, by simp at hc2; simp [allI, hall, Fnd.calmAt, hc2]⟩) (by simp at hc2; omega) (LeR.of ⟨rfl, rfl, rfl, rfl, trivial⟩ ⟨(lx rfl), (lx rfl), trivial⟩ ⟨rfl, trivial⟩ rfl rfl rfl rfl rfl)
    · try simp only [decide_eq_true_eq, decide_eq_false_iff_not, Bool.and_eq_true, Bool.or_eq_true, Bool.and_eq_false_iff, Bool.or_eq_false_iff, Bool.not_eq_true', Bool.not_eq_false', ne_eq, Decidable.not_not] at hc2
      refine WP.exit ?_
      refine EX.exit_then ?_
      refine EX.exit_then ?_
      refine EX.exit_blk ?_
      refine EX.then ?_
      refine WP.seq ?_
      refine WP.region ?_
      refine WPl.v rfl (o_move rfl) ?_
      refine WPl.v rfl (o_assign rfl) ?_
      refine WPl.v rfl (o_assign rfl) ?_
      refine WPl.nil ?_
      refine EX.then ?_
      refine WP.ret ?_
      rw [show f.lastN = (i : Int) from by simp only [Fnd.lastN, hf, if_true]; congr 1; refine Fnd.lastTo_all hi hall ?_; simp at hc2; by_cases e : i = f.nights.length; exact .inl e; exact .inr (by simp only [Fnd.calmAt]; rcases hc2 with h | h; omega; simpa using h), show errW f.chk = 0 from errW_eq.2 hf]
      exact EX.fin id (.inl rfl) rfl (.tmp rfl (.tmp rfl .nil)) rfl (by simp [SV.res, El.res, At.res, keys]) trivial (by simp) (by simp)
end Go.Flong
