/- Walks (printed by gen.py off the specs). -/
import Derived.Test.YtglbnodjcngefaaBW3
import Derived.Test.YtglbnodjcngefaaProg
set_option linter.unusedSimpArgs false
set_option linter.unusedVariables false
namespace Go.Flong
open Go Go.Eng Go.Proofs
theorem e22 : Enters' Try.prog 22 := Try.call22
theorem e97 : Enters' Try.prog 97 := Try.call97
theorem e104 : Enters' Try.prog 104 := Try.call104
theorem e51 : Enters' Try.prog 51 := Try.call51
theorem e46 : Enters' Try.prog 46 := Try.call46
theorem e52 : Enters' Try.prog 52 := Try.call52
theorem e17 : Enters' Try.prog 17 := Try.call17
theorem G75 : TyG Try.prog 75 3 := ⟨Try.isAgg75, Try.sizeOf75⟩
theorem Z75 : Zero Try.prog 75 [ai (0), ai (0), ai (0)] := .mk Try.zeroValue75 rfl rfl
theorem w104 {f : Fnd} : ∀ x ∈ ([.e (.g [ai (f.shop.pounds), ai (f.shop.tl), ai (f.shop.th), ai (f.shop.al), ai (f.shop.ah), ai (f.shop.room), ai (f.shop.tpl), ai (f.shop.tph), ai (f.shop.apl), ai (f.shop.aph), .q 0, .q 1])] : List SV), x.res (keys (α := Pred) [(0, PL EPig (f.shop.pigs)), (1, PL ENight (f.nights))]) := by simp [SV.res, El.res, At.res, keys]
theorem r104 {f : Fnd} : SV.res (keys (α := Pred) [(0, PL (EP.sl (EP.sl EP.int)) (f.plansV))]) (.t [.a (.q 0), .a (ai (f.plansE))]) := by simp [SV.res, El.res, At.res, keys]
set_option maxHeartbeats 4000000 in
theorem c104 (f : Fnd)  : Sig Try.prog 104 [.e (.g [ai (f.shop.pounds), ai (f.shop.tl), ai (f.shop.th), ai (f.shop.al), ai (f.shop.ah), ai (f.shop.room), ai (f.shop.tpl), ai (f.shop.tph), ai (f.shop.apl), ai (f.shop.aph), .q 0, .q 1])] [(0, PL EPig (f.shop.pigs)), (1, PL ENight (f.nights))] (.t [.a (.q 0), .a (ai (f.plansE))]) [(0, PL (EP.sl (EP.sl EP.int)) (f.plansV))] := by
  refine Sig.intro Try.func104 rfl 2 [(0, .e (.g [ai (f.shop.pounds), ai (f.shop.tl), ai (f.shop.th), ai (f.shop.al), ai (f.shop.ah), ai (f.shop.room), ai (f.shop.tpl), ai (f.shop.tph), ai (f.shop.apl), ai (f.shop.aph), .q 0, .q 1]))] rfl w104 rfl rfl fun I w => ?_
  refine WP.seq ?_
  refine WP.region ?_
  refine WPl.l 2 3 rfl rfl rfl (o_boxg rfl) ?_
  refine WPl.v rfl (o_assign rfl) ?_
  refine WPl.v rfl (o_assign rfl) ?_
  refine WPl.nil ?_
  refine EX.then ?_
  refine WP.seq ?_
  refine WP.seq ?_
  refine WP.region ?_
  refine WPl.v rfl (o_ldpa G31 rfl rfl rfl) ?_
  refine WPl.cs 3 rfl rfl rfl rfl (o_sig 3 (ren [(0, 0), (1, 1)]) (c22 f) e22 rfl rfl rfl w22 ⟨(lx rfl), (lx rfl), trivial⟩ r22) ?_
  refine WPl.v rfl (o_assign rfl) ?_
  refine WPl.nil ?_
  refine EX.then ?_
  refine WP.seq ?_
  refine WP.region ?_
  refine WPl.v rfl (o_move rfl) ?_
  refine WPl.v rfl (o_neq rfl rfl) ?_
  refine WPl.nil ?_
  refine EX.then ?_
  refine WP.cond rfl (fun hc1 => ?_) (fun hc1 => ?_)
  · try simp only [decide_eq_true_eq, decide_eq_false_iff_not, Bool.and_eq_true, Bool.or_eq_true, Bool.and_eq_false_iff, Bool.or_eq_false_iff, Bool.not_eq_true', Bool.not_eq_false', ne_eq, Decidable.not_not] at hc1
    have hf : f.chk = false := errW_ne.1 (by simpa using hc1)
    refine WP.seq ?_
    refine WP.region ?_
    refine WPl.v rfl (o_move rfl) ?_
    refine WPl.v rfl (o_assign rfl) ?_
    refine WPl.v rfl (o_assign rfl) ?_
    refine WPl.nil ?_
    refine EX.then ?_
    refine WP.ret ?_
    refine EX.ret_then ?_
    refine EX.imp (Imp.nam 3 4 (.slice none 0 0) (R := PN (EP.sl (EP.sl EP.int))) pn_ok rfl rfl) ?_
    refine EX.imp (Imp.swF 2 3 rfl (lxr rfl)) ?_
    rw [show errW f.chk = 130 from by simp [errW, hf], show f.plansV = [] from by simp [Fnd.plansV, hf], show f.plansE = 130 from by simp [Fnd.plansE, hf]]
    exact EX.fin (ren [(0, 3)]) (.inl rfl) rfl (.tmp rfl (.tmp rfl .nil)) rfl (by simp [SV.res, El.res, At.res, keys]) ⟨lxl rfl, trivial⟩ (by simp) (by simp)
  · try simp only [decide_eq_true_eq, decide_eq_false_iff_not, Bool.and_eq_true, Bool.or_eq_true, Bool.and_eq_false_iff, Bool.or_eq_false_iff, Bool.not_eq_true', Bool.not_eq_false', ne_eq, Decidable.not_not] at hc1
    have hf : f.chk = true := errW_eq.1 (by simpa using hc1)
    have hcb := Fnd.chkB hf
    refine WP.skip ?_
    refine EX.then ?_
    refine WP.seq ?_
    refine WP.draw (nf := 5) [⟨[12, 13], [3], [], [], []⟩, ⟨[11], [], [], [], []⟩, ⟨[11], [], [3], [3], [1]⟩, ⟨[], [], [4], [4], [0, 1, 2]⟩, ⟨[], [], [], [], [0, 1, 2, 3]⟩] (by kernel_rfl) (by kernel_rfl) ?_
    refine DRQ.v rfl rfl rfl (o_ldpa G31 rfl rfl rfl) ?_
    refine DRQ.v rfl rfl rfl (o_ldpa G31 rfl rfl rfl) ?_
    refine DRQ.cs rfl rfl rfl rfl (o_sig 3 (ren [(0, 0), (1, 1)]) (c97 f (by omega)) e97 rfl rfl rfl w97 ⟨(lx rfl), (lx rfl), trivial⟩ r97) ?_
    refine DRQ.cs rfl rfl rfl rfl (o_sig 4 (ren [(0, 0), (1, 1), (2, 3)]) (c143 f 0 (List.replicate f.shop.pigs.length 0) f.nights.length hf (by omega) (by omega) (zeros_bnd f 5 (by omega)) (zeros_len f)) e143 rfl rfl rfl w143 ⟨(lx rfl), (lx rfl), (lx rfl), trivial⟩ r143) ?_
    refine DRQ.v rfl rfl rfl (o_assign rfl) ?_
    refine DRQ.nil' ?_
    refine EX.then ?_
    refine WP.seq ?_
    refine WP.seq ?_
    refine WP.region ?_
    refine WPl.v rfl (o_move rfl) ?_
    refine WPl.v rfl (o_lenq L127 rfl (lx rfl)) ?_
    refine WPl.v rfl (o_eql rfl rfl) ?_
    refine WPl.nil ?_
    refine EX.then ?_
    refine WP.cond rfl (fun hc2 => ?_) (fun hc2 => ?_)
    · try simp only [decide_eq_true_eq, decide_eq_false_iff_not, Bool.and_eq_true, Bool.or_eq_true, Bool.and_eq_false_iff, Bool.or_eq_false_iff, Bool.not_eq_true', Bool.not_eq_false', ne_eq, Decidable.not_not] at hc2
      refine WP.seq ?_
      refine WP.region ?_
      refine WPl.v rfl (o_assign rfl) ?_
      refine WPl.v rfl (o_assign rfl) ?_
      refine WPl.nil ?_
      refine EX.then ?_
      refine WP.ret ?_
      refine EX.ret_then ?_
      refine EX.imp (Imp.nam 5 6 (.slice none 0 0) (R := PN (EP.sl (EP.sl EP.int))) pn_ok rfl rfl) ?_
      refine EX.imp (Imp.swF 2 5 rfl (lxr rfl)) ?_
      have hz : f.allPlans.length = 0 := by have : (f.allPlans.length : Int) = 0 := hc2; omega
      rw [show f.plansV = [] from by simp [Fnd.plansV, hf]; exact List.length_eq_zero_iff.1 hz, show f.plansE = 3 from by simp [Fnd.plansE, hf, hz]]
      exact EX.fin (ren [(0, 5)]) (.inl rfl) rfl (.tmp rfl (.tmp rfl .nil)) rfl (by simp [SV.res, El.res, At.res, keys]) ⟨lxl rfl, trivial⟩ (by simp) (by simp)
    · try simp only [decide_eq_true_eq, decide_eq_false_iff_not, Bool.and_eq_true, Bool.or_eq_true, Bool.and_eq_false_iff, Bool.or_eq_false_iff, Bool.not_eq_true', Bool.not_eq_false', ne_eq, Decidable.not_not] at hc2
      refine WP.skip ?_
      refine EX.then ?_
      refine WP.seq ?_
      refine WP.region ?_
      refine WPl.v rfl (o_move rfl) ?_
      refine WPl.v rfl (o_assign rfl) ?_
      refine WPl.v rfl (o_assign rfl) ?_
      refine WPl.nil ?_
      refine EX.then ?_
      refine WP.ret ?_
      have hz : ¬ f.allPlans.length = 0 := by have : ¬ (f.allPlans.length : Int) = 0 := hc2; omega
      rw [show f.plansV = f.allPlans from by simp [Fnd.plansV, hf], show f.plansE = 0 from by simp [Fnd.plansE, hf, hz]]
      exact EX.fin (ren [(0, 4)]) (.inl rfl) rfl (.tmp rfl (.tmp rfl .nil)) rfl (by simp [SV.res, El.res, At.res, keys]) ⟨(lx rfl), trivial⟩ (by simp) (by simp)
theorem w46 {f : Fnd} : ∀ x ∈ ([.e (.g [ai (f.shop.pounds), ai (f.shop.tl), ai (f.shop.th), ai (f.shop.al), ai (f.shop.ah), ai (f.shop.room), ai (f.shop.tpl), ai (f.shop.tph), ai (f.shop.apl), ai (f.shop.aph), .q 0, .q 1])] : List SV), x.res (keys (α := Pred) [(0, PL EPig (f.shop.pigs)), (1, PL ENight (f.nights))]) := by simp [SV.res, El.res, At.res, keys]
theorem r46 {f : Fnd} : SV.res (keys (α := Pred) [(0, PL (EP.sl EP.int) (f.planV))]) (.t [.a (.q 0), .a (ai (f.plansE))]) := by simp [SV.res, El.res, At.res, keys]
set_option maxHeartbeats 4000000 in
theorem c46 (f : Fnd)  : Sig Try.prog 46 [.e (.g [ai (f.shop.pounds), ai (f.shop.tl), ai (f.shop.th), ai (f.shop.al), ai (f.shop.ah), ai (f.shop.room), ai (f.shop.tpl), ai (f.shop.tph), ai (f.shop.apl), ai (f.shop.aph), .q 0, .q 1])] [(0, PL EPig (f.shop.pigs)), (1, PL ENight (f.nights))] (.t [.a (.q 0), .a (ai (f.plansE))]) [(0, PL (EP.sl EP.int) (f.planV))] := by
  refine Sig.intro Try.func46 rfl 2 [(0, .e (.g [ai (f.shop.pounds), ai (f.shop.tl), ai (f.shop.th), ai (f.shop.al), ai (f.shop.ah), ai (f.shop.room), ai (f.shop.tpl), ai (f.shop.tph), ai (f.shop.apl), ai (f.shop.aph), .q 0, .q 1]))] rfl w46 rfl rfl fun I w => ?_
  refine WP.seq ?_
  refine WP.region ?_
  refine WPl.l 2 3 rfl rfl rfl (o_boxg rfl) ?_
  refine WPl.v rfl (o_assign rfl) ?_
  refine WPl.v rfl (o_assign rfl) ?_
  refine WPl.nil ?_
  refine EX.then ?_
  refine WP.seq ?_
  refine WP.region ?_
  refine WPl.v rfl (o_ldpa G31 rfl rfl rfl) ?_
  refine WPl.cs 4 rfl rfl rfl rfl (o_sig 3 (ren [(0, 0), (1, 1)]) (c104 f) e104 rfl rfl rfl w104 ⟨(lx rfl), (lx rfl), trivial⟩ r104) ?_
  refine WPl.v rfl (o_move rfl) ?_
  refine WPl.v rfl (o_extract rfl rfl) ?_
  refine WPl.v rfl (o_extract rfl rfl) ?_
  refine WPl.v rfl (o_assign rfl) ?_
  refine WPl.v rfl (o_assign rfl) ?_
  refine WPl.nil ?_
  refine EX.then ?_
  refine WP.seq ?_
  refine WP.seq ?_
  refine WP.region ?_
  refine WPl.v rfl (o_move rfl) ?_
  refine WPl.v rfl (o_neq rfl rfl) ?_
  refine WPl.nil ?_
  refine EX.then ?_
  refine WP.cond rfl (fun hc1 => ?_) (fun hc1 => ?_)
  · try simp only [decide_eq_true_eq, decide_eq_false_iff_not, Bool.and_eq_true, Bool.or_eq_true, Bool.and_eq_false_iff, Bool.or_eq_false_iff, Bool.not_eq_true', Bool.not_eq_false', ne_eq, Decidable.not_not] at hc1
    refine WP.seq ?_
    refine WP.region ?_
    refine WPl.v rfl (o_move rfl) ?_
    refine WPl.v rfl (o_assign rfl) ?_
    refine WPl.v rfl (o_assign rfl) ?_
    refine WPl.nil ?_
    refine EX.then ?_
    refine WP.ret ?_
    refine EX.ret_then ?_
    refine EX.imp (Imp.nam 4 5 (.slice none 0 0) (R := PN (EP.sl EP.int)) pn_ok rfl rfl) ?_
    refine EX.imp (Imp.swF 2 4 rfl (lxr rfl)) ?_
    rw [show f.planV = [] from by simp [Fnd.planV, hc1]]
    exact EX.fin (ren [(0, 4)]) (.inl rfl) rfl (.tmp rfl (.tmp rfl .nil)) rfl (by simp [SV.res, El.res, At.res, keys]) ⟨lxl rfl, trivial⟩ (by simp) (by simp)
  · try simp only [decide_eq_true_eq, decide_eq_false_iff_not, Bool.and_eq_true, Bool.or_eq_true, Bool.and_eq_false_iff, Bool.or_eq_false_iff, Bool.not_eq_true', Bool.not_eq_false', ne_eq, Decidable.not_not] at hc1
    have hc0 : f.plansE = 0 := by simpa using hc1
    obtain ⟨hf, hlen⟩ := plansE_eq hc0
    have hpv : f.plansV = f.allPlans := by simp [Fnd.plansV, hf]
    rw [hpv]
    have hpg := Shop.pigsOK (Fnd.shopOK hf)
    have hmx := allPlans_len hf
    have hcb := Fnd.chkB hf
    refine WP.skip ?_
    refine EX.then ?_
    refine WP.seq ?_
    refine WP.region ?_
    refine WPl.v rfl (o_move rfl) ?_
    refine WPl.x 4 5 rfl rfl rfl (o_idx L127 rfl (lx rfl) rfl (by first | omega | (simp; omega)) (by first | omega | (simp; omega))) ?_
    refine WPl.x 5 6 rfl rfl rfl (o_ldqx S32 rfl (lx rfl) slx) ?_
    refine WPl.v rfl (o_assign rfl) ?_
    refine WPl.nil ?_
    refine EX.then ?_
    refine WP.seq ?_
    refine WP.seq ?_
    refine WP.region ?_
    refine WPl.v rfl (o_assign rfl) ?_
    refine WPl.nil ?_
    refine EX.then ?_
    refine WP.block ?_
    refine WP.loop (Gh := Nat) (fun i => ⟨6, [(1, .e (.a (.p 2 (0)))), (2, .e (.a (.v (.slice none 0 0)))), (3, .i (0)), (4, .e (.a (.q 3))), (6, .e (.a (.q 5))), (7, .i ((i : Int)))], [(0, PL EPig (f.shop.pigs)), (1, PL ENight (f.nights)), (3, PL (EP.sl (EP.sl EP.int)) (f.allPlans)), (5, PL (EP.sl EP.int) (bestTo f.shop.cost f.allPlans i))], [(2, .blk [ai (f.shop.pounds), ai (f.shop.tl), ai (f.shop.th), ai (f.shop.al), ai (f.shop.ah), ai (f.shop.room), ai (f.shop.tpl), ai (f.shop.tph), ai (f.shop.apl), ai (f.shop.aph), .q 0, .q 1] 31)], [], []⟩) (fun i => i ≤ f.allPlans.length) (fun i => f.allPlans.length - i) (0) id ?_ (LeR.of ⟨rfl, rfl, rfl, rfl, rfl, rfl, trivial⟩ ⟨(lx rfl), (lx rfl), (lx rfl), (lx rfl), trivial⟩ ⟨rfl, trivial⟩ rfl rfl rfl rfl rfl) ?_
    · first | trivial | omega | (constructor <;> omega) | simp
    intro i hφ
    have hi : i ≤ f.allPlans.length := hφ
    refine WP.seq ?_
    refine WP.seq ?_
    refine WP.region ?_
    refine WPl.v rfl (o_move rfl) ?_
    refine WPl.v rfl (o_move rfl) ?_
    refine WPl.v rfl (o_lenq L127 rfl (lx rfl)) ?_
    refine WPl.v rfl (o_lss rfl rfl) ?_
    refine WPl.nil ?_
    refine EX.then ?_
    refine WP.cond rfl (fun hc2 => ?_) (fun hc2 => ?_)
    · try simp only [decide_eq_true_eq, decide_eq_false_iff_not, Bool.and_eq_true, Bool.or_eq_true, Bool.and_eq_false_iff, Bool.or_eq_false_iff, Bool.not_eq_true', Bool.not_eq_false', ne_eq, Decidable.not_not] at hc2
      refine WP.skip ?_
      refine EX.then ?_
      refine WP.seq ?_
      refine WP.block ?_
      refine WP.seq ?_
      refine WP.draw (nf := 8) [⟨[26, 27, 28, 29, 31, 32], [6, 7], [], [], []⟩, ⟨[25, 27, 31, 32], [], [], [], []⟩, ⟨[25, 26, 31, 32], [], [], [], []⟩, ⟨[25, 31, 32], [], [6], [6], [1, 2]⟩, ⟨[25, 31, 32], [], [7], [7], [1, 2, 3]⟩, ⟨[31, 32], [], [], [], [0, 1, 2, 3, 4]⟩, ⟨[25, 26, 27, 28, 29, 30, 32], [6, 7], [], [], []⟩, ⟨[25, 26, 27, 28, 29, 30, 31], [6, 7], [], [], []⟩, ⟨[], [], [], [], [0, 1, 2, 3, 4, 5, 6, 7]⟩, ⟨[], [], [], [], [0, 1, 2, 3, 4, 5, 6, 7, 8]⟩] (by kernel_rfl) (by kernel_rfl) ?_
      refine DRQ.v rfl rfl rfl (o_ldpa G31 rfl rfl rfl) ?_
      refine DRQ.v rfl rfl rfl (o_move rfl) ?_
      refine DRQ.v rfl rfl rfl (o_move rfl) ?_
      refine DRQ.x 6 rfl rfl rfl rfl (o_idx L127 rfl (lx rfl) rfl (by first | omega | (simp; omega)) (by first | omega | (simp; omega))) ?_
      refine DRQ.x 7 rfl rfl rfl rfl (o_ldqx S32 rfl (lx rfl) slx) ?_
      refine DRQ.cs rfl rfl rfl rfl (o_sig 8 (ren [(0, 0), (1, 1), (2, 7)]) (c51 f (nth f.allPlans (i : Int)) hpg (by have := allPlans_mem hf (nth_mem (l := f.allPlans) (i := (i : Int)) (by omega) (by omega)); exact this.2)) e51 rfl rfl rfl w51 ⟨(lx rfl), (lx rfl), (lx rfl), trivial⟩ r51) ?_
      refine DRQ.v rfl rfl rfl (o_ldpa G31 rfl rfl rfl) ?_
      refine DRQ.v rfl rfl rfl (o_move rfl) ?_
      refine DRQ.cs rfl rfl rfl rfl (o_sig 8 (ren [(0, 0), (1, 1), (2, 5)]) (c51 f (bestTo f.shop.cost f.allPlans i) hpg (allPlans_mem hf (bestTo_mem hlen i (by omega))).2) e51 rfl rfl rfl w51 ⟨(lx rfl), (lx rfl), (lx rfl), trivial⟩ r51) ?_
      refine DRQ.v rfl rfl rfl (o_lss rfl rfl) ?_
      refine DRQ.nil' ?_
      refine EX.then ?_
      refine WP.cond rfl (fun hc3 => ?_) (fun hc3 => ?_)
      · try simp only [decide_eq_true_eq, decide_eq_false_iff_not, Bool.and_eq_true, Bool.or_eq_true, Bool.and_eq_false_iff, Bool.or_eq_false_iff, Bool.not_eq_true', Bool.not_eq_false', ne_eq, Decidable.not_not] at hc3
        refine WP.region ?_
        refine WPl.v rfl (o_move rfl) ?_
        refine WPl.v rfl (o_move rfl) ?_
        refine WPl.x 8 9 rfl rfl rfl (o_idx L127 rfl (lx rfl) rfl (by first | omega | (simp; omega)) (by first | omega | (simp; omega))) ?_
        refine WPl.x 9 10 rfl rfl rfl (o_ldqx S32 rfl (lx rfl) slx) ?_
        refine WPl.v rfl (o_assign rfl) ?_
        refine WPl.nil ?_
        refine EX.blk ?_
        refine EX.then ?_
        refine WP.region ?_
        refine WPl.v rfl (o_move rfl) ?_
        refine WPl.v rfl (o_add rfl rfl (by first | omega | (simp; omega)) (by first | omega | (simp; omega))) ?_
        refine WPl.v rfl (o_assign rfl) ?_
        refine WPl.nil ?_
        refine EX.again (i + 1) (ren [(5, 9)]) (by first | omega | (constructor <;> omega)) (by omega) (LeR.of ⟨rfl, rfl, rfl, rfl, rfl, rfl, trivial⟩ ⟨(lx rfl), (lx rfl), (lx rfl), (has_eq (F := fun z => PL (EP.sl EP.int) z) (show (nth f.allPlans (i : Int)) = ((fun i => bestTo f.shop.cost f.allPlans i) (i + 1)) from by simp only [bestTo]; rw [if_pos hc3]) (lx rfl)), trivial⟩ ⟨rfl, trivial⟩ rfl rfl rfl rfl rfl)
      · try simp only [decide_eq_true_eq, decide_eq_false_iff_not, Bool.and_eq_true, Bool.or_eq_true, Bool.and_eq_false_iff, Bool.or_eq_false_iff, Bool.not_eq_true', Bool.not_eq_false', ne_eq, Decidable.not_not] at hc3
        refine WP.skip ?_
        refine EX.blk ?_
        refine EX.then ?_
        refine WP.region ?_
        refine WPl.v rfl (o_move rfl) ?_
        refine WPl.v rfl (o_add rfl rfl (by first | omega | (simp; omega)) (by first | omega | (simp; omega))) ?_
        refine WPl.v rfl (o_assign rfl) ?_
        refine WPl.nil ?_
        refine EX.again (i + 1) id (by first | omega | (constructor <;> omega)) (by omega) (LeR.of ⟨rfl, rfl, rfl, rfl, rfl, rfl, trivial⟩ ⟨(lx rfl), (lx rfl), (lx rfl), (has_eq (F := fun z => PL (EP.sl EP.int) z) (show (bestTo f.shop.cost f.allPlans i) = ((fun i => bestTo f.shop.cost f.allPlans i) (i + 1)) from by simp only [bestTo]; rw [if_neg hc3]) (lx rfl)), trivial⟩ ⟨rfl, trivial⟩ rfl rfl rfl rfl rfl)
    · try simp only [decide_eq_true_eq, decide_eq_false_iff_not, Bool.and_eq_true, Bool.or_eq_true, Bool.and_eq_false_iff, Bool.or_eq_false_iff, Bool.not_eq_true', Bool.not_eq_false', ne_eq, Decidable.not_not] at hc2
      refine WP.exit ?_
      refine EX.exit_then ?_
      refine EX.exit_then ?_
      refine EX.exit_blk ?_
      refine EX.then ?_
      refine WP.seq ?_
      refine WP.region ?_
      refine WPl.v rfl (o_move rfl) ?_
      refine WPl.v rfl (o_assign rfl) ?_
      refine WPl.v rfl (o_assign rfl) ?_
      refine WPl.nil ?_
      refine EX.then ?_
      refine WP.ret ?_
      have he : i = f.allPlans.length := by omega
      subst he
      rw [show f.planV = bestTo f.shop.cost f.allPlans f.allPlans.length from by simp only [Fnd.planV, hc0, if_true]; rfl, hc0]
      exact EX.fin (ren [(0, 5)]) (.inl rfl) rfl (.tmp rfl (.tmp rfl .nil)) rfl (by simp [SV.res, El.res, At.res, keys]) ⟨(lx rfl), trivial⟩ (by simp) (by simp)
theorem w44 {f : Fnd} : ∀ x ∈ ([.e (.g [ai (f.shop.pounds), ai (f.shop.tl), ai (f.shop.th), ai (f.shop.al), ai (f.shop.ah), ai (f.shop.room), ai (f.shop.tpl), ai (f.shop.tph), ai (f.shop.apl), ai (f.shop.aph), .q 0, .q 1])] : List SV), x.res (keys (α := Pred) [(0, PL EPig (f.shop.pigs)), (1, PL ENight (f.nights))]) := by simp [SV.res, El.res, At.res, keys]
theorem r44 {f : Fnd} : SV.res (keys (α := Pred) []) (.t [.a (ai (f.cheapV)), .a (ai (f.plansE))]) := by simp [SV.res, El.res, At.res, keys]
set_option maxHeartbeats 4000000 in
theorem c44 (f : Fnd)  : Sig Try.prog 44 [.e (.g [ai (f.shop.pounds), ai (f.shop.tl), ai (f.shop.th), ai (f.shop.al), ai (f.shop.ah), ai (f.shop.room), ai (f.shop.tpl), ai (f.shop.tph), ai (f.shop.apl), ai (f.shop.aph), .q 0, .q 1])] [(0, PL EPig (f.shop.pigs)), (1, PL ENight (f.nights))] (.t [.a (ai (f.cheapV)), .a (ai (f.plansE))]) [] := by
  refine Sig.intro Try.func44 rfl 2 [(0, .e (.g [ai (f.shop.pounds), ai (f.shop.tl), ai (f.shop.th), ai (f.shop.al), ai (f.shop.ah), ai (f.shop.room), ai (f.shop.tpl), ai (f.shop.tph), ai (f.shop.apl), ai (f.shop.aph), .q 0, .q 1]))] rfl w44 rfl rfl fun I w => ?_
  refine WP.seq ?_
  refine WP.region ?_
  refine WPl.l 2 3 rfl rfl rfl (o_boxg rfl) ?_
  refine WPl.v rfl (o_assign rfl) ?_
  refine WPl.v rfl (o_assign rfl) ?_
  refine WPl.nil ?_
  refine EX.then ?_
  refine WP.seq ?_
  refine WP.region ?_
  refine WPl.v rfl (o_ldpa G31 rfl rfl rfl) ?_
  refine WPl.cs 4 rfl rfl rfl rfl (o_sig 3 (ren [(0, 0), (1, 1)]) (c46 f) e46 rfl rfl rfl w46 ⟨(lx rfl), (lx rfl), trivial⟩ r46) ?_
  refine WPl.v rfl (o_move rfl) ?_
  refine WPl.v rfl (o_extract rfl rfl) ?_
  refine WPl.v rfl (o_extract rfl rfl) ?_
  refine WPl.v rfl (o_assign rfl) ?_
  refine WPl.v rfl (o_assign rfl) ?_
  refine WPl.nil ?_
  refine EX.then ?_
  refine WP.seq ?_
  refine WP.seq ?_
  refine WP.region ?_
  refine WPl.v rfl (o_move rfl) ?_
  refine WPl.v rfl (o_neq rfl rfl) ?_
  refine WPl.nil ?_
  refine EX.then ?_
  refine WP.cond rfl (fun hc1 => ?_) (fun hc1 => ?_)
  · try simp only [decide_eq_true_eq, decide_eq_false_iff_not, Bool.and_eq_true, Bool.or_eq_true, Bool.and_eq_false_iff, Bool.or_eq_false_iff, Bool.not_eq_true', Bool.not_eq_false', ne_eq, Decidable.not_not] at hc1
    refine WP.seq ?_
    refine WP.region ?_
    refine WPl.v rfl (o_move rfl) ?_
    refine WPl.v rfl (o_assign rfl) ?_
    refine WPl.v rfl (o_assign rfl) ?_
    refine WPl.nil ?_
    refine EX.then ?_
    refine WP.ret ?_
    refine EX.ret_then ?_
    rw [show f.cheapV = 0 from by simp [Fnd.cheapV, hc1]]
    exact EX.fin id (.inl rfl) rfl (.tmp rfl (.tmp rfl .nil)) rfl (by simp [SV.res, El.res, At.res, keys]) trivial (by simp) (by simp)
  · try simp only [decide_eq_true_eq, decide_eq_false_iff_not, Bool.and_eq_true, Bool.or_eq_true, Bool.and_eq_false_iff, Bool.or_eq_false_iff, Bool.not_eq_true', Bool.not_eq_false', ne_eq, Decidable.not_not] at hc1
    have hc0 : f.plansE = 0 := by simpa using hc1
    obtain ⟨hf, hlen⟩ := plansE_eq hc0
    have hpl : f.planV = f.bestPlan := by simp [Fnd.planV, hc0]
    have hm := (allPlans_mem hf (bestTo_mem (c := f.shop.cost) hlen _ (Nat.le_refl _))).2
    refine WP.skip ?_
    refine EX.then ?_
    refine WP.seq ?_
    refine WP.region ?_
    refine WPl.v rfl (o_ldpa G31 rfl rfl rfl) ?_
    refine WPl.v rfl (o_move rfl) ?_
    refine WPl.cs 4 rfl rfl rfl rfl (o_sig 4 (ren [(0, 0), (1, 1), (2, 3)]) (c51 f f.planV (Shop.pigsOK (Fnd.shopOK hf)) (by rw [hpl]; exact hm)) e51 rfl rfl rfl w51 ⟨(lx rfl), (lx rfl), (lx rfl), trivial⟩ r51) ?_
    refine WPl.v rfl (o_assign rfl) ?_
    refine WPl.v rfl (o_assign rfl) ?_
    refine WPl.nil ?_
    refine EX.then ?_
    refine WP.ret ?_
    rw [show f.cheapV = f.shop.cost f.planV from by simp [Fnd.cheapV, hc0, hpl], hc0]
    exact EX.fin id (.inl rfl) rfl (.tmp rfl (.tmp rfl .nil)) rfl (by simp [SV.res, El.res, At.res, keys]) trivial (by simp) (by simp)
theorem w48 {f : Fnd} : ∀ x ∈ ([.e (.g [ai (f.shop.pounds), ai (f.shop.tl), ai (f.shop.th), ai (f.shop.al), ai (f.shop.ah), ai (f.shop.room), ai (f.shop.tpl), ai (f.shop.tph), ai (f.shop.apl), ai (f.shop.aph), .q 0, .q 1])] : List SV), x.res (keys (α := Pred) [(0, PL EPig (f.shop.pigs)), (1, PL ENight (f.nights))]) := by simp [SV.res, El.res, At.res, keys]
theorem r48 {f : Fnd} : SV.res (keys (α := Pred) []) (.t [.a (ai (f.onceV)), .a (ai (f.plansE))]) := by simp [SV.res, El.res, At.res, keys]
set_option maxHeartbeats 4000000 in
theorem c48 (f : Fnd)  : Sig Try.prog 48 [.e (.g [ai (f.shop.pounds), ai (f.shop.tl), ai (f.shop.th), ai (f.shop.al), ai (f.shop.ah), ai (f.shop.room), ai (f.shop.tpl), ai (f.shop.tph), ai (f.shop.apl), ai (f.shop.aph), .q 0, .q 1])] [(0, PL EPig (f.shop.pigs)), (1, PL ENight (f.nights))] (.t [.a (ai (f.onceV)), .a (ai (f.plansE))]) [] := by
  refine Sig.intro Try.func48 rfl 2 [(0, .e (.g [ai (f.shop.pounds), ai (f.shop.tl), ai (f.shop.th), ai (f.shop.al), ai (f.shop.ah), ai (f.shop.room), ai (f.shop.tpl), ai (f.shop.tph), ai (f.shop.apl), ai (f.shop.aph), .q 0, .q 1]))] rfl w48 rfl rfl fun I w => ?_
  refine WP.seq ?_
  refine WP.region ?_
  refine WPl.l 2 3 rfl rfl rfl (o_boxg rfl) ?_
  refine WPl.v rfl (o_assign rfl) ?_
  refine WPl.v rfl (o_assign rfl) ?_
  refine WPl.nil ?_
  refine EX.then ?_
  refine WP.seq ?_
  refine WP.region ?_
  refine WPl.v rfl (o_ldpa G31 rfl rfl rfl) ?_
  refine WPl.cs 4 rfl rfl rfl rfl (o_sig 3 (ren [(0, 0), (1, 1)]) (c104 f) e104 rfl rfl rfl w104 ⟨(lx rfl), (lx rfl), trivial⟩ r104) ?_
  refine WPl.v rfl (o_move rfl) ?_
  refine WPl.v rfl (o_extract rfl rfl) ?_
  refine WPl.v rfl (o_extract rfl rfl) ?_
  refine WPl.v rfl (o_assign rfl) ?_
  refine WPl.v rfl (o_assign rfl) ?_
  refine WPl.nil ?_
  refine EX.then ?_
  refine WP.seq ?_
  refine WP.seq ?_
  refine WP.region ?_
  refine WPl.v rfl (o_move rfl) ?_
  refine WPl.v rfl (o_neq rfl rfl) ?_
  refine WPl.nil ?_
  refine EX.then ?_
  refine WP.cond rfl (fun hc1 => ?_) (fun hc1 => ?_)
  · try simp only [decide_eq_true_eq, decide_eq_false_iff_not, Bool.and_eq_true, Bool.or_eq_true, Bool.and_eq_false_iff, Bool.or_eq_false_iff, Bool.not_eq_true', Bool.not_eq_false', ne_eq, Decidable.not_not] at hc1
    refine WP.seq ?_
    refine WP.region ?_
    refine WPl.v rfl (o_move rfl) ?_
    refine WPl.v rfl (o_assign rfl) ?_
    refine WPl.v rfl (o_assign rfl) ?_
    refine WPl.nil ?_
    refine EX.then ?_
    refine WP.ret ?_
    refine EX.ret_then ?_
    rw [show f.onceV = 0 from by simp [Fnd.onceV, hc1]]
    exact EX.fin id (.inl rfl) rfl (.tmp rfl (.tmp rfl .nil)) rfl (by simp [SV.res, El.res, At.res, keys]) trivial (by simp) (by simp)
  · try simp only [decide_eq_true_eq, decide_eq_false_iff_not, Bool.and_eq_true, Bool.or_eq_true, Bool.and_eq_false_iff, Bool.or_eq_false_iff, Bool.not_eq_true', Bool.not_eq_false', ne_eq, Decidable.not_not] at hc1
    have hc0 : f.plansE = 0 := by simpa using hc1
    obtain ⟨hf, hlen⟩ := plansE_eq hc0
    have hpv : f.plansV = f.allPlans := by simp [Fnd.plansV, hf]
    rw [hpv]
    have hpg := Shop.pigsOK (Fnd.shopOK hf)
    have hmx := allPlans_len hf
    have hcb := Fnd.chkB hf
    refine WP.skip ?_
    refine EX.then ?_
    refine WP.seq ?_
    refine WP.region ?_
    refine WPl.v rfl (o_move rfl) ?_
    refine WPl.x 4 5 rfl rfl rfl (o_idx L127 rfl (lx rfl) rfl (by first | omega | (simp; omega)) (by first | omega | (simp; omega))) ?_
    refine WPl.x 5 6 rfl rfl rfl (o_ldqx S32 rfl (lx rfl) slx) ?_
    refine WPl.cs 6 rfl rfl rfl rfl (o_sig 6 (ren [(0, 5)]) (c52 (nth f.allPlans 0) f.shop.pigs.length (allPlans_mem hf (nth_mem (l := f.allPlans) (i := 0) (by omega) (by omega))).2 (by omega)) e52 rfl rfl rfl w52 ⟨(lx rfl), trivial⟩ r52) ?_
    refine WPl.v rfl (o_assign rfl) ?_
    refine WPl.nil ?_
    refine EX.then ?_
    refine WP.seq ?_
    refine WP.seq ?_
    refine WP.region ?_
    refine WPl.v rfl (o_assign rfl) ?_
    refine WPl.nil ?_
    refine EX.then ?_
    refine WP.block ?_
    refine WP.loop (Gh := Nat) (fun i => ⟨6, [(2, .i (0)), (3, .i (0)), (4, .e (.a (.q 3))), (6, .i (minTo (fun p => addsTo p p.length) f.allPlans i)), (7, .i ((i : Int)))], [(3, PL (EP.sl (EP.sl EP.int)) (f.allPlans))], [], [], []⟩) (fun i => i ≤ f.allPlans.length) (fun i => f.allPlans.length - i) (0) id ?_ (LeR.of ⟨rfl, rfl, rfl, rfl, rfl, trivial⟩ ⟨(lx rfl), trivial⟩ trivial rfl rfl rfl rfl rfl) ?_
    · first | trivial | omega | (constructor <;> omega) | simp
    intro i hφ
    have hi : i ≤ f.allPlans.length := hφ
    refine WP.seq ?_
    refine WP.seq ?_
    refine WP.region ?_
    refine WPl.v rfl (o_move rfl) ?_
    refine WPl.v rfl (o_move rfl) ?_
    refine WPl.v rfl (o_lenq L127 rfl (lx rfl)) ?_
    refine WPl.v rfl (o_lss rfl rfl) ?_
    refine WPl.nil ?_
    refine EX.then ?_
    refine WP.cond rfl (fun hc2 => ?_) (fun hc2 => ?_)
    · try simp only [decide_eq_true_eq, decide_eq_false_iff_not, Bool.and_eq_true, Bool.or_eq_true, Bool.and_eq_false_iff, Bool.or_eq_false_iff, Bool.not_eq_true', Bool.not_eq_false', ne_eq, Decidable.not_not] at hc2
      refine WP.skip ?_
      refine EX.then ?_
      refine WP.seq ?_
      refine WP.block ?_
      refine WP.region ?_
      refine WPl.v rfl (o_move rfl) ?_
      refine WPl.v rfl (o_move rfl) ?_
      refine WPl.v rfl (o_move rfl) ?_
      refine WPl.x 6 7 rfl rfl rfl (o_idx L127 rfl (lx rfl) rfl (by first | omega | (simp; omega)) (by first | omega | (simp; omega))) ?_
      refine WPl.x 7 8 rfl rfl rfl (o_ldqx S32 rfl (lx rfl) slx) ?_
      refine WPl.cs 8 rfl rfl rfl rfl (o_sig 8 (ren [(0, 7)]) (c52 (nth f.allPlans (i : Int)) f.shop.pigs.length (by have := allPlans_mem hf (nth_mem (l := f.allPlans) (i := (i : Int)) (by omega) (by omega)); exact this.2) (by omega)) e52 rfl rfl rfl w52 ⟨(lx rfl), trivial⟩ r52) ?_
      refine WPl.v rfl (o_min rfl rfl) ?_
      refine WPl.v rfl (o_assign rfl) ?_
      refine WPl.nil ?_
      refine EX.blk ?_
      refine EX.then ?_
      refine WP.region ?_
      refine WPl.v rfl (o_move rfl) ?_
      refine WPl.v rfl (o_add rfl rfl (by first | omega | (simp; omega)) (by first | omega | (simp; omega))) ?_
      refine WPl.v rfl (o_assign rfl) ?_
      refine WPl.nil ?_
      refine EX.again (i + 1) id (by first | omega | (constructor <;> omega)) (by omega) (LeR.of ⟨rfl, rfl, rfl, rfl, rfl, trivial⟩ ⟨(lx rfl), trivial⟩ trivial rfl rfl rfl rfl rfl)
    · try simp only [decide_eq_true_eq, decide_eq_false_iff_not, Bool.and_eq_true, Bool.or_eq_true, Bool.and_eq_false_iff, Bool.or_eq_false_iff, Bool.not_eq_true', Bool.not_eq_false', ne_eq, Decidable.not_not] at hc2
      refine WP.exit ?_
      refine EX.exit_then ?_
      refine EX.exit_then ?_
      refine EX.exit_blk ?_
      refine EX.then ?_
      refine WP.seq ?_
      refine WP.region ?_
      refine WPl.v rfl (o_move rfl) ?_
      refine WPl.v rfl (o_assign rfl) ?_
      refine WPl.v rfl (o_assign rfl) ?_
      refine WPl.nil ?_
      refine EX.then ?_
      refine WP.ret ?_
      have he : i = f.allPlans.length := by omega
      subst he
      rw [show f.onceV = minTo (fun p => addsTo p p.length) f.allPlans f.allPlans.length from by simp only [Fnd.onceV, hc0, if_true], hc0]
      exact EX.fin id (.inl rfl) rfl (.tmp rfl (.tmp rfl .nil)) rfl (by simp [SV.res, El.res, At.res, keys]) trivial (by simp) (by simp)
theorem w70O {s : Shop} : ∀ x ∈ ([.e (.g [ai (s.pounds), ai (s.tl), ai (s.th), ai (s.al), ai (s.ah), ai (s.room), ai (s.tpl), ai (s.tph), ai (s.apl), ai (s.aph), .q 0])] : List SV), x.res (keys (α := Pred) [(0, PL EPig (s.pigs))]) := by simp [SV.res, El.res, At.res, keys]
theorem r70O {s : Shop} : SV.res (keys (α := Pred) [(0, Pred.top)]) (.e (.g [ai (s.pounds), ai (s.tl), ai (s.th), ai (s.al), ai (s.ah), ai (s.room), ai (s.tpl), ai (s.tph), ai (s.apl), ai (s.aph), .q 0])) := by simp [SV.res, El.res, At.res, keys]
set_option maxHeartbeats 4000000 in
theorem c70O (s : Shop) (hl : s.pigs.length ≤ 40) : SigO Try.prog 70 [.e (.g [ai (s.pounds), ai (s.tl), ai (s.th), ai (s.al), ai (s.ah), ai (s.room), ai (s.tpl), ai (s.tph), ai (s.apl), ai (s.aph), .q 0])] [(0, PL EPig (s.pigs))] (.e (.g [ai (s.pounds), ai (s.tl), ai (s.th), ai (s.al), ai (s.ah), ai (s.room), ai (s.tpl), ai (s.tph), ai (s.apl), ai (s.aph), .q 0])) [(0, Pred.top)] [(0, .own 78 EPig.size ([] ++ s.pigs).length (RP EPig ([] ++ s.pigs)))] := by
  refine SigO.intro Try.func70 rfl 1 [(0, .e (.g [ai (s.pounds), ai (s.tl), ai (s.th), ai (s.al), ai (s.ah), ai (s.room), ai (s.tpl), ai (s.tph), ai (s.apl), ai (s.aph), .q 0]))] rfl w70O rfl rfl fun I w => ?_
  refine WP.seq ?_
  refine WP.region ?_
  refine WPl.l 1 2 rfl rfl rfl (o_boxg rfl) ?_
  refine WPl.l 2 3 rfl rfl rfl (o_alloc Z28) ?_
  refine WPl.nil ?_
  refine EX.then ?_
  refine WP.seq ?_
  refine WP.region ?_
  refine WPl.v rfl (o_ldpa G28 rfl rfl rfl) ?_
  refine WPl.l 3 4 rfl rfl rfl (o_alloc Z28) ?_
  refine WPl.s1 (o_stag G28 rfl rfl rfl ⟨rfl, rfl, rfl, rfl, rfl, rfl, rfl, rfl, rfl, rfl, (.inl ⟨_, (lx rfl), PL.one⟩), trivial⟩ rfl rfl) ?_
  refine WPl.nil ?_
  refine EX.then ?_
  refine WP.seq ?_
  refine WP.region ?_
  refine WPl.l 4 5 rfl rfl rfl (o_bsl (E := EPig) (l := []) R26 rfl rfl (.nil) rfl rfl) ?_
  refine WPl.v rfl (o_fldp F28_4 rfl) ?_
  refine WPl.v rfl (o_ldp S26 rfl rfl rfl) ?_
  refine WPl.u1 (k := 5) (m := 6) rfl rfl rfl (o_apps R26 EP.str_one rfl rfl rfl (lx rfl) (by first | omega | (simp; omega) | (simp at *; omega)) (by first | omega | (simp; omega) | (simp at *; omega))) ?_
  refine WPl.v rfl (o_fldp F28_4 rfl) ?_
  refine WPl.s1 (o_sta S26 rfl rfl rfl (.inr ⟨_, _, _, _, rfl⟩) rfl) ?_
  refine WPl.nil ?_
  refine EX.then ?_
  refine WP.seq ?_
  refine WP.region ?_
  refine WPl.v rfl (o_ldpa G28 rfl rfl rfl) ?_
  refine WPl.s1 (o_stag G28 rfl rfl rfl ⟨rfl, rfl, rfl, rfl, rfl, rfl, rfl, rfl, rfl, rfl, (.inr ⟨_, _, _, _, rfl⟩), trivial⟩ rfl rfl) ?_
  refine WPl.nil ?_
  refine EX.then ?_
  refine WP.ret ?_
  refine EX.imp (Imp.topX 5 rfl) ?_
  exact EX.finO (ren [(0, 5)]) rfl (.inl rfl) rfl (.cellg G28 rfl rfl rfl (.nil)) rfl r70O ⟨lx rfl, trivial⟩ ⟨rfl, trivial⟩ rfl rfl (by simp) (by simp)
theorem w17O {f : Fnd} : ∀ x ∈ ([.e (.g [ai (f.shop.pounds), ai (f.shop.tl), ai (f.shop.th), ai (f.shop.al), ai (f.shop.ah), ai (f.shop.room), ai (f.shop.tpl), ai (f.shop.tph), ai (f.shop.apl), ai (f.shop.aph), .q 0, .q 1])] : List SV), x.res (keys (α := Pred) [(0, PL EPig (f.shop.pigs)), (1, PL ENight (f.nights))]) := by simp [SV.res, El.res, At.res, keys]
theorem r17O {f : Fnd} : SV.res (keys (α := Pred) [(0, Pred.top), (1, Pred.top)]) (.e (.g [ai (f.shop.pounds), ai (f.shop.tl), ai (f.shop.th), ai (f.shop.al), ai (f.shop.ah), ai (f.shop.room), ai (f.shop.tpl), ai (f.shop.tph), ai (f.shop.apl), ai (f.shop.aph), .q 0, .q 1])) := by simp [SV.res, El.res, At.res, keys]
set_option maxHeartbeats 4000000 in
theorem c17O (f : Fnd) (hl : f.shop.pigs.length ≤ 40) (hn : f.nights.length ≤ 40) : SigO Try.prog 17 [.e (.g [ai (f.shop.pounds), ai (f.shop.tl), ai (f.shop.th), ai (f.shop.al), ai (f.shop.ah), ai (f.shop.room), ai (f.shop.tpl), ai (f.shop.tph), ai (f.shop.apl), ai (f.shop.aph), .q 0, .q 1])] [(0, PL EPig (f.shop.pigs)), (1, PL ENight (f.nights))] (.e (.g [ai (f.shop.pounds), ai (f.shop.tl), ai (f.shop.th), ai (f.shop.al), ai (f.shop.ah), ai (f.shop.room), ai (f.shop.tpl), ai (f.shop.tph), ai (f.shop.apl), ai (f.shop.aph), .q 0, .q 1])) [(0, Pred.top), (1, Pred.top)] [(0, .own 78 EPig.size ([] ++ f.shop.pigs).length (RP EPig ([] ++ f.shop.pigs))), (1, .own 75 ENight.size ([] ++ f.nights).length (RP ENight ([] ++ f.nights)))] := by
  refine SigO.intro Try.func17 rfl 2 [(0, .e (.g [ai (f.shop.pounds), ai (f.shop.tl), ai (f.shop.th), ai (f.shop.al), ai (f.shop.ah), ai (f.shop.room), ai (f.shop.tpl), ai (f.shop.tph), ai (f.shop.apl), ai (f.shop.aph), .q 0, .q 1]))] rfl w17O rfl rfl fun I w => ?_
  refine WP.seq ?_
  refine WP.region ?_
  refine WPl.l 2 3 rfl rfl rfl (o_boxg rfl) ?_
  refine WPl.l 3 4 rfl rfl rfl (o_alloc Z31) ?_
  refine WPl.nil ?_
  refine EX.then ?_
  refine WP.seq ?_
  refine WP.draw (nf := 7) [⟨[6, 7, 8], [5], [], [], []⟩, ⟨[6, 7, 8], [5], [], [], [0]⟩, ⟨[6, 7, 8], [5], [4], [4, 4], [0, 1]⟩, ⟨[3, 4, 5, 7, 8], [4], [5], [5], []⟩, ⟨[3, 4, 5, 6], [4, 5], [], [], []⟩, ⟨[3, 4, 5, 6], [4, 5], [], [], [4]⟩, ⟨[], [], [6], [6, 5], [0, 1, 2, 3, 4, 5]⟩, ⟨[], [], [], [], [0, 1, 2, 3, 4, 5, 6]⟩, ⟨[], [], [], [3], [0, 1, 2, 3, 4, 5, 6, 7]⟩] (by kernel_rfl) (by kernel_rfl) ?_
  refine DRQ.v rfl rfl rfl (o_fldp F31_0 rfl) ?_
  refine DRQ.v rfl rfl rfl (o_ldpg G28 rfl rfl rfl) ?_
  refine DRQ.cL rfl rfl rfl rfl (o_sigo 4 (ren [(0, 0)]) (c70O f.shop (by omega)) e70 rfl rfl SvsOK.rf w70O ⟨(lx rfl), trivial⟩ r70O rfl rfl) ?_
  refine DRQ.l 5 rfl rfl rfl rfl (o_bsl (E := ENight) (l := []) R29 rfl rfl (.nil) rfl rfl) ?_
  refine DRQ.v rfl rfl rfl (o_fldp F31_1 rfl) ?_
  refine DRQ.v rfl rfl rfl (o_ldp S29 rfl rfl rfl) ?_
  refine DRQ.l2 6 5 rfl rfl rfl rfl (o_apps R29 EP.str_one rfl rfl rfl (lx rfl) (by first | omega | (simp; omega) | (simp at *; omega)) (by first | omega | (simp; omega) | (simp at *; omega))) ?_
  refine DRQ.v rfl rfl rfl (o_build B31 rfl ⟨(.inr ⟨_, _, _, _, rfl⟩), trivial⟩ rfl rfl) ?_
  refine DRQ.s 3 rfl rfl rfl (o_stag G31 rfl rfl rfl ⟨rfl, rfl, rfl, rfl, rfl, rfl, rfl, rfl, rfl, rfl, (.inr ⟨_, _, _, _, rfl⟩), (.inr ⟨_, _, _, _, rfl⟩), trivial⟩ rfl rfl) ?_
  refine DRQ.nil' ?_
  refine EX.then ?_
  refine WP.ret ?_
  refine EX.imp (Imp.topX 6 rfl) ?_
  exact EX.finO (ren [(0, 4), (1, 6)]) rfl (.inl rfl) rfl (.cellg G31 rfl rfl rfl (.nil)) rfl r17O ⟨lx rfl, lx rfl, trivial⟩ ⟨rfl, rfl, trivial⟩ rfl rfl (by simp) (by simp)
theorem w64 {f : Fnd} {i : Int} : ∀ x ∈ ([.e (.g [ai (f.shop.pounds), ai (f.shop.tl), ai (f.shop.th), ai (f.shop.al), ai (f.shop.ah), ai (f.shop.room), ai (f.shop.tpl), ai (f.shop.tph), ai (f.shop.apl), ai (f.shop.aph), .q 0, .q 1]), .i (i)] : List SV), x.res (keys (α := Pred) [(0, PL EPig (f.shop.pigs)), (1, PL ENight (f.nights))]) := by simp [SV.res, El.res, At.res, keys]
theorem r64 {f : Fnd} {i : Int} : SV.res (keys (α := Pred) [(0, PL EPig ((f.tested i).shop.pigs)), (1, PL ENight ((f.tested i).nights))]) (.e (.g [ai ((f.tested i).shop.pounds), ai ((f.tested i).shop.tl), ai ((f.tested i).shop.th), ai ((f.tested i).shop.al), ai ((f.tested i).shop.ah), ai ((f.tested i).shop.room), ai ((f.tested i).shop.tpl), ai ((f.tested i).shop.tph), ai ((f.tested i).shop.apl), ai ((f.tested i).shop.aph), .q 0, .q 1])) := by simp [SV.res, El.res, At.res, keys]
set_option maxHeartbeats 4000000 in
theorem c64 (f : Fnd) (i : Int) (hf : f.chk = true) (hi : 0 ≤ i ∧ i < f.nights.length) : Sig Try.prog 64 [.e (.g [ai (f.shop.pounds), ai (f.shop.tl), ai (f.shop.th), ai (f.shop.al), ai (f.shop.ah), ai (f.shop.room), ai (f.shop.tpl), ai (f.shop.tph), ai (f.shop.apl), ai (f.shop.aph), .q 0, .q 1]), .i (i)] [(0, PL EPig (f.shop.pigs)), (1, PL ENight (f.nights))] (.e (.g [ai ((f.tested i).shop.pounds), ai ((f.tested i).shop.tl), ai ((f.tested i).shop.th), ai ((f.tested i).shop.al), ai ((f.tested i).shop.ah), ai ((f.tested i).shop.room), ai ((f.tested i).shop.tpl), ai ((f.tested i).shop.tph), ai ((f.tested i).shop.apl), ai ((f.tested i).shop.aph), .q 0, .q 1])) [(0, PL EPig ((f.tested i).shop.pigs)), (1, PL ENight ((f.tested i).nights))] := by
  have hcb := Fnd.chkB hf
  refine Sig.intro Try.func64 rfl 2 [(0, .e (.g [ai (f.shop.pounds), ai (f.shop.tl), ai (f.shop.th), ai (f.shop.al), ai (f.shop.ah), ai (f.shop.room), ai (f.shop.tpl), ai (f.shop.tph), ai (f.shop.apl), ai (f.shop.aph), .q 0, .q 1])), (1, .i (i))] rfl w64 rfl rfl fun I w => ?_
  refine WP.seq ?_
  refine WP.region ?_
  refine WPl.l 2 3 rfl rfl rfl (o_boxg rfl) ?_
  refine WPl.l 3 4 rfl rfl rfl (o_alloc Z31) ?_
  refine WPl.nil ?_
  refine EX.then ?_
  refine WP.seq ?_
  refine WP.region ?_
  refine WPl.v rfl (o_ldpa G31 rfl rfl rfl) ?_
  refine WPl.cL 6 rfl rfl rfl rfl rfl (o_sigo 4 (ren [(0, 0), (1, 1)]) (c17O f (by omega) (by omega)) e17 rfl rfl SvsOK.rf w17O ⟨(lx rfl), (lx rfl), trivial⟩ r17O rfl rfl) ?_
  refine WPl.l 6 7 rfl rfl rfl (o_alloc Z31) ?_
  refine WPl.s1 (o_stag G31 rfl rfl rfl ⟨rfl, rfl, rfl, rfl, rfl, rfl, rfl, rfl, rfl, rfl, (.inr ⟨_, _, _, _, rfl⟩), (.inr ⟨_, _, _, _, rfl⟩), trivial⟩ rfl rfl) ?_
  refine WPl.nil ?_
  refine EX.then ?_
  refine WP.seq ?_
  refine WP.region ?_
  refine WPl.v rfl (o_fldp F31_1 rfl) ?_
  refine WPl.v rfl (o_ldp S29 rfl rfl rfl) ?_
  refine WPl.v rfl (o_move rfl) ?_
  refine WPl.v rfl (o_idxo L29 rfl rfl rfl (by first | omega | (simp; omega)) (by first | omega | (simp; omega))) ?_
  refine WPl.v rfl (o_ldoG G75 rfl rfl rfl rfl (by first | omega | (simp; omega)) (by first | omega | (simp; omega)) (strG rfl) rfl rfl) ?_
  refine WPl.l 7 8 rfl rfl rfl (o_alloc Z75) ?_
  refine WPl.s1 (o_stag G75 rfl rfl rfl ⟨rfl, rfl, rfl, trivial⟩ rfl rfl) ?_
  refine WPl.nil ?_
  refine EX.then ?_
  refine WP.seq ?_
  refine WP.region ?_
  refine WPl.v rfl (o_fldp F75_1 rfl) ?_
  refine WPl.s1 (o_sta S3 rfl rfl rfl rfl rfl) ?_
  refine WPl.nil ?_
  refine EX.then ?_
  refine WP.seq ?_
  refine WP.region ?_
  refine WPl.v rfl (o_fldp F31_1 rfl) ?_
  refine WPl.v rfl (o_ldp S29 rfl rfl rfl) ?_
  refine WPl.v rfl (o_move rfl) ?_
  refine WPl.v rfl (o_ldpa G75 rfl rfl rfl) ?_
  refine WPl.v rfl (o_idxo L29 rfl rfl rfl (by first | omega | (simp; omega)) (by first | omega | (simp; omega))) ?_
  refine WPl.s1 (o_steE2 (z := ({ nth f.nights i with test := 1 } : Night)) Try.sizeOf75 rfl rfl rfl ⟨rfl, rfl, rfl, trivial⟩ (eok_str ⟨rfl, rfl, rfl, trivial⟩) rfl rfl rfl (by first | omega | (simp; omega)) (by first | omega | (simp; omega))) ?_
  refine WPl.nil ?_
  refine EX.then ?_
  refine WP.seq ?_
  refine WP.region ?_
  refine WPl.v rfl (o_ldpa G31 rfl rfl rfl) ?_
  refine WPl.s1 (o_stag G31 rfl rfl rfl ⟨rfl, rfl, rfl, rfl, rfl, rfl, rfl, rfl, rfl, rfl, (.inr ⟨_, _, _, _, rfl⟩), (.inr ⟨_, _, _, _, rfl⟩), trivial⟩ rfl rfl) ?_
  refine WPl.nil ?_
  refine EX.then ?_
  refine WP.ret ?_
  refine EX.imp (Imp.frz (E := EPig) (l := [] ++ f.shop.pigs) 4 rfl rfl) ?_
  refine EX.imp (Imp.frz (E := ENight) (l := lset ([] ++ f.nights) i ({ nth f.nights i with test := 1 } : Night)) 5 rfl rfl) ?_
  exact EX.fin (ren [(0, 4), (1, 5)]) (.inl rfl) rfl (.cellg G31 rfl rfl rfl (.nil)) rfl r64 ⟨(lx rfl), (lx rfl), trivial⟩ (by simp) (by simp)
end Go.Flong
