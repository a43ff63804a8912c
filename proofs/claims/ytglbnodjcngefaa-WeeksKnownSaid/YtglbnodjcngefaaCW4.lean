/- Walks (printed by gen.py off the specs). -/
import Derived.Test.YtglbnodjcngefaaCW3
import Derived.Test.YtglbnodjcngefaaProg
set_option linter.unusedSimpArgs false
set_option linter.unusedVariables false
namespace Go.Flong
open Go Go.Eng Go.Proofs
theorem e22 : Enters' Try.prog 22 := Try.call22
theorem e97 : Enters' Try.prog 97 := Try.call97
theorem e104 : Enters' Try.prog 104 := Try.call104
theorem e51 : Enters' Try.prog 51 := Try.call51
theorem e46 : Enters' Try.prog 46 := Try.call46
theorem e147 : Enters' Try.prog 147 := Try.call147
theorem e164 : Enters' Try.prog 164 := Try.call164
theorem e148 : Enters' Try.prog 148 := Try.call148
theorem e111 : Enters' Try.prog 111 := Try.call111
theorem e44 : Enters' Try.prog 44 := Try.call44
theorem e58 : Enters' Try.prog 58 := Try.call58
theorem e17 : Enters' Try.prog 17 := Try.call17
theorem G75 : TyG Try.prog 75 3 := ⟨Try.isAgg75, Try.sizeOf75⟩
theorem Z75 : Zero Try.prog 75 [ai (0), ai (0), ai (0)] := .mk Try.zeroValue75 rfl rfl
theorem e64 : Enters' Try.prog 64 := Try.call64
theorem w104 {f : Fnd} : ∀ x ∈ ([.e (.g [ai (f.shop.pounds), ai (f.shop.tl), ai (f.shop.th), ai (f.shop.al), ai (f.shop.ah), ai (f.shop.room), ai (f.shop.tpl), ai (f.shop.tph), ai (f.shop.apl), ai (f.shop.aph), .q 0, .q 1])] : List SV), x.res (keys (α := Pred) [(0, PL EPig (f.shop.pigs)), (1, PL ENight (f.nights))]) := by simp [SV.res, El.res, At.res, keys]
theorem r104 {f : Fnd} : SV.res (keys (α := Pred) [(0, PL (EP.sl (EP.sl EP.int)) (f.plansV))]) (.t [.a (.q 0), .a (ai (f.plansE))]) := by simp [SV.res, El.res, At.res, keys]
set_option maxHeartbeats 4000000 in
theorem c104 (f : Fnd)  : Sig Try.prog 104 [.e (.g [ai (f.shop.pounds), ai (f.shop.tl), ai (f.shop.th), ai (f.shop.al), ai (f.shop.ah), ai (f.shop.room), ai (f.shop.tpl), ai (f.shop.tph), ai (f.shop.apl), ai (f.shop.aph), .q 0, .q 1])] [(0, PL EPig (f.shop.pigs)), (1, PL ENight (f.nights))] (.t [.a (.q 0), .a (ai (f.plansE))]) [(0, PL (EP.sl (EP.sl EP.int)) (f.plansV))] := by
  refine Sig.intro Try.func104 rfl 2 [(0, .e (.g [ai (f.shop.pounds), ai (f.shop.tl), ai (f.shop.th), ai (f.shop.al), ai (f.shop.ah), ai (f.shop.room), ai (f.shop.tpl), ai (f.shop.tph), ai (f.shop.apl), ai (f.shop.aph), .q 0, .q 1]))] rfl w104 rfl rfl fun I w => ?_
  refine WP.seq ?_
  refine WP.region ?_
  refine WPl.l 2 3 rfl rfl rfl (o_boxg rfl) ?_
  refine WPl.v rfl (o_assign rfl) ?_
  refine WPl.v rfl (o_assign rfl) ?_
  refine WPl.nil ?_
  refine EX.then ?_
  refine WP.seq ?_
  refine WP.seq ?_
  refine WP.region ?_
  refine WPl.v rfl (o_ldpa G31 rfl rfl rfl) ?_
  refine WPl.cs 3 rfl rfl rfl rfl (o_sig 3 (ren [(0, 0), (1, 1)]) (c22 f) e22 rfl rfl rfl w22 ⟨(lx rfl), (lx rfl), trivial⟩ r22) ?_
  refine WPl.v rfl (o_assign rfl) ?_
  refine WPl.nil ?_
  refine EX.then ?_
  refine WP.seq ?_
  refine WP.region ?_
  refine WPl.v rfl (o_move rfl) ?_
  refine WPl.v rfl (o_neq rfl rfl) ?_
  refine WPl.nil ?_
  refine EX.then ?_
  refine WP.cond rfl (fun hc1 => ?_) (fun hc1 => ?_)
  · try simp only [decide_eq_true_eq, decide_eq_false_iff_not, Bool.and_eq_true, Bool.or_eq_true, Bool.and_eq_false_iff, Bool.or_eq_false_iff, Bool.not_eq_true', Bool.not_eq_false', ne_eq, Decidable.not_not] at hc1
    have hf : f.chk = false := errW_ne.1 (by simpa using hc1)
    refine WP.seq ?_
    refine WP.region ?_
    refine WPl.v rfl (o_move rfl) ?_
    refine WPl.v rfl (o_assign rfl) ?_
    refine WPl.v rfl (o_assign rfl) ?_
    refine WPl.nil ?_
    refine EX.then ?_
    refine WP.ret ?_
    refine EX.ret_then ?_
    refine EX.imp (Imp.nam 3 4 (.slice none 0 0) (R := PN (EP.sl (EP.sl EP.int))) pn_ok rfl rfl) ?_
    refine EX.imp (Imp.swF 2 3 rfl (lxr rfl)) ?_
    rw [show errW f.chk = 130 from by simp [errW, hf], show f.plansV = [] from by simp [Fnd.plansV, hf], show f.plansE = 130 from by simp [Fnd.plansE, hf]]
    exact EX.fin (ren [(0, 3)]) (.inl rfl) rfl (.tmp rfl (.tmp rfl .nil)) rfl (by simp [SV.res, El.res, At.res, keys]) ⟨lxl rfl, trivial⟩ (by simp) (by simp)
  · try simp only [decide_eq_true_eq, decide_eq_false_iff_not, Bool.and_eq_true, Bool.or_eq_true, Bool.and_eq_false_iff, Bool.or_eq_false_iff, Bool.not_eq_true', Bool.not_eq_false', ne_eq, Decidable.not_not] at hc1
    have hf : f.chk = true := errW_eq.1 (by simpa using hc1)
    have hcb := Fnd.chkB hf
    refine WP.skip ?_
    refine EX.then ?_
    refine WP.seq ?_
    refine WP.draw (nf := 5) [⟨[12, 13], [3], [], [], []⟩, ⟨[11], [], [], [], []⟩, ⟨[11], [], [3], [3], [1]⟩, ⟨[], [], [4], [4], [0, 1, 2]⟩, ⟨[], [], [], [], [0, 1, 2, 3]⟩] (by kernel_rfl) (by kernel_rfl) ?_
    refine DRQ.v rfl rfl rfl (o_ldpa G31 rfl rfl rfl) ?_
    refine DRQ.v rfl rfl rfl (o_ldpa G31 rfl rfl rfl) ?_
    refine DRQ.cs rfl rfl rfl rfl (o_sig 3 (ren [(0, 0), (1, 1)]) (c97 f (by omega)) e97 rfl rfl rfl w97 ⟨(lx rfl), (lx rfl), trivial⟩ r97) ?_
    refine DRQ.cs rfl rfl rfl rfl (o_sig 4 (ren [(0, 0), (1, 1), (2, 3)]) (c143 f 0 (List.replicate f.shop.pigs.length 0) f.nights.length hf (by omega) (by omega) (zeros_bnd f 5 (by omega)) (zeros_len f)) e143 rfl rfl rfl w143 ⟨(lx rfl), (lx rfl), (lx rfl), trivial⟩ r143) ?_
    refine DRQ.v rfl rfl rfl (o_assign rfl) ?_
    refine DRQ.nil' ?_
    refine EX.then ?_
    refine WP.seq ?_
    refine WP.seq ?_
    refine WP.region ?_
    refine WPl.v rfl (o_move rfl) ?_
    refine WPl.v rfl (o_lenq L127 rfl (lx rfl)) ?_
    refine WPl.v rfl (o_eql rfl rfl) ?_
    refine WPl.nil ?_
    refine EX.then ?_
    refine WP.cond rfl (fun hc2 => ?_) (fun hc2 => ?_)
    · try simp only [decide_eq_true_eq, decide_eq_false_iff_not, Bool.and_eq_true, Bool.or_eq_true, Bool.and_eq_false_iff, Bool.or_eq_false_iff, Bool.not_eq_true', Bool.not_eq_false', ne_eq, Decidable.not_not] at hc2
      refine WP.seq ?_
      refine WP.region ?_
      refine WPl.v rfl (o_assign rfl) ?_
      refine WPl.v rfl (o_assign rfl) ?_
      refine WPl.nil ?_
      refine EX.then ?_
      refine WP.ret ?_
      refine EX.ret_then ?_
      refine EX.imp (Imp.nam 5 6 (.slice none 0 0) (R := PN (EP.sl (EP.sl EP.int))) pn_ok rfl rfl) ?_
      refine EX.imp (Imp.swF 2 5 rfl (lxr rfl)) ?_
      have hz : f.allPlans.length = 0 := by have : (f.allPlans.length : Int) = 0 := hc2; omega
      rw [show f.plansV = [] from by simp [Fnd.plansV, hf]; exact List.length_eq_zero_iff.1 hz, show f.plansE = 3 from by simp [Fnd.plansE, hf, hz]]
      exact EX.fin (ren [(0, 5)]) (.inl rfl) rfl (.tmp rfl (.tmp rfl .nil)) rfl (by simp [SV.res, El.res, At.res, keys]) ⟨lxl rfl, trivial⟩ (by simp) (by simp)
    · try simp only [decide_eq_true_eq, decide_eq_false_iff_not, Bool.and_eq_true, Bool.or_eq_true, Bool.and_eq_false_iff, Bool.or_eq_false_iff, Bool.not_eq_true', Bool.not_eq_false', ne_eq, Decidable.not_not] at hc2
      refine WP.skip ?_
      refine EX.then ?_
      refine WP.seq ?_
      refine WP.region ?_
      refine WPl.v rfl (o_move rfl) ?_
      refine WPl.v rfl (o_assign rfl) ?_
      refine WPl.v rfl (o_assign rfl) ?_
      refine WPl.nil ?_
      refine EX.then ?_
      refine WP.ret ?_
      have hz : ¬ f.allPlans.length = 0 := by have : ¬ (f.allPlans.length : Int) = 0 := hc2; omega
      rw [show f.plansV = f.allPlans from by simp [Fnd.plansV, hf], show f.plansE = 0 from by simp [Fnd.plansE, hf, hz]]
      exact EX.fin (ren [(0, 4)]) (.inl rfl) rfl (.tmp rfl (.tmp rfl .nil)) rfl (by simp [SV.res, El.res, At.res, keys]) ⟨(lx rfl), trivial⟩ (by simp) (by simp)
theorem w46 {f : Fnd} : ∀ x ∈ ([.e (.g [ai (f.shop.pounds), ai (f.shop.tl), ai (f.shop.th), ai (f.shop.al), ai (f.shop.ah), ai (f.shop.room), ai (f.shop.tpl), ai (f.shop.tph), ai (f.shop.apl), ai (f.shop.aph), .q 0, .q 1])] : List SV), x.res (keys (α := Pred) [(0, PL EPig (f.shop.pigs)), (1, PL ENight (f.nights))]) := by simp [SV.res, El.res, At.res, keys]
theorem r46 {f : Fnd} : SV.res (keys (α := Pred) [(0, PL (EP.sl EP.int) (f.planV))]) (.t [.a (.q 0), .a (ai (f.plansE))]) := by simp [SV.res, El.res, At.res, keys]
set_option maxHeartbeats 4000000 in
theorem c46 (f : Fnd)  : Sig Try.prog 46 [.e (.g [ai (f.shop.pounds), ai (f.shop.tl), ai (f.shop.th), ai (f.shop.al), ai (f.shop.ah), ai (f.shop.room), ai (f.shop.tpl), ai (f.shop.tph), ai (f.shop.apl), ai (f.shop.aph), .q 0, .q 1])] [(0, PL EPig (f.shop.pigs)), (1, PL ENight (f.nights))] (.t [.a (.q 0), .a (ai (f.plansE))]) [(0, PL (EP.sl EP.int) (f.planV))] := by
  refine Sig.intro Try.func46 rfl 2 [(0, .e (.g [ai (f.shop.pounds), ai (f.shop.tl), ai (f.shop.th), ai (f.shop.al), ai (f.shop.ah), ai (f.shop.room), ai (f.shop.tpl), ai (f.shop.tph), ai (f.shop.apl), ai (f.shop.aph), .q 0, .q 1]))] rfl w46 rfl rfl fun I w => ?_
  refine WP.seq ?_
  refine WP.region ?_
  refine WPl.l 2 3 rfl rfl rfl (o_boxg rfl) ?_
  refine WPl.v rfl (o_assign rfl) ?_
  refine WPl.v rfl (o_assign rfl) ?_
  refine WPl.nil ?_
  refine EX.then ?_
  refine WP.seq ?_
  refine WP.region ?_
  refine WPl.v rfl (o_ldpa G31 rfl rfl rfl) ?_
  refine WPl.cs 4 rfl rfl rfl rfl (o_sig 3 (ren [(0, 0), (1, 1)]) (c104 f) e104 rfl rfl rfl w104 ⟨(lx rfl), (lx rfl), trivial⟩ r104) ?_
  refine WPl.v rfl (o_move rfl) ?_
  refine WPl.v rfl (o_extract rfl rfl) ?_
  refine WPl.v rfl (o_extract rfl rfl) ?_
  refine WPl.v rfl (o_assign rfl) ?_
  refine WPl.v rfl (o_assign rfl) ?_
  refine WPl.nil ?_
  refine EX.then ?_
  refine WP.seq ?_
  refine WP.seq ?_
  refine WP.region ?_
  refine WPl.v rfl (o_move rfl) ?_
  refine WPl.v rfl (o_neq rfl rfl) ?_
  refine WPl.nil ?_
  refine EX.then ?_
  refine WP.cond rfl (fun hc1 => ?_) (fun hc1 => ?_)
  · try simp only [decide_eq_true_eq, decide_eq_false_iff_not, Bool.and_eq_true, Bool.or_eq_true, Bool.and_eq_false_iff, Bool.or_eq_false_iff, Bool.not_eq_true', Bool.not_eq_false', ne_eq, Decidable.not_not] at hc1
    refine WP.seq ?_
    refine WP.region ?_
    refine WPl.v rfl (o_move rfl) ?_
    refine WPl.v rfl (o_assign rfl) ?_
    refine WPl.v rfl (o_assign rfl) ?_
    refine WPl.nil ?_
    refine EX.then ?_
    refine WP.ret ?_
    refine EX.ret_then ?_
    refine EX.imp (Imp.nam 4 5 (.slice none 0 0) (R := PN (EP.sl EP.int)) pn_ok rfl rfl) ?_
    refine EX.imp (Imp.swF 2 4 rfl (lxr rfl)) ?_
    rw [show f.planV = [] from by simp [Fnd.planV, hc1]]
    exact EX.fin (ren [(0, 4)]) (.inl rfl) rfl (.tmp rfl (.tmp rfl .nil)) rfl (by simp [SV.res, El.res, At.res, keys]) ⟨lxl rfl, trivial⟩ (by simp) (by simp)
  · try simp only [decide_eq_true_eq, decide_eq_false_iff_not, Bool.and_eq_true, Bool.or_eq_true, Bool.and_eq_false_iff, Bool.or_eq_false_iff, Bool.not_eq_true', Bool.not_eq_false', ne_eq, Decidable.not_not] at hc1
    have hc0 : f.plansE = 0 := by simpa using hc1
    obtain ⟨hf, hlen⟩ := plansE_eq hc0
    have hpv : f.plansV = f.allPlans := by simp [Fnd.plansV, hf]
    rw [hpv]
    have hpg := Shop.pigsOK (Fnd.shopOK hf)
    have hmx := allPlans_len hf
    have hcb := Fnd.chkB hf
    refine WP.skip ?_
    refine EX.then ?_
    refine WP.seq ?_
    refine WP.region ?_
    refine WPl.v rfl (o_move rfl) ?_
    refine WPl.x 4 5 rfl rfl rfl (o_idx L127 rfl (lx rfl) rfl (by first | omega | (simp; omega)) (by first | omega | (simp; omega))) ?_
    refine WPl.x 5 6 rfl rfl rfl (o_ldqx S32 rfl (lx rfl) slx) ?_
    refine WPl.v rfl (o_assign rfl) ?_
    refine WPl.nil ?_
    refine EX.then ?_
    refine WP.seq ?_
    refine WP.seq ?_
    refine WP.region ?_
    refine WPl.v rfl (o_assign rfl) ?_
    refine WPl.nil ?_
    refine EX.then ?_
    refine WP.block ?_
    refine WP.loop (Gh := Nat) (fun i => ⟨6, [(1, .e (.a (.p 2 (0)))), (2, .e (.a (.v (.slice none 0 0)))), (3, .i (0)), (4, .e (.a (.q 3))), (6, .e (.a (.q 5))), (7, .i ((i : Int)))], [(0, PL EPig (f.shop.pigs)), (1, PL ENight (f.nights)), (3, PL (EP.sl (EP.sl EP.int)) (f.allPlans)), (5, PL (EP.sl EP.int) (bestTo f.shop.cost f.allPlans i))], [(2, .blk [ai (f.shop.pounds), ai (f.shop.tl), ai (f.shop.th), ai (f.shop.al), ai (f.shop.ah), ai (f.shop.room), ai (f.shop.tpl), ai (f.shop.tph), ai (f.shop.apl), ai (f.shop.aph), .q 0, .q 1] 31)], [], []⟩) (fun i => i ≤ f.allPlans.length) (fun i => f.allPlans.length - i) (0) id ?_ (LeR.of ⟨rfl, rfl, rfl, rfl, rfl, rfl, trivial⟩ ⟨(lx rfl), (lx rfl), (lx rfl), (lx rfl), trivial⟩ ⟨rfl, trivial⟩ rfl rfl rfl rfl rfl) ?_
    · first | trivial | omega | (constructor <;> omega) | simp
    intro i hφ
    have hi : i ≤ f.allPlans.length := hφ
    refine WP.seq ?_
    refine WP.seq ?_
    refine WP.region ?_
    refine WPl.v rfl (o_move rfl) ?_
    refine WPl.v rfl (o_move rfl) ?_
    refine WPl.v rfl (o_lenq L127 rfl (lx rfl)) ?_
    refine WPl.v rfl (o_lss rfl rfl) ?_
    refine WPl.nil ?_
    refine EX.then ?_
    refine WP.cond rfl (fun hc2 => ?_) (fun hc2 => ?_)
    · try simp only [decide_eq_true_eq, decide_eq_false_iff_not, Bool.and_eq_true, Bool.or_eq_true, Bool.and_eq_false_iff, Bool.or_eq_false_iff, Bool.not_eq_true', Bool.not_eq_false', ne_eq, Decidable.not_not] at hc2
      refine WP.skip ?_
      refine EX.then ?_
      refine WP.seq ?_
      refine WP.block ?_
      refine WP.seq ?_
      refine WP.draw (nf := 8) [⟨[26, 27, 28, 29, 31, 32], [6, 7], [], [], []⟩, ⟨[25, 27, 31, 32], [], [], [], []⟩, ⟨[25, 26, 31, 32], [], [], [], []⟩, ⟨[25, 31, 32], [], [6], [6], [1, 2]⟩, ⟨[25, 31, 32], [], [7], [7], [1, 2, 3]⟩, ⟨[31, 32], [], [], [], [0, 1, 2, 3, 4]⟩, ⟨[25, 26, 27, 28, 29, 30, 32], [6, 7], [], [], []⟩, ⟨[25, 26, 27, 28, 29, 30, 31], [6, 7], [], [], []⟩, ⟨[], [], [], [], [0, 1, 2, 3, 4, 5, 6, 7]⟩, ⟨[], [], [], [], [0, 1, 2, 3, 4, 5, 6, 7, 8]⟩] (by kernel_rfl) (by kernel_rfl) ?_
      refine DRQ.v rfl rfl rfl (o_ldpa G31 rfl rfl rfl) ?_
      refine DRQ.v rfl rfl rfl (o_move rfl) ?_
      refine DRQ.v rfl rfl rfl (o_move rfl) ?_
      refine DRQ.x 6 rfl rfl rfl rfl (o_idx L127 rfl (lx rfl) rfl (by first | omega | (simp; omega)) (by first | omega | (simp; omega))) ?_
      refine DRQ.x 7 rfl rfl rfl rfl (o_ldqx S32 rfl (lx rfl) slx) ?_
      refine DRQ.cs rfl rfl rfl rfl (o_sig 8 (ren [(0, 0), (1, 1), (2, 7)]) (c51 f (nth f.allPlans (i : Int)) hpg (by have := allPlans_mem hf (nth_mem (l := f.allPlans) (i := (i : Int)) (by omega) (by omega)); exact this.2)) e51 rfl rfl rfl w51 ⟨(lx rfl), (lx rfl), (lx rfl), trivial⟩ r51) ?_
      refine DRQ.v rfl rfl rfl (o_ldpa G31 rfl rfl rfl) ?_
      refine DRQ.v rfl rfl rfl (o_move rfl) ?_
      refine DRQ.cs rfl rfl rfl rfl (o_sig 8 (ren [(0, 0), (1, 1), (2, 5)]) (c51 f (bestTo f.shop.cost f.allPlans i) hpg (allPlans_mem hf (bestTo_mem hlen i (by omega))).2) e51 rfl rfl rfl w51 ⟨(lx rfl), (lx rfl), (lx rfl), trivial⟩ r51) ?_
      refine DRQ.v rfl rfl rfl (o_lss rfl rfl) ?_
      refine DRQ.nil' ?_
      refine EX.then ?_
      refine WP.cond rfl (fun hc3 => ?_) (fun hc3 => ?_)
      · try simp only [decide_eq_true_eq, decide_eq_false_iff_not, Bool.and_eq_true, Bool.or_eq_true, Bool.and_eq_false_iff, Bool.or_eq_false_iff, Bool.not_eq_true', Bool.not_eq_false', ne_eq, Decidable.not_not] at hc3
        refine WP.region ?_
        refine WPl.v rfl (o_move rfl) ?_
        refine WPl.v rfl (o_move rfl) ?_
        refine WPl.x 8 9 rfl rfl rfl (o_idx L127 rfl (lx rfl) rfl (by first | omega | (simp; omega)) (by first | omega | (simp; omega))) ?_
        refine WPl.x 9 10 rfl rfl rfl (o_ldqx S32 rfl (lx rfl) slx) ?_
        refine WPl.v rfl (o_assign rfl) ?_
        refine WPl.nil ?_
        refine EX.blk ?_
        refine EX.then ?_
        refine WP.region ?_
        refine WPl.v rfl (o_move rfl) ?_
        refine WPl.v rfl (o_add rfl rfl (by first | omega | (simp; omega)) (by first | omega | (simp; omega))) ?_
        refine WPl.v rfl (o_assign rfl) ?_
        refine WPl.nil ?_
        refine EX.again (i + 1) (ren [(5, 9)]) (by first | omega | (constructor <;> omega)) (by omega) (LeR.of ⟨rfl, rfl, rfl, rfl, rfl, rfl, trivial⟩ ⟨(lx rfl), (lx rfl), (lx rfl), (has_eq (F := fun z => PL (EP.sl EP.int) z) (show (nth f.allPlans (i : Int)) = ((fun i => bestTo f.shop.cost f.allPlans i) (i + 1)) from by simp only [bestTo]; rw [if_pos hc3]) (lx rfl)), trivial⟩ ⟨rfl, trivial⟩ rfl rfl rfl rfl rfl)
      · try simp only [decide_eq_true_eq, decide_eq_false_iff_not, Bool.and_eq_true, Bool.or_eq_true, Bool.and_eq_false_iff, Bool.or_eq_false_iff, Bool.not_eq_true', Bool.not_eq_false', ne_eq, Decidable.not_not] at hc3
        refine WP.skip ?_
        refine EX.blk ?_
        refine EX.then ?_
        refine WP.region ?_
        refine WPl.v rfl (o_move rfl) ?_
        refine WPl.v rfl (o_add rfl rfl (by first | omega | (simp; omega)) (by first | omega | (simp; omega))) ?_
        refine WPl.v rfl (o_assign rfl) ?_
        refine WPl.nil ?_
        refine EX.again (i + 1) id (by first | omega | (constructor <;> omega)) (by omega) (LeR.of ⟨rfl, rfl, rfl, rfl, rfl, rfl, trivial⟩ ⟨(lx rfl), (lx rfl), (lx rfl), (has_eq (F := fun z => PL (EP.sl EP.int) z) (show (bestTo f.shop.cost f.allPlans i) = ((fun i => bestTo f.shop.cost f.allPlans i) (i + 1)) from by simp only [bestTo]; rw [if_neg hc3]) (lx rfl)), trivial⟩ ⟨rfl, trivial⟩ rfl rfl rfl rfl rfl)
    · try simp only [decide_eq_true_eq, decide_eq_false_iff_not, Bool.and_eq_true, Bool.or_eq_true, Bool.and_eq_false_iff, Bool.or_eq_false_iff, Bool.not_eq_true', Bool.not_eq_false', ne_eq, Decidable.not_not] at hc2
      refine WP.exit ?_
      refine EX.exit_then ?_
      refine EX.exit_then ?_
      refine EX.exit_blk ?_
      refine EX.then ?_
      refine WP.seq ?_
      refine WP.region ?_
      refine WPl.v rfl (o_move rfl) ?_
      refine WPl.v rfl (o_assign rfl) ?_
      refine WPl.v rfl (o_assign rfl) ?_
      refine WPl.nil ?_
      refine EX.then ?_
      refine WP.ret ?_
      have he : i = f.allPlans.length := by omega
      subst he
      rw [show f.planV = bestTo f.shop.cost f.allPlans f.allPlans.length from by simp only [Fnd.planV, hc0, if_true]; rfl, hc0]
      exact EX.fin (ren [(0, 5)]) (.inl rfl) rfl (.tmp rfl (.tmp rfl .nil)) rfl (by simp [SV.res, El.res, At.res, keys]) ⟨(lx rfl), trivial⟩ (by simp) (by simp)
theorem w44 {f : Fnd} : ∀ x ∈ ([.e (.g [ai (f.shop.pounds), ai (f.shop.tl), ai (f.shop.th), ai (f.shop.al), ai (f.shop.ah), ai (f.shop.room), ai (f.shop.tpl), ai (f.shop.tph), ai (f.shop.apl), ai (f.shop.aph), .q 0, .q 1])] : List SV), x.res (keys (α := Pred) [(0, PL EPig (f.shop.pigs)), (1, PL ENight (f.nights))]) := by simp [SV.res, El.res, At.res, keys]
theorem r44 {f : Fnd} : SV.res (keys (α := Pred) []) (.t [.a (ai (f.cheapV)), .a (ai (f.plansE))]) := by simp [SV.res, El.res, At.res, keys]
set_option maxHeartbeats 4000000 in
theorem c44 (f : Fnd)  : Sig Try.prog 44 [.e (.g [ai (f.shop.pounds), ai (f.shop.tl), ai (f.shop.th), ai (f.shop.al), ai (f.shop.ah), ai (f.shop.room), ai (f.shop.tpl), ai (f.shop.tph), ai (f.shop.apl), ai (f.shop.aph), .q 0, .q 1])] [(0, PL EPig (f.shop.pigs)), (1, PL ENight (f.nights))] (.t [.a (ai (f.cheapV)), .a (ai (f.plansE))]) [] := by
  refine Sig.intro Try.func44 rfl 2 [(0, .e (.g [ai (f.shop.pounds), ai (f.shop.tl), ai (f.shop.th), ai (f.shop.al), ai (f.shop.ah), ai (f.shop.room), ai (f.shop.tpl), ai (f.shop.tph), ai (f.shop.apl), ai (f.shop.aph), .q 0, .q 1]))] rfl w44 rfl rfl fun I w => ?_
  refine WP.seq ?_
  refine WP.region ?_
  refine WPl.l 2 3 rfl rfl rfl (o_boxg rfl) ?_
  refine WPl.v rfl (o_assign rfl) ?_
  refine WPl.v rfl (o_assign rfl) ?_
  refine WPl.nil ?_
  refine EX.then ?_
  refine WP.seq ?_
  refine WP.region ?_
  refine WPl.v rfl (o_ldpa G31 rfl rfl rfl) ?_
  refine WPl.cs 4 rfl rfl rfl rfl (o_sig 3 (ren [(0, 0), (1, 1)]) (c46 f) e46 rfl rfl rfl w46 ⟨(lx rfl), (lx rfl), trivial⟩ r46) ?_
  refine WPl.v rfl (o_move rfl) ?_
  refine WPl.v rfl (o_extract rfl rfl) ?_
  refine WPl.v rfl (o_extract rfl rfl) ?_
  refine WPl.v rfl (o_assign rfl) ?_
  refine WPl.v rfl (o_assign rfl) ?_
  refine WPl.nil ?_
  refine EX.then ?_
  refine WP.seq ?_
  refine WP.seq ?_
  refine WP.region ?_
  refine WPl.v rfl (o_move rfl) ?_
  refine WPl.v rfl (o_neq rfl rfl) ?_
  refine WPl.nil ?_
  refine EX.then ?_
  refine WP.cond rfl (fun hc1 => ?_) (fun hc1 => ?_)
  · try simp only [decide_eq_true_eq, decide_eq_false_iff_not, Bool.and_eq_true, Bool.or_eq_true, Bool.and_eq_false_iff, Bool.or_eq_false_iff, Bool.not_eq_true', Bool.not_eq_false', ne_eq, Decidable.not_not] at hc1
    refine WP.seq ?_
    refine WP.region ?_
    refine WPl.v rfl (o_move rfl) ?_
    refine WPl.v rfl (o_assign rfl) ?_
    refine WPl.v rfl (o_assign rfl) ?_
    refine WPl.nil ?_
    refine EX.then ?_
    refine WP.ret ?_
    refine EX.ret_then ?_
    rw [show f.cheapV = 0 from by simp [Fnd.cheapV, hc1]]
    exact EX.fin id (.inl rfl) rfl (.tmp rfl (.tmp rfl .nil)) rfl (by simp [SV.res, El.res, At.res, keys]) trivial (by simp) (by simp)
  · try simp only [decide_eq_true_eq, decide_eq_false_iff_not, Bool.and_eq_true, Bool.or_eq_true, Bool.and_eq_false_iff, Bool.or_eq_false_iff, Bool.not_eq_true', Bool.not_eq_false', ne_eq, Decidable.not_not] at hc1
    have hc0 : f.plansE = 0 := by simpa using hc1
    obtain ⟨hf, hlen⟩ := plansE_eq hc0
    have hpl : f.planV = f.bestPlan := by simp [Fnd.planV, hc0]
    have hm := (allPlans_mem hf (bestTo_mem (c := f.shop.cost) hlen _ (Nat.le_refl _))).2
    refine WP.skip ?_
    refine EX.then ?_
    refine WP.seq ?_
    refine WP.region ?_
    refine WPl.v rfl (o_ldpa G31 rfl rfl rfl) ?_
    refine WPl.v rfl (o_move rfl) ?_
    refine WPl.cs 4 rfl rfl rfl rfl (o_sig 4 (ren [(0, 0), (1, 1), (2, 3)]) (c51 f f.planV (Shop.pigsOK (Fnd.shopOK hf)) (by rw [hpl]; exact hm)) e51 rfl rfl rfl w51 ⟨(lx rfl), (lx rfl), (lx rfl), trivial⟩ r51) ?_
    refine WPl.v rfl (o_assign rfl) ?_
    refine WPl.v rfl (o_assign rfl) ?_
    refine WPl.nil ?_
    refine EX.then ?_
    refine WP.ret ?_
    rw [show f.cheapV = f.shop.cost f.planV from by simp [Fnd.cheapV, hc0, hpl], hc0]
    exact EX.fin id (.inl rfl) rfl (.tmp rfl (.tmp rfl .nil)) rfl (by simp [SV.res, El.res, At.res, keys]) trivial (by simp) (by simp)
theorem w147 {f : Fnd} {night : Int} {s : Sp} {before : List Int} : ∀ x ∈ ([.e (.g [ai (f.shop.pounds), ai (f.shop.tl), ai (f.shop.th), ai (f.shop.al), ai (f.shop.ah), ai (f.shop.room), ai (f.shop.tpl), ai (f.shop.tph), ai (f.shop.apl), ai (f.shop.aph), .q 0, .q 1]), .i (night), .e (.g [ai (s.tl), ai (s.th)]), .e (.g [ai (s.al), ai (s.ah)]), .e (.g [ai (s.dl), ai (s.dh)]), .e (.a (.q 2))] : List SV), x.res (keys (α := Pred) [(0, PL EPig (f.shop.pigs)), (1, PL ENight (f.nights)), (2, PL EP.int (before))]) := by simp [SV.res, El.res, At.res, keys]
theorem r147 {f : Fnd} {night : Int} {s : Sp} {before : List Int} {n : Nat} : SV.res (keys (α := Pred) []) (.i (f.now n night s before)) := by simp [SV.res, El.res, At.res, keys]
theorem w164 {f : Fnd} {night : Int} {s : Sp} {before : List Int} : ∀ x ∈ ([.e (.g [ai (f.shop.pounds), ai (f.shop.tl), ai (f.shop.th), ai (f.shop.al), ai (f.shop.ah), ai (f.shop.room), ai (f.shop.tpl), ai (f.shop.tph), ai (f.shop.apl), ai (f.shop.aph), .q 0, .q 1]), .i (night), .e (.g [ai (s.tl), ai (s.th)]), .e (.g [ai (s.al), ai (s.ah)]), .e (.g [ai (s.dl), ai (s.dh)]), .e (.a (.q 2))] : List SV), x.res (keys (α := Pred) [(0, PL EPig (f.shop.pigs)), (1, PL ENight (f.nights)), (2, PL EP.int (before))]) := by simp [SV.res, El.res, At.res, keys]
theorem r164 {f : Fnd} {night : Int} {s : Sp} {before : List Int} {n : Nat} : SV.res (keys (α := Pred) []) (.i (f.beh (f.now n (night + 1)) night s before)) := by simp [SV.res, El.res, At.res, keys]
set_option maxHeartbeats 4000000 in
theorem c164 (f : Fnd) (night : Int) (s : Sp) (before : List Int) (n : Nat) (hf : f.chk = true) (hnt : night + (n + 1 : Nat) = f.nights.length) (hn0 : 0 ≤ night) (hb : bnd before 5) (hl : before.length = f.shop.pigs.length) (hsp : SpOK f night.toNat s) (nowC : ∀ (s : Sp) (before : List Int), bnd before 5 → before.length = f.shop.pigs.length → SpOK f (night + 1).toNat s → Sig Try.prog 147 [.e (.g [ai (f.shop.pounds), ai (f.shop.tl), ai (f.shop.th), ai (f.shop.al), ai (f.shop.ah), ai (f.shop.room), ai (f.shop.tpl), ai (f.shop.tph), ai (f.shop.apl), ai (f.shop.aph), .q 0, .q 1]), .i ((night + 1)), .e (.g [ai (s.tl), ai (s.th)]), .e (.g [ai (s.al), ai (s.ah)]), .e (.g [ai (s.dl), ai (s.dh)]), .e (.a (.q 2))] [(0, PL EPig (f.shop.pigs)), (1, PL ENight (f.nights)), (2, PL EP.int (before))] (.i (f.now n (night + 1) s before)) []) : Sig Try.prog 164 [.e (.g [ai (f.shop.pounds), ai (f.shop.tl), ai (f.shop.th), ai (f.shop.al), ai (f.shop.ah), ai (f.shop.room), ai (f.shop.tpl), ai (f.shop.tph), ai (f.shop.apl), ai (f.shop.aph), .q 0, .q 1]), .i (night), .e (.g [ai (s.tl), ai (s.th)]), .e (.g [ai (s.al), ai (s.ah)]), .e (.g [ai (s.dl), ai (s.dh)]), .e (.a (.q 2))] [(0, PL EPig (f.shop.pigs)), (1, PL ENight (f.nights)), (2, PL EP.int (before))] (.i (f.beh (f.now n (night + 1)) night s before)) [] := by
  have hs := Fnd.shopOK hf
  have hpg := Shop.pigsOK hs
  have hp4 := hpg.2
  have htb := tl_bnd hs
  have hn := Fnd.nightsOK hf
  have hn4 := hn.2
  have hlh := lohi_bnd hn
  have hhi := fun i hi => Fnd.hi_le hf (i := i) hi
  have hb1 := bnd_mono hb (show (5 : Int) ≤ 1000 by omega)
  have hsp0 := hsp
  unfold SpOK at hsp0
  have hnb := Night.bnds (hn.at (show night.toNat < f.nights.length by omega))
  rw [show ((night.toNat : Nat) : Int) = night by omega] at hnb
  have hl1 := hlh night.toNat (by omega)
  have hl2 := hhi night.toNat (by omega)
  have hal := addsL_len (d := s.dl) hpg hb1 hl
  have hat := fun i hi => addsL_at (d := s.dl) hpg hb1 hl (i := i) hi
  have hnx := fun i (hi : i < (f.addsL before s.dl).length) => now_bnd hf n (night + 1) (⟨s.tl, s.th, s.al, s.ah, s.dl + (nth f.nights night).lo, s.dh + (nth f.nights night).hi⟩ : Sp) (plus before (nth (f.addsL before s.dl) (i : Int))) (isAdd_bnd (s := f.less s.dl) hpg (hat i hi).2.2).1 (isAdd_bnd (s := f.less s.dl) hpg (hat i hi).2.2).2
  have hbt := behTo_bnd hpg (nx := f.now n (night + 1)) (night := night) (s := s) hb1 hl (fun i hi => (hnx i hi).1)
  have hnv : neverC = 1073741824 := rfl
  have hspn : SpOK f (night + 1).toNat (⟨s.tl, s.th, s.al, s.ah, s.dl + (nth f.nights night).lo, s.dh + (nth f.nights night).hi⟩ : Sp) := by have := hsp.next hn (show night.toNat < f.nights.length by omega); rw [show (night + 1).toNat = night.toNat + 1 by omega]; rw [show ((night.toNat : Nat) : Int) = night by omega] at this; exact this
  refine Sig.intro Try.func164 rfl 3 [(0, .e (.g [ai (f.shop.pounds), ai (f.shop.tl), ai (f.shop.th), ai (f.shop.al), ai (f.shop.ah), ai (f.shop.room), ai (f.shop.tpl), ai (f.shop.tph), ai (f.shop.apl), ai (f.shop.aph), .q 0, .q 1])), (1, .i (night)), (2, .e (.g [ai (s.tl), ai (s.th)])), (3, .e (.g [ai (s.al), ai (s.ah)])), (4, .e (.g [ai (s.dl), ai (s.dh)])), (5, .e (.a (.q 2)))] rfl w164 rfl rfl fun I w => ?_
  refine WP.seq ?_
  refine WP.region ?_
  refine WPl.l 3 4 rfl rfl rfl (o_boxg rfl) ?_
  refine WPl.l 4 5 rfl rfl rfl (o_boxg rfl) ?_
  refine WPl.l 5 6 rfl rfl rfl (o_boxg rfl) ?_
  refine WPl.l 6 7 rfl rfl rfl (o_boxg rfl) ?_
  refine WPl.v rfl (o_assign rfl) ?_
  refine WPl.nil ?_
  refine EX.then ?_
  refine WP.seq ?_
  refine WP.region ?_
  refine WPl.v rfl (o_assign rfl) ?_
  refine WPl.nil ?_
  refine EX.then ?_
  refine WP.seq ?_
  refine WP.region ?_
  refine WPl.v rfl (o_fldp F31_1 rfl) ?_
  refine WPl.v rfl (o_ldp S29 rfl rfl rfl) ?_
  refine WPl.v rfl (o_move rfl) ?_
  refine WPl.x 7 8 rfl rfl rfl (o_idx L29 rfl (lx rfl) rfl (by first | omega | (simp; omega)) (by first | omega | (simp; omega))) ?_
  refine WPl.v rfl (o_fldq F75_0 rfl (lx rfl)) ?_
  refine WPl.v rfl (o_ldeg G23 rfl (lx rfl) (strG rfl) rfl rfl) ?_
  refine WPl.l 8 9 rfl rfl rfl (o_alloc Z23) ?_
  refine WPl.s1 (o_stag G23 rfl rfl rfl ⟨rfl, rfl, trivial⟩ rfl rfl) ?_
  refine WPl.nil ?_
  refine EX.then ?_
  refine WP.seq ?_
  refine WP.region ?_
  refine WPl.v rfl (o_ldpa G31 rfl rfl rfl) ?_
  refine WPl.v rfl (o_move rfl) ?_
  refine WPl.v rfl (o_fldp F23_0 rfl) ?_
  refine WPl.v rfl (o_ldp S3 rfl rfl rfl) ?_
  refine WPl.imp (Imp.nam 9 10 (.slice none 0 0) (R := PN EP.int) pn_ok rfl rfl) ?_
  refine WPl.cs 11 rfl rfl rfl rfl (o_sigc 10 (ren [(0, 0), (1, 1), (2, 2), (3, 9)]) (c163L f before s.dl hf hb hl (by omega)) e163 rfl rfl ⟨.inl rfl, .inl rfl, .inl rfl, .inr ⟨_, _, rfl, fun _ => rfl, (lxr rfl)⟩, trivial⟩ w163L ⟨(lx rfl), (lx rfl), (lx rfl), (lxl rfl), trivial⟩ r163L) ?_
  refine WPl.v rfl (o_assign rfl) ?_
  refine WPl.nil ?_
  refine EX.then ?_
  refine WP.seq ?_
  refine WP.seq ?_
  refine WP.region ?_
  refine WPl.v rfl (o_assign rfl) ?_
  refine WPl.nil ?_
  refine EX.then ?_
  refine WP.block ?_
  refine WP.loop (Gh := Nat) (fun i => ⟨11, [(1, .i (night)), (5, .e (.a (.q 2))), (6, .e (.a (.p 3 (0)))), (8, .e (.a (.p 4 (0)))), (9, .e (.a (.p 5 (0)))), (10, .e (.a (.p 6 (0)))), (12, .i (0)), (13, .i (f.behTo (f.now n (night + 1)) night s before i)), (14, .e (.a (.p 8 (0)))), (15, .e (.a (.q 10))), (16, .i ((i : Int)))], [(0, PL EPig (f.shop.pigs)), (1, PL ENight (f.nights)), (2, PL EP.int (before)), (10, PL (EP.sl EP.int) (f.addsL before s.dl))], [(3, .blk [ai (f.shop.pounds), ai (f.shop.tl), ai (f.shop.th), ai (f.shop.al), ai (f.shop.ah), ai (f.shop.room), ai (f.shop.tpl), ai (f.shop.tph), ai (f.shop.apl), ai (f.shop.aph), .q 0, .q 1] 31), (4, .blk [ai (s.tl), ai (s.th)] 23), (5, .blk [ai (s.al), ai (s.ah)] 23), (6, .blk [ai (s.dl), ai (s.dh)] 23), (8, .blk [ai ((nth f.nights night).lo), ai ((nth f.nights night).hi)] 23)], [], []⟩) (fun i => i ≤ (f.addsL before s.dl).length) (fun i => (f.addsL before s.dl).length - i) (0) id ?_ (LeR.of ⟨rfl, rfl, rfl, rfl, rfl, rfl, rfl, rfl, rfl, rfl, rfl, trivial⟩ ⟨(lx rfl), (lx rfl), (lx rfl), (lx rfl), trivial⟩ ⟨rfl, rfl, rfl, rfl, rfl, trivial⟩ rfl rfl rfl rfl rfl) ?_
  · first | trivial | omega | (constructor <;> omega) | simp
  intro i hφ
  have hi : i ≤ (f.addsL before s.dl).length := hφ
  refine WP.seq ?_
  refine WP.seq ?_
  refine WP.region ?_
  refine WPl.v rfl (o_move rfl) ?_
  refine WPl.v rfl (o_move rfl) ?_
  refine WPl.v rfl (o_lenq L32 rfl (lx rfl)) ?_
  refine WPl.v rfl (o_lss rfl rfl) ?_
  refine WPl.nil ?_
  refine EX.then ?_
  refine WP.cond rfl (fun hc1 => ?_) (fun hc1 => ?_)
  · try simp only [decide_eq_true_eq, decide_eq_false_iff_not, Bool.and_eq_true, Bool.or_eq_true, Bool.and_eq_false_iff, Bool.or_eq_false_iff, Bool.not_eq_true', Bool.not_eq_false', ne_eq, Decidable.not_not] at hc1
    refine WP.skip ?_
    refine EX.then ?_
    refine WP.seq ?_
    refine WP.block ?_
    refine WP.seq ?_
    refine WP.region ?_
    refine WPl.v rfl (o_move rfl) ?_
    refine WPl.v rfl (o_move rfl) ?_
    refine WPl.v rfl (o_move rfl) ?_
    refine WPl.x 11 12 rfl rfl rfl (o_idx L32 rfl (lx rfl) rfl (by first | omega | (simp; omega)) (by first | omega | (simp; omega))) ?_
    refine WPl.x 12 13 rfl rfl rfl (o_ldqx S44 rfl (lx rfl) slx) ?_
    have hq := hat i (by omega)
    have hpl2 : (plus before (nth (f.addsL before s.dl) (i : Int))).length = f.shop.pigs.length := (isAdd_bnd (s := f.less s.dl) hpg hq.2.2).1
    have hpb2 := (isAdd_bnd (s := f.less s.dl) hpg hq.2.2).2
    have hq4 := sumOf_bnd (f := Pig.pence) hpg (by rw [hq.1]; exact Nat.le_refl _) (bnd_mono hq.2.1 (show (5 : Int) ≤ 1000 by omega)) (fun p h => by have := Pig.bnds h; omega)
    have hq5 := hnx i (by omega)
    have hq6 := hbt i (by omega)
    refine WPl.cs 14 rfl rfl rfl rfl (o_sig 13 (ren [(0, 2), (1, 12)]) (c131 before (nth (f.addsL before s.dl) (i : Int)) (by omega) (by have := (hat i (by omega)).1; omega) (bnd_mono hb (by omega)) (bnd_mono (hat i (by omega)).2.1 (by omega))) e131 rfl rfl rfl w131 ⟨(lx rfl), (lx rfl), trivial⟩ r131) ?_
    refine WPl.v rfl (o_assign rfl) ?_
    refine WPl.nil ?_
    refine EX.then ?_
    refine WP.seq ?_
    refine WP.region ?_
    refine WPl.v rfl (o_ldpa G31 rfl rfl rfl) ?_
    refine WPl.v rfl (o_ldpa G23 rfl rfl rfl) ?_
    refine WPl.v rfl (o_ldpa G23 rfl rfl rfl) ?_
    refine WPl.v rfl (o_ldpa G23 rfl rfl rfl) ?_
    refine WPl.v rfl (o_move rfl) ?_
    refine WPl.cs 14 rfl rfl rfl rfl (o_sig 14 (ren [(0, 0), (1, 1), (2, 13)]) (c96 f s.tl s.th s.al s.ah s.dl s.dh (plus before (nth (f.addsL before s.dl) (i : Int))) hs (bnd_mono hpb2 (by omega)) (by rw [hpl2]; exact Nat.le_refl _) (by omega) (by omega) (by omega)) e96 rfl rfl rfl w96 ⟨(lx rfl), (lx rfl), (lx rfl), trivial⟩ r96) ?_
    refine WPl.nil ?_
    refine EX.then ?_
    refine WP.cond rfl (fun hc2 => ?_) (fun hc2 => ?_)
    · try simp only [decide_eq_true_eq, decide_eq_false_iff_not, Bool.and_eq_true, Bool.or_eq_true, Bool.and_eq_false_iff, Bool.or_eq_false_iff, Bool.not_eq_true', Bool.not_eq_false', ne_eq, Decidable.not_not] at hc2
      refine WP.draw (nf := 16) [⟨[48, 49, 50, 51, 52, 53, 54, 55, 56, 57, 58, 59, 60, 61, 62, 63, 64, 65, 66, 67, 68, 69, 70, 71, 72, 73], [14, 15], [], [], []⟩, ⟨[47, 50, 51, 52, 53, 55, 56, 57, 58, 59, 60, 61, 62, 63, 64, 65, 66, 67, 68, 69, 70, 71], [14, 15], [], [], []⟩, ⟨[47, 50, 51, 52, 53, 55, 56, 57, 58, 59, 60, 61, 62, 63, 64, 65, 66, 67, 68, 69, 70, 71], [14, 15], [], [], [1]⟩, ⟨[47, 48, 49, 51, 55, 56, 57, 58, 59, 60, 61, 62, 63, 64, 65, 66, 67, 68, 69, 70, 71], [], [], [], []⟩, ⟨[47, 48, 49, 50, 55, 56, 57, 58, 59, 60, 61, 62, 63, 64, 65, 66, 67, 68, 69, 70, 71], [], [], [], []⟩, ⟨[47, 48, 49, 55, 56, 57, 58, 59, 60, 61, 62, 63, 64, 65, 66, 67, 68, 69, 70, 71], [], [14], [14], [3, 4]⟩, ⟨[47, 48, 49, 55, 56, 57, 58, 59, 60, 61, 62, 63, 64, 65, 66, 67, 68, 69, 70, 71], [], [15], [15], [3, 4, 5]⟩, ⟨[47, 55, 56, 57, 58, 59, 60, 61, 62, 63, 64, 65, 66, 67, 68, 69, 70, 71], [], [], [], [1, 2, 3, 4, 5, 6]⟩, ⟨[47, 48, 49, 50, 51, 52, 53, 54, 56, 57, 58, 59, 60, 61, 62, 63, 64, 65, 66, 67, 68, 69, 70, 71], [14, 15], [], [], []⟩, ⟨[47, 48, 49, 50, 51, 52, 53, 54, 55, 58, 59, 60, 61, 62, 63, 64, 65, 66, 67, 68, 69, 70, 71], [14, 15], [], [], []⟩, ⟨[47, 48, 49, 50, 51, 52, 53, 54, 55, 58, 59, 60, 61, 62, 63, 64, 65, 66, 67, 68, 69, 70, 71], [14, 15], [], [], [9]⟩, ⟨[47, 48, 49, 50, 51, 52, 53, 54, 55, 56, 57, 59, 60, 61, 62, 63, 64, 65, 66, 67, 68, 69, 70, 71], [14, 15], [], [], []⟩, ⟨[47, 48, 49, 50, 51, 52, 53, 54, 55, 56, 57, 58, 60, 61, 62, 63, 64, 65, 66, 67, 68, 69, 70, 71], [14, 15], [], [], []⟩, ⟨[47, 48, 49, 50, 51, 52, 53, 54, 55, 56, 57, 58, 59, 62, 63, 65, 66, 67, 68, 69, 71], [14, 15], [], [], []⟩, ⟨[47, 48, 49, 50, 51, 52, 53, 54, 55, 56, 57, 58, 59, 62, 63, 65, 66, 67, 68, 69, 71], [14, 15], [], [], [13]⟩, ⟨[47, 48, 49, 50, 51, 52, 53, 54, 55, 56, 57, 58, 59, 60, 61, 65, 66, 67, 68, 69, 71], [14, 15], [], [], []⟩, ⟨[47, 48, 49, 50, 51, 52, 53, 54, 55, 56, 57, 58, 59, 60, 61, 65, 66, 67, 68, 69, 71], [14, 15], [], [], [15]⟩, ⟨[47, 48, 49, 50, 51, 52, 53, 54, 55, 56, 57, 58, 59, 65, 66, 67, 68, 69, 71], [14, 15], [], [], [13, 14, 15, 16]⟩, ⟨[47, 48, 49, 50, 51, 52, 53, 54, 55, 56, 57, 58, 59, 60, 61, 62, 63, 64, 67, 68, 71], [14, 15], [], [], []⟩, ⟨[47, 48, 49, 50, 51, 52, 53, 54, 55, 56, 57, 58, 59, 60, 61, 62, 63, 64, 67, 68, 71], [14, 15], [], [], [18]⟩, ⟨[47, 48, 49, 50, 51, 52, 53, 54, 55, 56, 57, 58, 59, 60, 61, 62, 63, 64, 65, 66, 71], [14, 15], [], [], []⟩, ⟨[47, 48, 49, 50, 51, 52, 53, 54, 55, 56, 57, 58, 59, 60, 61, 62, 63, 64, 65, 66, 71], [14, 15], [], [], [20]⟩, ⟨[47, 48, 49, 50, 51, 52, 53, 54, 55, 56, 57, 58, 59, 60, 61, 62, 63, 64, 71], [14, 15], [], [], [18, 19, 20, 21]⟩, ⟨[47, 48, 49, 50, 51, 52, 53, 54, 55, 56, 57, 58, 59, 71], [14, 15], [], [], [13, 14, 15, 16, 17, 18, 19, 20, 21, 22]⟩, ⟨[47, 48, 49, 50, 51, 52, 53, 54, 55, 56, 57, 58, 59, 60, 61, 62, 63, 64, 65, 66, 67, 68, 69, 70], [14, 15], [], [], []⟩, ⟨[47], [], [], [], [1, 2, 3, 4, 5, 6, 7, 8, 9, 10, 11, 12, 13, 14, 15, 16, 17, 18, 19, 20, 21, 22, 23, 24]⟩, ⟨[47], [], [], [], [1, 2, 3, 4, 5, 6, 7, 8, 9, 10, 11, 12, 13, 14, 15, 16, 17, 18, 19, 20, 21, 22, 23, 24, 25]⟩, ⟨[], [], [], [], [0, 1, 2, 3, 4, 5, 6, 7, 8, 9, 10, 11, 12, 13, 14, 15, 16, 17, 18, 19, 20, 21, 22, 23, 24, 25, 26]⟩, ⟨[], [], [], [], [0, 1, 2, 3, 4, 5, 6, 7, 8, 9, 10, 11, 12, 13, 14, 15, 16, 17, 18, 19, 20, 21, 22, 23, 24, 25, 26, 27]⟩] (by kernel_rfl) (by kernel_rfl) ?_
      refine DRQ.v rfl rfl rfl (o_move rfl) ?_
      refine DRQ.v rfl rfl rfl (o_fldp F31_0 rfl) ?_
      refine DRQ.v rfl rfl rfl (o_ldpg G28 rfl rfl rfl) ?_
      refine DRQ.v rfl rfl rfl (o_move rfl) ?_
      refine DRQ.v rfl rfl rfl (o_move rfl) ?_
      refine DRQ.x 14 rfl rfl rfl rfl (o_idx L32 rfl (lx rfl) rfl (by first | omega | (simp; omega)) (by first | omega | (simp; omega))) ?_
      refine DRQ.x 15 rfl rfl rfl rfl (o_ldqx S44 rfl (lx rfl) slx) ?_
      refine DRQ.cs rfl rfl rfl rfl (o_sig 16 (ren [(0, 0), (1, 15)]) (c108 f.shop (nth (f.addsL before s.dl) (i : Int)) hpg (bnd_mono hq.2.1 (by omega)) (by omega)) e108 rfl rfl rfl w108 ⟨(lx rfl), (lx rfl), trivial⟩ r108) ?_
      refine DRQ.v rfl rfl rfl (o_ldpa G31 rfl rfl rfl) ?_
      refine DRQ.v rfl rfl rfl (o_move rfl) ?_
      refine DRQ.v rfl rfl rfl (o_add rfl rfl (by first | omega | (simp; omega)) (by first | omega | (simp; omega))) ?_
      refine DRQ.v rfl rfl rfl (o_ldpa G23 rfl rfl rfl) ?_
      refine DRQ.v rfl rfl rfl (o_ldpa G23 rfl rfl rfl) ?_
      refine DRQ.v rfl rfl rfl (o_fldp F23_0 rfl) ?_
      refine DRQ.v rfl rfl rfl (o_ldp S3 rfl rfl rfl) ?_
      refine DRQ.v rfl rfl rfl (o_fldp F23_0 rfl) ?_
      refine DRQ.v rfl rfl rfl (o_ldp S3 rfl rfl rfl) ?_
      refine DRQ.v rfl rfl rfl (o_add rfl rfl (by first | omega | (simp; omega)) (by first | omega | (simp; omega))) ?_
      refine DRQ.v rfl rfl rfl (o_fldp F23_1 rfl) ?_
      refine DRQ.v rfl rfl rfl (o_ldp S3 rfl rfl rfl) ?_
      refine DRQ.v rfl rfl rfl (o_fldp F23_1 rfl) ?_
      refine DRQ.v rfl rfl rfl (o_ldp S3 rfl rfl rfl) ?_
      refine DRQ.v rfl rfl rfl (o_add rfl rfl (by first | omega | (simp; omega)) (by first | omega | (simp; omega))) ?_
      refine DRQ.v rfl rfl rfl (o_build B23 rfl ⟨rfl, rfl, trivial⟩ rfl rfl) ?_
      refine DRQ.v rfl rfl rfl (o_move rfl) ?_
      refine DRQ.cs rfl rfl rfl rfl (o_sig 16 (ren [(0, 0), (1, 1), (2, 13)]) (nowC (⟨s.tl, s.th, s.al, s.ah, s.dl + (nth f.nights night).lo, s.dh + (nth f.nights night).hi⟩ : Sp) (plus before (nth (f.addsL before s.dl) (i : Int))) hpb2 hpl2 hspn) e147 rfl rfl rfl w147 ⟨(lx rfl), (lx rfl), (lx rfl), trivial⟩ r147) ?_
      refine DRQ.v rfl rfl rfl (o_add rfl rfl (by first | omega | (simp; omega)) (by first | omega | (simp; omega))) ?_
      refine DRQ.v rfl rfl rfl (o_min rfl rfl) ?_
      refine DRQ.v rfl rfl rfl (o_assign rfl) ?_
      refine DRQ.nil' ?_
      refine EX.blk ?_
      refine EX.then ?_
      refine WP.region ?_
      refine WPl.v rfl (o_move rfl) ?_
      refine WPl.v rfl (o_add rfl rfl (by first | omega | (simp; omega)) (by first | omega | (simp; omega))) ?_
      refine WPl.v rfl (o_assign rfl) ?_
      refine WPl.nil ?_
      refine EX.again (i + 1) id (by first | omega | (constructor <;> omega)) (by omega) (LeR.of ⟨rfl, rfl, rfl, rfl, rfl, rfl, rfl, (congrArg (fun z => some (SV.i z)) (show (min (f.behTo (f.now n (night + 1)) night s before i) ((sumOf Pig.pence f.shop.pigs (nth (f.addsL before s.dl) (i : Int))) + (f.now n (night + 1) (⟨s.tl, s.th, s.al, s.ah, s.dl + (nth f.nights night).lo, s.dh + (nth f.nights night).hi⟩ : Sp) (plus before (nth (f.addsL before s.dl) (i : Int)))))) = ((fun i => f.behTo (f.now n (night + 1)) night s before i) (i + 1)) from by simp only [Fnd.behTo]; rw [if_pos hc2])), rfl, rfl, rfl, trivial⟩ ⟨(lx rfl), (lx rfl), (lx rfl), (lx rfl), trivial⟩ ⟨rfl, rfl, rfl, rfl, rfl, trivial⟩ rfl rfl rfl rfl rfl)
    · try simp only [decide_eq_true_eq, decide_eq_false_iff_not, Bool.and_eq_true, Bool.or_eq_true, Bool.and_eq_false_iff, Bool.or_eq_false_iff, Bool.not_eq_true', Bool.not_eq_false', ne_eq, Decidable.not_not] at hc2
      refine WP.skip ?_
      refine EX.blk ?_
      refine EX.then ?_
      refine WP.region ?_
      refine WPl.v rfl (o_move rfl) ?_
      refine WPl.v rfl (o_add rfl rfl (by first | omega | (simp; omega)) (by first | omega | (simp; omega))) ?_
      refine WPl.v rfl (o_assign rfl) ?_
      refine WPl.nil ?_
      refine EX.again (i + 1) id (by first | omega | (constructor <;> omega)) (by omega) (LeR.of ⟨rfl, rfl, rfl, rfl, rfl, rfl, rfl, (congrArg (fun z => some (SV.i z)) (show (f.behTo (f.now n (night + 1)) night s before i) = ((fun i => f.behTo (f.now n (night + 1)) night s before i) (i + 1)) from by simp only [Fnd.behTo]; rw [if_neg (by simp [hc2])])), rfl, rfl, rfl, trivial⟩ ⟨(lx rfl), (lx rfl), (lx rfl), (lx rfl), trivial⟩ ⟨rfl, rfl, rfl, rfl, rfl, trivial⟩ rfl rfl rfl rfl rfl)
  · try simp only [decide_eq_true_eq, decide_eq_false_iff_not, Bool.and_eq_true, Bool.or_eq_true, Bool.and_eq_false_iff, Bool.or_eq_false_iff, Bool.not_eq_true', Bool.not_eq_false', ne_eq, Decidable.not_not] at hc1
    refine WP.exit ?_
    refine EX.exit_then ?_
    refine EX.exit_then ?_
    refine EX.exit_blk ?_
    refine EX.then ?_
    refine WP.seq ?_
    refine WP.region ?_
    refine WPl.v rfl (o_move rfl) ?_
    refine WPl.v rfl (o_min rfl rfl) ?_
    refine WPl.v rfl (o_assign rfl) ?_
    refine WPl.nil ?_
    refine EX.then ?_
    refine WP.ret ?_
    have he : i = (f.addsL before s.dl).length := by omega
    subst he
    rw [show f.beh (f.now n (night + 1)) night s before = min (f.behTo (f.now n (night + 1)) night s before (f.addsL before s.dl).length) 1073741824 from rfl]
    exact EX.fin id (.inl rfl) rfl (.tmp rfl .nil) rfl (by simp [SV.res, El.res, At.res, keys]) trivial (by simp) (by simp)
set_option maxHeartbeats 4000000 in
theorem c147 (f : Fnd) (night : Int) (s : Sp) (before : List Int) (n : Nat) (hf : f.chk = true) (hnt : night + n = f.nights.length) (hn0 : 0 ≤ night) (hb : bnd before 5) (hl : before.length = f.shop.pigs.length) (hsp : SpOK f night.toNat s) : Sig Try.prog 147 [.e (.g [ai (f.shop.pounds), ai (f.shop.tl), ai (f.shop.th), ai (f.shop.al), ai (f.shop.ah), ai (f.shop.room), ai (f.shop.tpl), ai (f.shop.tph), ai (f.shop.apl), ai (f.shop.aph), .q 0, .q 1]), .i (night), .e (.g [ai (s.tl), ai (s.th)]), .e (.g [ai (s.al), ai (s.ah)]), .e (.g [ai (s.dl), ai (s.dh)]), .e (.a (.q 2))] [(0, PL EPig (f.shop.pigs)), (1, PL ENight (f.nights)), (2, PL EP.int (before))] (.i (f.now n night s before)) [] := by
  have hs := Fnd.shopOK hf
  have hpg := Shop.pigsOK hs
  have hp4 := hpg.2
  have htb := tl_bnd hs
  have hn := Fnd.nightsOK hf
  have hn4 := hn.2
  have hlh := lohi_bnd hn
  have hhi := fun i hi => Fnd.hi_le hf (i := i) hi
  have hb1 := bnd_mono hb (show (5 : Int) ≤ 1000 by omega)
  have hsp0 := hsp
  unfold SpOK at hsp0
  have hnv : neverC = 1073741824 := rfl
  refine Sig.intro Try.func147 rfl 3 [(0, .e (.g [ai (f.shop.pounds), ai (f.shop.tl), ai (f.shop.th), ai (f.shop.al), ai (f.shop.ah), ai (f.shop.room), ai (f.shop.tpl), ai (f.shop.tph), ai (f.shop.apl), ai (f.shop.aph), .q 0, .q 1])), (1, .i (night)), (2, .e (.g [ai (s.tl), ai (s.th)])), (3, .e (.g [ai (s.al), ai (s.ah)])), (4, .e (.g [ai (s.dl), ai (s.dh)])), (5, .e (.a (.q 2)))] rfl w147 rfl rfl fun I w => ?_
  refine WP.seq ?_
  refine WP.region ?_
  refine WPl.l 3 4 rfl rfl rfl (o_boxg rfl) ?_
  refine WPl.l 4 5 rfl rfl rfl (o_boxg rfl) ?_
  refine WPl.l 5 6 rfl rfl rfl (o_boxg rfl) ?_
  refine WPl.l 6 7 rfl rfl rfl (o_boxg rfl) ?_
  refine WPl.v rfl (o_assign rfl) ?_
  refine WPl.nil ?_
  refine EX.then ?_
  refine WP.seq ?_
  refine WP.seq ?_
  refine WP.region ?_
  refine WPl.v rfl (o_move rfl) ?_
  refine WPl.v rfl (o_fldp F31_1 rfl) ?_
  refine WPl.v rfl (o_ldp S29 rfl rfl rfl) ?_
  refine WPl.v rfl (o_lenq L29 rfl (lx rfl)) ?_
  refine WPl.v rfl (o_eql rfl rfl) ?_
  refine WPl.nil ?_
  refine EX.then ?_
  refine WP.cond rfl (fun hc1 => ?_) (fun hc1 => ?_)
  · try simp only [decide_eq_true_eq, decide_eq_false_iff_not, Bool.and_eq_true, Bool.or_eq_true, Bool.and_eq_false_iff, Bool.or_eq_false_iff, Bool.not_eq_true', Bool.not_eq_false', ne_eq, Decidable.not_not] at hc1
    obtain rfl : n = 0 := by omega
    refine WP.seq ?_
    refine WP.region ?_
    refine WPl.v rfl (o_assign rfl) ?_
    refine WPl.nil ?_
    refine EX.then ?_
    refine WP.ret ?_
    refine EX.ret_then ?_
    exact EX.fin id (.inl rfl) rfl (.tmp rfl .nil) rfl r147 trivial (by simp) (by simp)
  · try simp only [decide_eq_true_eq, decide_eq_false_iff_not, Bool.and_eq_true, Bool.or_eq_true, Bool.and_eq_false_iff, Bool.or_eq_false_iff, Bool.not_eq_true', Bool.not_eq_false', ne_eq, Decidable.not_not] at hc1
    obtain ⟨m, rfl⟩ : ∃ m, n = m + 1 := ⟨n - 1, by omega⟩
    have hl2 := hhi night.toNat (by omega)
    refine WP.skip ?_
    refine EX.then ?_
    refine WP.seq ?_
    refine WP.seq ?_
    refine WP.region ?_
    refine WPl.v rfl (o_fldp F31_1 rfl) ?_
    refine WPl.v rfl (o_ldp S29 rfl rfl rfl) ?_
    refine WPl.v rfl (o_move rfl) ?_
    refine WPl.x 7 8 rfl rfl rfl (o_idx L29 rfl (lx rfl) rfl (by first | omega | (simp; omega)) (by first | omega | (simp; omega))) ?_
    refine WPl.v rfl (o_fldq F75_1 rfl (lx rfl)) ?_
    refine WPl.v rfl (o_lde S3 rfl (lx rfl) (strI rfl)) ?_
    refine WPl.v rfl (o_eql rfl rfl) ?_
    refine WPl.nil ?_
    refine EX.then ?_
    refine WP.cond rfl (fun hc2 => ?_) (fun hc2 => ?_)
    · try simp only [decide_eq_true_eq, decide_eq_false_iff_not, Bool.and_eq_true, Bool.or_eq_true, Bool.and_eq_false_iff, Bool.or_eq_false_iff, Bool.not_eq_true', Bool.not_eq_false', ne_eq, Decidable.not_not] at hc2
      refine WP.seq ?_
      refine WP.region ?_
      refine WPl.v rfl (o_ldpa G31 rfl rfl rfl) ?_
      refine WPl.v rfl (o_move rfl) ?_
      refine WPl.v rfl (o_ldpa G23 rfl rfl rfl) ?_
      refine WPl.v rfl (o_ldpa G23 rfl rfl rfl) ?_
      refine WPl.v rfl (o_ldpa G23 rfl rfl rfl) ?_
      refine WPl.v rfl (o_move rfl) ?_
      refine WPl.cs 8 rfl rfl rfl rfl (o_sig 8 (ren [(0, 0), (1, 1), (2, 2)]) (c164 f night s before m hf (by omega) (by omega) hb hl hsp (fun s2 b2 h1 h2 h3 => c147 f (night + 1) s2 b2 m hf (by omega) (by omega) h1 h2 h3)) e164 rfl rfl rfl w164 ⟨(lx rfl), (lx rfl), (lx rfl), trivial⟩ r164) ?_
      refine WPl.v rfl (o_assign rfl) ?_
      refine WPl.nil ?_
      refine EX.then ?_
      refine WP.ret ?_
      refine EX.ret_then ?_
      rw [show f.now (m + 1) night s before = f.beh (f.now m (night + 1)) night s before from by simp only [Fnd.now]; rw [if_pos hc2]]
      exact EX.fin id (.inl rfl) rfl (.tmp rfl .nil) rfl (by simp [SV.res, El.res, At.res, keys]) trivial (by simp) (by simp)
    · try simp only [decide_eq_true_eq, decide_eq_false_iff_not, Bool.and_eq_true, Bool.or_eq_true, Bool.and_eq_false_iff, Bool.or_eq_false_iff, Bool.not_eq_true', Bool.not_eq_false', ne_eq, Decidable.not_not] at hc2
      refine WP.skip ?_
      refine EX.then ?_
      refine WP.seq ?_
      refine WP.region ?_
      refine WPl.v rfl (o_assign rfl) ?_
      refine WPl.nil ?_
      refine EX.then ?_
      refine WP.seq ?_
      refine WP.seq ?_
      refine WP.region ?_
      refine WPl.v rfl (o_fldp F23_0 rfl) ?_
      refine WPl.v rfl (o_ldp S3 rfl rfl rfl) ?_
      refine WPl.v rfl (o_assign rfl) ?_
      refine WPl.nil ?_
      refine EX.then ?_
      refine WP.block ?_
      refine WP.loop (Gh := Nat) (fun i => ⟨8, [(1, .i (night)), (5, .e (.a (.q 2))), (6, .e (.a (.p 3 (0)))), (8, .e (.a (.p 4 (0)))), (9, .e (.a (.p 5 (0)))), (10, .e (.a (.p 6 (0)))), (12, .i (0)), (13, .i (wi3 (fun t a d => f.beh (f.now m (night + 1)) night ⟨t, t, a, a, d, d⟩ before) s i)), (14, .i (s.tl + (i : Int)))], [(0, PL EPig (f.shop.pigs)), (1, PL ENight (f.nights)), (2, PL EP.int (before))], [(3, .blk [ai (f.shop.pounds), ai (f.shop.tl), ai (f.shop.th), ai (f.shop.al), ai (f.shop.ah), ai (f.shop.room), ai (f.shop.tpl), ai (f.shop.tph), ai (f.shop.apl), ai (f.shop.aph), .q 0, .q 1] 31), (4, .blk [ai (s.tl), ai (s.th)] 23), (5, .blk [ai (s.al), ai (s.ah)] 23), (6, .blk [ai (s.dl), ai (s.dh)] 23)], [], []⟩) (fun i => i ≤ (s.th - s.tl + 1).toNat) (fun i => (s.th - s.tl + 1).toNat - i) (0) id ?_ (LeR.of ⟨rfl, rfl, rfl, rfl, rfl, rfl, rfl, rfl, (congrArg (fun z => some (SV.i z)) (show (s.tl) = ((fun i => s.tl + (i : Int)) 0) from by simp)), trivial⟩ ⟨(lx rfl), (lx rfl), (lx rfl), trivial⟩ ⟨rfl, rfl, rfl, rfl, trivial⟩ rfl rfl rfl rfl rfl) ?_
      · first | trivial | omega | (constructor <;> omega) | simp
      intro i hφ
      have hi : i ≤ (s.th - s.tl + 1).toNat := hφ
      refine WP.seq ?_
      refine WP.seq ?_
      refine WP.region ?_
      refine WPl.v rfl (o_move rfl) ?_
      refine WPl.v rfl (o_fldp F23_1 rfl) ?_
      refine WPl.v rfl (o_ldp S3 rfl rfl rfl) ?_
      refine WPl.v rfl (o_leq rfl rfl) ?_
      refine WPl.nil ?_
      refine EX.then ?_
      refine WP.cond rfl (fun hc3 => ?_) (fun hc3 => ?_)
      · try simp only [decide_eq_true_eq, decide_eq_false_iff_not, Bool.and_eq_true, Bool.or_eq_true, Bool.and_eq_false_iff, Bool.or_eq_false_iff, Bool.not_eq_true', Bool.not_eq_false', ne_eq, Decidable.not_not] at hc3
        refine WP.skip ?_
        refine EX.then ?_
        refine WP.seq ?_
        refine WP.block ?_
        refine WP.seq ?_
        refine WP.region ?_
        refine WPl.v rfl (o_fldp F23_0 rfl) ?_
        refine WPl.v rfl (o_ldp S3 rfl rfl rfl) ?_
        refine WPl.v rfl (o_assign rfl) ?_
        refine WPl.nil ?_
        refine EX.then ?_
        refine WP.block ?_
        refine WP.loop (Gh := Nat) (fun j => ⟨8, [(1, .i (night)), (5, .e (.a (.q 2))), (6, .e (.a (.p 3 (0)))), (8, .e (.a (.p 4 (0)))), (9, .e (.a (.p 5 (0)))), (10, .e (.a (.p 6 (0)))), (12, .i (0)), (13, .i (wj3 (fun t a d => f.beh (f.now m (night + 1)) night ⟨t, t, a, a, d, d⟩ before) s (s.tl + (i : Int)) (wi3 (fun t a d => f.beh (f.now m (night + 1)) night ⟨t, t, a, a, d, d⟩ before) s i) j)), (14, .i (s.tl + (i : Int))), (38, .i (s.tl + (i : Int))), (39, .e (.a (.p 4 (1)))), (40, .i (s.th)), (41, .b (decide ((s.tl + (i : Int)) ≤ s.th))), (44, .e (.a (.p 5 (0)))), (45, .i (s.al)), (15, .i (s.al + (j : Int)))], [(0, PL EPig (f.shop.pigs)), (1, PL ENight (f.nights)), (2, PL EP.int (before))], [(3, .blk [ai (f.shop.pounds), ai (f.shop.tl), ai (f.shop.th), ai (f.shop.al), ai (f.shop.ah), ai (f.shop.room), ai (f.shop.tpl), ai (f.shop.tph), ai (f.shop.apl), ai (f.shop.aph), .q 0, .q 1] 31), (4, .blk [ai (s.tl), ai (s.th)] 23), (5, .blk [ai (s.al), ai (s.ah)] 23), (6, .blk [ai (s.dl), ai (s.dh)] 23)], [], []⟩) (fun j => j ≤ (s.ah - s.al + 1).toNat) (fun j => (s.ah - s.al + 1).toNat - j) (0) id ?_ (LeR.of ⟨rfl, rfl, rfl, rfl, rfl, rfl, rfl, rfl, rfl, rfl, rfl, rfl, rfl, rfl, rfl, (congrArg (fun z => some (SV.i z)) (show (s.al) = ((fun j => s.al + (j : Int)) 0) from by simp)), trivial⟩ ⟨(lx rfl), (lx rfl), (lx rfl), trivial⟩ ⟨rfl, rfl, rfl, rfl, trivial⟩ rfl rfl rfl rfl rfl) ?_
        · first | trivial | omega | (constructor <;> omega) | simp
        intro j hφ
        have hj : j ≤ (s.ah - s.al + 1).toNat := hφ
        refine WP.seq ?_
        refine WP.seq ?_
        refine WP.region ?_
        refine WPl.v rfl (o_move rfl) ?_
        refine WPl.v rfl (o_fldp F23_1 rfl) ?_
        refine WPl.v rfl (o_ldp S3 rfl rfl rfl) ?_
        refine WPl.v rfl (o_leq rfl rfl) ?_
        refine WPl.nil ?_
        refine EX.then ?_
        refine WP.cond rfl (fun hc4 => ?_) (fun hc4 => ?_)
        · try simp only [decide_eq_true_eq, decide_eq_false_iff_not, Bool.and_eq_true, Bool.or_eq_true, Bool.and_eq_false_iff, Bool.or_eq_false_iff, Bool.not_eq_true', Bool.not_eq_false', ne_eq, Decidable.not_not] at hc4
          refine WP.skip ?_
          refine EX.then ?_
          refine WP.seq ?_
          refine WP.block ?_
          refine WP.seq ?_
          refine WP.region ?_
          refine WPl.v rfl (o_fldp F23_0 rfl) ?_
          refine WPl.v rfl (o_ldp S3 rfl rfl rfl) ?_
          refine WPl.v rfl (o_assign rfl) ?_
          refine WPl.nil ?_
          refine EX.then ?_
          refine WP.block ?_
          refine WP.loop (Gh := Nat) (fun k => ⟨8, [(1, .i (night)), (5, .e (.a (.q 2))), (6, .e (.a (.p 3 (0)))), (8, .e (.a (.p 4 (0)))), (9, .e (.a (.p 5 (0)))), (10, .e (.a (.p 6 (0)))), (12, .i (0)), (13, .i (wk3 (fun t a d => f.beh (f.now m (night + 1)) night ⟨t, t, a, a, d, d⟩ before) s (s.tl + (i : Int)) (s.al + (j : Int)) (wj3 (fun t a d => f.beh (f.now m (night + 1)) night ⟨t, t, a, a, d, d⟩ before) s (s.tl + (i : Int)) (wi3 (fun t a d => f.beh (f.now m (night + 1)) night ⟨t, t, a, a, d, d⟩ before) s i) j) k)), (14, .i (s.tl + (i : Int))), (38, .i (s.tl + (i : Int))), (39, .e (.a (.p 4 (1)))), (40, .i (s.th)), (41, .b (decide ((s.tl + (i : Int)) ≤ s.th))), (44, .e (.a (.p 5 (0)))), (45, .i (s.al)), (15, .i (s.al + (j : Int))), (46, .i (s.al + (j : Int))), (47, .e (.a (.p 5 (1)))), (48, .i (s.ah)), (49, .b (decide ((s.al + (j : Int)) ≤ s.ah))), (52, .e (.a (.p 6 (0)))), (53, .i (s.dl)), (16, .i (s.dl + (k : Int)))], [(0, PL EPig (f.shop.pigs)), (1, PL ENight (f.nights)), (2, PL EP.int (before))], [(3, .blk [ai (f.shop.pounds), ai (f.shop.tl), ai (f.shop.th), ai (f.shop.al), ai (f.shop.ah), ai (f.shop.room), ai (f.shop.tpl), ai (f.shop.tph), ai (f.shop.apl), ai (f.shop.aph), .q 0, .q 1] 31), (4, .blk [ai (s.tl), ai (s.th)] 23), (5, .blk [ai (s.al), ai (s.ah)] 23), (6, .blk [ai (s.dl), ai (s.dh)] 23)], [], []⟩) (fun k => k ≤ (s.dh - s.dl + 1).toNat) (fun k => (s.dh - s.dl + 1).toNat - k) (0) id ?_ (LeR.of ⟨rfl, rfl, rfl, rfl, rfl, rfl, rfl, rfl, rfl, rfl, rfl, rfl, rfl, rfl, rfl, rfl, rfl, rfl, rfl, rfl, rfl, rfl, (congrArg (fun z => some (SV.i z)) (show (s.dl) = ((fun k => s.dl + (k : Int)) 0) from by simp)), trivial⟩ ⟨(lx rfl), (lx rfl), (lx rfl), trivial⟩ ⟨rfl, rfl, rfl, rfl, trivial⟩ rfl rfl rfl rfl rfl) ?_
          · first | trivial | omega | (constructor <;> omega) | simp
          intro k hφ
          have hk : k ≤ (s.dh - s.dl + 1).toNat := hφ
          refine WP.seq ?_
          refine WP.seq ?_
          refine WP.region ?_
          refine WPl.v rfl (o_move rfl) ?_
          refine WPl.v rfl (o_fldp F23_1 rfl) ?_
          refine WPl.v rfl (o_ldp S3 rfl rfl rfl) ?_
          refine WPl.v rfl (o_leq rfl rfl) ?_
          refine WPl.nil ?_
          refine EX.then ?_
          refine WP.cond rfl (fun hc5 => ?_) (fun hc5 => ?_)
          · try simp only [decide_eq_true_eq, decide_eq_false_iff_not, Bool.and_eq_true, Bool.or_eq_true, Bool.and_eq_false_iff, Bool.or_eq_false_iff, Bool.not_eq_true', Bool.not_eq_false', ne_eq, Decidable.not_not] at hc5
            refine WP.skip ?_
            refine EX.then ?_
            refine WP.seq ?_
            refine WP.block ?_
            refine WP.draw (nf := 8) [⟨[61, 62, 63, 64, 65, 66, 67, 68, 69, 70], [], [], [], []⟩, ⟨[60, 62, 63, 64, 65, 66, 67, 68, 69], [], [], [], []⟩, ⟨[60, 61, 63, 64, 65, 66, 67, 68, 69], [], [], [], []⟩, ⟨[60, 61, 62, 65, 67, 69], [], [], [], []⟩, ⟨[60, 61, 62, 65, 67, 69], [], [], [], [3]⟩, ⟨[60, 61, 62, 63, 64, 67, 69], [], [], [], []⟩, ⟨[60, 61, 62, 67, 69], [], [], [], [3, 4, 5]⟩, ⟨[60, 61, 62, 63, 64, 65, 66, 69], [], [], [], []⟩, ⟨[60, 61, 62, 69], [], [], [], [3, 4, 5, 6, 7]⟩, ⟨[60, 61, 62, 63, 64, 65, 66, 67, 68], [], [], [], []⟩, ⟨[60], [], [], [], [1, 2, 3, 4, 5, 6, 7, 8, 9]⟩, ⟨[], [], [], [], [0, 1, 2, 3, 4, 5, 6, 7, 8, 9, 10]⟩, ⟨[], [], [], [], [0, 1, 2, 3, 4, 5, 6, 7, 8, 9, 10, 11]⟩] (by kernel_rfl) (by kernel_rfl) ?_
            refine DRQ.v rfl rfl rfl (o_move rfl) ?_
            refine DRQ.v rfl rfl rfl (o_ldpa G31 rfl rfl rfl) ?_
            refine DRQ.v rfl rfl rfl (o_move rfl) ?_
            refine DRQ.v rfl rfl rfl (o_move rfl) ?_
            refine DRQ.cs rfl rfl rfl rfl (o_sig 8 id (c148 (s.tl + (i : Int))) e148 rfl rfl rfl w148 trivial r148) ?_
            refine DRQ.v rfl rfl rfl (o_move rfl) ?_
            refine DRQ.cs rfl rfl rfl rfl (o_sig 8 id (c148 (s.al + (j : Int))) e148 rfl rfl rfl w148 trivial r148) ?_
            refine DRQ.v rfl rfl rfl (o_move rfl) ?_
            refine DRQ.cs rfl rfl rfl rfl (o_sig 8 id (c148 (s.dl + (k : Int))) e148 rfl rfl rfl w148 trivial r148) ?_
            refine DRQ.v rfl rfl rfl (o_move rfl) ?_
            refine DRQ.cs rfl rfl rfl rfl (o_sig 8 (ren [(0, 0), (1, 1), (2, 2)]) (c164 f night (⟨s.tl + (i : Int), s.tl + (i : Int), s.al + (j : Int), s.al + (j : Int), s.dl + (k : Int), s.dl + (k : Int)⟩ : Sp) before m hf (by omega) (by omega) hb hl (by unfold SpOK; simp only []; omega) (fun s2 b2 h1 h2 h3 => c147 f (night + 1) s2 b2 m hf (by omega) (by omega) h1 h2 h3)) e164 rfl rfl rfl w164 ⟨(lx rfl), (lx rfl), (lx rfl), trivial⟩ r164) ?_
            refine DRQ.v rfl rfl rfl (o_max rfl rfl) ?_
            refine DRQ.v rfl rfl rfl (o_assign rfl) ?_
            refine DRQ.nil' ?_
            refine EX.blk ?_
            refine EX.then ?_
            refine WP.region ?_
            refine WPl.v rfl (o_move rfl) ?_
            refine WPl.v rfl (o_add rfl rfl (by first | omega | (simp; omega)) (by first | omega | (simp; omega))) ?_
            refine WPl.v rfl (o_assign rfl) ?_
            refine WPl.nil ?_
            refine EX.again (k + 1) id (by first | omega | (constructor <;> omega)) (by omega) (LeR.of ⟨rfl, rfl, rfl, rfl, rfl, rfl, rfl, rfl, rfl, rfl, rfl, rfl, rfl, rfl, rfl, rfl, rfl, rfl, rfl, rfl, rfl, rfl, (congrArg (fun z => some (SV.i z)) (show ((s.dl + (k : Int)) + 1) = ((fun k => s.dl + (k : Int)) (k + 1)) from by show s.dl + (k : Int) + 1 = s.dl + ((k + 1 : Nat) : Int); omega)), trivial⟩ ⟨(lx rfl), (lx rfl), (lx rfl), trivial⟩ ⟨rfl, rfl, rfl, rfl, trivial⟩ rfl rfl rfl rfl rfl)
          · try simp only [decide_eq_true_eq, decide_eq_false_iff_not, Bool.and_eq_true, Bool.or_eq_true, Bool.and_eq_false_iff, Bool.or_eq_false_iff, Bool.not_eq_true', Bool.not_eq_false', ne_eq, Decidable.not_not] at hc5
            refine WP.exit ?_
            refine EX.exit_then ?_
            refine EX.exit_then ?_
            refine EX.exit_blk ?_
            refine EX.blk ?_
            refine EX.then ?_
            refine WP.region ?_
            refine WPl.v rfl (o_move rfl) ?_
            refine WPl.v rfl (o_add rfl rfl (by first | omega | (simp; omega)) (by first | omega | (simp; omega))) ?_
            refine WPl.v rfl (o_assign rfl) ?_
            refine WPl.nil ?_
            refine EX.again (j + 1) id (by first | omega | (constructor <;> omega)) (by omega) (LeR.of ⟨rfl, rfl, rfl, rfl, rfl, rfl, rfl, (congrArg (fun z => some (SV.i z)) (show (wk3 (fun t a d => f.beh (f.now m (night + 1)) night ⟨t, t, a, a, d, d⟩ before) s (s.tl + (i : Int)) (s.al + (j : Int)) (wj3 (fun t a d => f.beh (f.now m (night + 1)) night ⟨t, t, a, a, d, d⟩ before) s (s.tl + (i : Int)) (wi3 (fun t a d => f.beh (f.now m (night + 1)) night ⟨t, t, a, a, d, d⟩ before) s i) j) k) = ((fun j => wj3 (fun t a d => f.beh (f.now m (night + 1)) night ⟨t, t, a, a, d, d⟩ before) s (s.tl + (i : Int)) (wi3 (fun t a d => f.beh (f.now m (night + 1)) night ⟨t, t, a, a, d, d⟩ before) s i) j) (j + 1)) from by rw [show k = (s.dh - s.dl + 1).toNat by omega]; rfl)), rfl, rfl, rfl, rfl, rfl, rfl, rfl, (congrArg (fun z => some (SV.i z)) (show ((s.al + (j : Int)) + 1) = ((fun j => s.al + (j : Int)) (j + 1)) from by show s.al + (j : Int) + 1 = s.al + ((j + 1 : Nat) : Int); omega)), trivial⟩ ⟨(lx rfl), (lx rfl), (lx rfl), trivial⟩ ⟨rfl, rfl, rfl, rfl, trivial⟩ rfl rfl rfl rfl rfl)
        · try simp only [decide_eq_true_eq, decide_eq_false_iff_not, Bool.and_eq_true, Bool.or_eq_true, Bool.and_eq_false_iff, Bool.or_eq_false_iff, Bool.not_eq_true', Bool.not_eq_false', ne_eq, Decidable.not_not] at hc4
          refine WP.exit ?_
          refine EX.exit_then ?_
          refine EX.exit_then ?_
          refine EX.exit_blk ?_
          refine EX.blk ?_
          refine EX.then ?_
          refine WP.region ?_
          refine WPl.v rfl (o_move rfl) ?_
          refine WPl.v rfl (o_add rfl rfl (by first | omega | (simp; omega)) (by first | omega | (simp; omega))) ?_
          refine WPl.v rfl (o_assign rfl) ?_
          refine WPl.nil ?_
          refine EX.again (i + 1) id (by first | omega | (constructor <;> omega)) (by omega) (LeR.of ⟨rfl, rfl, rfl, rfl, rfl, rfl, rfl, (congrArg (fun z => some (SV.i z)) (show (wj3 (fun t a d => f.beh (f.now m (night + 1)) night ⟨t, t, a, a, d, d⟩ before) s (s.tl + (i : Int)) (wi3 (fun t a d => f.beh (f.now m (night + 1)) night ⟨t, t, a, a, d, d⟩ before) s i) j) = ((fun i => wi3 (fun t a d => f.beh (f.now m (night + 1)) night ⟨t, t, a, a, d, d⟩ before) s i) (i + 1)) from by rw [show j = (s.ah - s.al + 1).toNat by omega]; rfl)), (congrArg (fun z => some (SV.i z)) (show ((s.tl + (i : Int)) + 1) = ((fun i => s.tl + (i : Int)) (i + 1)) from by show s.tl + (i : Int) + 1 = s.tl + ((i + 1 : Nat) : Int); omega)), trivial⟩ ⟨(lx rfl), (lx rfl), (lx rfl), trivial⟩ ⟨rfl, rfl, rfl, rfl, trivial⟩ rfl rfl rfl rfl rfl)
      · try simp only [decide_eq_true_eq, decide_eq_false_iff_not, Bool.and_eq_true, Bool.or_eq_true, Bool.and_eq_false_iff, Bool.or_eq_false_iff, Bool.not_eq_true', Bool.not_eq_false', ne_eq, Decidable.not_not] at hc3
        refine WP.exit ?_
        refine EX.exit_then ?_
        refine EX.exit_then ?_
        refine EX.exit_blk ?_
        refine EX.then ?_
        refine WP.seq ?_
        refine WP.region ?_
        refine WPl.v rfl (o_move rfl) ?_
        refine WPl.v rfl (o_assign rfl) ?_
        refine WPl.nil ?_
        refine EX.then ?_
        refine WP.ret ?_
        have he : i = (s.th - s.tl + 1).toNat := by omega
        subst he
        rw [show f.now (m + 1) night s before = wi3 (fun t a d => f.beh (f.now m (night + 1)) night ⟨t, t, a, a, d, d⟩ before) s (s.th - s.tl + 1).toNat from by rw [wi3_eq]; simp only [Fnd.now]; rw [if_neg hc2]]
        exact EX.fin id (.inl rfl) rfl (.tmp rfl .nil) rfl (by simp [SV.res, El.res, At.res, keys]) trivial (by simp) (by simp)
termination_by n
decreasing_by all_goals omega
theorem w111 {f : Fnd} : ∀ x ∈ ([.e (.g [ai (f.shop.pounds), ai (f.shop.tl), ai (f.shop.th), ai (f.shop.al), ai (f.shop.ah), ai (f.shop.room), ai (f.shop.tpl), ai (f.shop.tph), ai (f.shop.apl), ai (f.shop.aph), .q 0, .q 1])] : List SV), x.res (keys (α := Pred) [(0, PL EPig (f.shop.pigs)), (1, PL ENight (f.nights))]) := by simp [SV.res, El.res, At.res, keys]
theorem r111 {f : Fnd} : SV.res (keys (α := Pred) []) (.i (f.knownN)) := by simp [SV.res, El.res, At.res, keys]
set_option maxHeartbeats 4000000 in
theorem c111 (f : Fnd) (hf : f.chk = true) : Sig Try.prog 111 [.e (.g [ai (f.shop.pounds), ai (f.shop.tl), ai (f.shop.th), ai (f.shop.al), ai (f.shop.ah), ai (f.shop.room), ai (f.shop.tpl), ai (f.shop.tph), ai (f.shop.apl), ai (f.shop.aph), .q 0, .q 1])] [(0, PL EPig (f.shop.pigs)), (1, PL ENight (f.nights))] (.i (f.knownN)) [] := by
  have hcb := Fnd.chkB hf
  have htb := tl_bnd (Fnd.shopOK hf)
  refine Sig.intro Try.func111 rfl 2 [(0, .e (.g [ai (f.shop.pounds), ai (f.shop.tl), ai (f.shop.th), ai (f.shop.al), ai (f.shop.ah), ai (f.shop.room), ai (f.shop.tpl), ai (f.shop.tph), ai (f.shop.apl), ai (f.shop.aph), .q 0, .q 1]))] rfl w111 rfl rfl fun I w => ?_
  refine WP.seq ?_
  refine WP.region ?_
  refine WPl.l 2 3 rfl rfl rfl (o_boxg rfl) ?_
  refine WPl.v rfl (o_assign rfl) ?_
  refine WPl.nil ?_
  refine EX.then ?_
  refine WP.seq ?_
  refine WP.draw (nf := 4) [⟨[4, 5, 6, 7, 8, 9, 10, 11, 12, 13, 14], [3], [], [], []⟩, ⟨[3, 8, 9, 10, 11, 12, 13, 14], [3], [], [], []⟩, ⟨[3, 8, 9, 10, 11, 12, 13, 14], [3], [], [], [1]⟩, ⟨[3, 8, 9, 10, 11, 12, 13, 14], [3], [], [], [1, 2]⟩, ⟨[3, 8, 9, 10, 11, 12, 13, 14], [3], [], [], [1, 2, 3]⟩, ⟨[3, 4, 5, 6, 7, 12, 13, 14], [3], [], [], []⟩, ⟨[3, 4, 5, 6, 7, 12, 13, 14], [3], [], [], [5]⟩, ⟨[3, 4, 5, 6, 7, 12, 13, 14], [3], [], [], [5, 6]⟩, ⟨[3, 4, 5, 6, 7, 12, 13, 14], [3], [], [], [5, 6, 7]⟩, ⟨[3, 4, 5, 6, 7, 8, 9, 10, 11, 13], [], [], [], []⟩, ⟨[3, 4, 5, 6, 7, 8, 9, 10, 11, 12], [], [], [], []⟩, ⟨[3, 4, 5, 6, 7, 8, 9, 10, 11], [], [3], [3], [9, 10]⟩, ⟨[], [], [], [], [0, 1, 2, 3, 4, 5, 6, 7, 8, 9, 10, 11]⟩, ⟨[], [], [], [], [0, 1, 2, 3, 4, 5, 6, 7, 8, 9, 10, 11, 12]⟩] (by kernel_rfl) (by kernel_rfl) ?_
  refine DRQ.v rfl rfl rfl (o_ldpa G31 rfl rfl rfl) ?_
  refine DRQ.v rfl rfl rfl (o_fldp F31_0 rfl) ?_
  refine DRQ.v rfl rfl rfl (o_fldp F28_0 rfl) ?_
  refine DRQ.v rfl rfl rfl (o_fldp F25_1 rfl) ?_
  refine DRQ.v rfl rfl rfl (o_ldpg G23 rfl rfl rfl) ?_
  refine DRQ.v rfl rfl rfl (o_fldp F31_0 rfl) ?_
  refine DRQ.v rfl rfl rfl (o_fldp F28_0 rfl) ?_
  refine DRQ.v rfl rfl rfl (o_fldp F25_2 rfl) ?_
  refine DRQ.v rfl rfl rfl (o_ldpg G23 rfl rfl rfl) ?_
  refine DRQ.cs rfl rfl rfl rfl (o_sig 3 id (c148 0) e148 rfl rfl rfl w148 trivial r148) ?_
  refine DRQ.v rfl rfl rfl (o_ldpa G31 rfl rfl rfl) ?_
  refine DRQ.cs rfl rfl rfl rfl (o_sig 3 (ren [(0, 0), (1, 1)]) (c97 f (by omega)) e97 rfl rfl rfl w97 ⟨(lx rfl), (lx rfl), trivial⟩ r97) ?_
  refine DRQ.cs rfl rfl rfl rfl (o_sig 4 (ren [(0, 0), (1, 1), (2, 3)]) (c147 f 0 (⟨f.shop.tl, f.shop.th, f.shop.al, f.shop.ah, 0, 0⟩ : Sp) (List.replicate f.shop.pigs.length 0) f.nights.length hf (by omega) (by omega) (zeros_bnd f 5 (by omega)) (zeros_len f) (by unfold SpOK; simp [hiTo]; omega)) e147 rfl rfl rfl w147 ⟨(lx rfl), (lx rfl), (lx rfl), trivial⟩ r147) ?_
  refine DRQ.v rfl rfl rfl (o_assign rfl) ?_
  refine DRQ.nil' ?_
  refine EX.then ?_
  refine WP.ret ?_
  exact EX.fin id (.inl rfl) rfl (.tmp rfl .nil) rfl r111 trivial (by simp) (by simp)
theorem w58 {f : Fnd} : ∀ x ∈ ([.e (.g [ai (f.shop.pounds), ai (f.shop.tl), ai (f.shop.th), ai (f.shop.al), ai (f.shop.ah), ai (f.shop.room), ai (f.shop.tpl), ai (f.shop.tph), ai (f.shop.apl), ai (f.shop.aph), .q 0, .q 1])] : List SV), x.res (keys (α := Pred) [(0, PL EPig (f.shop.pigs)), (1, PL ENight (f.nights))]) := by simp [SV.res, El.res, At.res, keys]
theorem r58 {f : Fnd} : SV.res (keys (α := Pred) []) (.t [.a (ai (f.knownV)), .a (ai (f.knownE))]) := by simp [SV.res, El.res, At.res, keys]
set_option maxHeartbeats 4000000 in
theorem c58 (f : Fnd)  : Sig Try.prog 58 [.e (.g [ai (f.shop.pounds), ai (f.shop.tl), ai (f.shop.th), ai (f.shop.al), ai (f.shop.ah), ai (f.shop.room), ai (f.shop.tpl), ai (f.shop.tph), ai (f.shop.apl), ai (f.shop.aph), .q 0, .q 1])] [(0, PL EPig (f.shop.pigs)), (1, PL ENight (f.nights))] (.t [.a (ai (f.knownV)), .a (ai (f.knownE))]) [] := by
  refine Sig.intro Try.func58 rfl 2 [(0, .e (.g [ai (f.shop.pounds), ai (f.shop.tl), ai (f.shop.th), ai (f.shop.al), ai (f.shop.ah), ai (f.shop.room), ai (f.shop.tpl), ai (f.shop.tph), ai (f.shop.apl), ai (f.shop.aph), .q 0, .q 1]))] rfl w58 rfl rfl fun I w => ?_
  refine WP.seq ?_
  refine WP.region ?_
  refine WPl.l 2 3 rfl rfl rfl (o_boxg rfl) ?_
  refine WPl.v rfl (o_assign rfl) ?_
  refine WPl.v rfl (o_assign rfl) ?_
  refine WPl.nil ?_
  refine EX.then ?_
  refine WP.seq ?_
  refine WP.seq ?_
  refine WP.region ?_
  refine WPl.v rfl (o_ldpa G31 rfl rfl rfl) ?_
  refine WPl.cs 3 rfl rfl rfl rfl (o_sig 3 (ren [(0, 0), (1, 1)]) (c22 f) e22 rfl rfl rfl w22 ⟨(lx rfl), (lx rfl), trivial⟩ r22) ?_
  refine WPl.v rfl (o_assign rfl) ?_
  refine WPl.nil ?_
  refine EX.then ?_
  refine WP.seq ?_
  refine WP.region ?_
  refine WPl.v rfl (o_move rfl) ?_
  refine WPl.v rfl (o_neq rfl rfl) ?_
  refine WPl.nil ?_
  refine EX.then ?_
  refine WP.cond rfl (fun hc1 => ?_) (fun hc1 => ?_)
  · try simp only [decide_eq_true_eq, decide_eq_false_iff_not, Bool.and_eq_true, Bool.or_eq_true, Bool.and_eq_false_iff, Bool.or_eq_false_iff, Bool.not_eq_true', Bool.not_eq_false', ne_eq, Decidable.not_not] at hc1
    have hf : f.chk = false := errW_ne.1 (by simpa using hc1)
    refine WP.seq ?_
    refine WP.region ?_
    refine WPl.v rfl (o_move rfl) ?_
    refine WPl.v rfl (o_assign rfl) ?_
    refine WPl.v rfl (o_assign rfl) ?_
    refine WPl.nil ?_
    refine EX.then ?_
    refine WP.ret ?_
    refine EX.ret_then ?_
    rw [show errW f.chk = 130 from by simp [errW, hf], show f.knownV = 0 from by simp [Fnd.knownV, Fnd.knownE, hf], show f.knownE = 130 from by simp [Fnd.knownE, hf]]
    exact EX.fin id (.inl rfl) rfl (.tmp rfl (.tmp rfl .nil)) rfl (by simp [SV.res, El.res, At.res, keys]) trivial (by simp) (by simp)
  · try simp only [decide_eq_true_eq, decide_eq_false_iff_not, Bool.and_eq_true, Bool.or_eq_true, Bool.and_eq_false_iff, Bool.or_eq_false_iff, Bool.not_eq_true', Bool.not_eq_false', ne_eq, Decidable.not_not] at hc1
    have hf : f.chk = true := errW_eq.1 (by simpa using hc1)
    refine WP.skip ?_
    refine EX.then ?_
    refine WP.seq ?_
    refine WP.region ?_
    refine WPl.v rfl (o_ldpa G31 rfl rfl rfl) ?_
    refine WPl.cs 3 rfl rfl rfl rfl (o_sig 3 (ren [(0, 0), (1, 1)]) (c111 f hf) e111 rfl rfl rfl w111 ⟨(lx rfl), (lx rfl), trivial⟩ r111) ?_
    refine WPl.v rfl (o_assign rfl) ?_
    refine WPl.nil ?_
    refine EX.then ?_
    refine WP.seq ?_
    refine WP.seq ?_
    refine WP.region ?_
    refine WPl.v rfl (o_move rfl) ?_
    refine WPl.v rfl (o_geq rfl rfl) ?_
    refine WPl.nil ?_
    refine EX.then ?_
    refine WP.cond rfl (fun hc2 => ?_) (fun hc2 => ?_)
    · try simp only [decide_eq_true_eq, decide_eq_false_iff_not, Bool.and_eq_true, Bool.or_eq_true, Bool.and_eq_false_iff, Bool.or_eq_false_iff, Bool.not_eq_true', Bool.not_eq_false', ne_eq, Decidable.not_not] at hc2
      refine WP.seq ?_
      refine WP.region ?_
      refine WPl.v rfl (o_assign rfl) ?_
      refine WPl.v rfl (o_assign rfl) ?_
      refine WPl.nil ?_
      refine EX.then ?_
      refine WP.ret ?_
      refine EX.ret_then ?_
      have hk : f.knownE = 3 := by simp only [Fnd.knownE, hf, if_true]; exact if_pos hc2
      rw [show f.knownV = 0 from by simp [Fnd.knownV, hk], hk]
      exact EX.fin id (.inl rfl) rfl (.tmp rfl (.tmp rfl .nil)) rfl (by simp [SV.res, El.res, At.res, keys]) trivial (by simp) (by simp)
    · try simp only [decide_eq_true_eq, decide_eq_false_iff_not, Bool.and_eq_true, Bool.or_eq_true, Bool.and_eq_false_iff, Bool.or_eq_false_iff, Bool.not_eq_true', Bool.not_eq_false', ne_eq, Decidable.not_not] at hc2
      refine WP.skip ?_
      refine EX.then ?_
      refine WP.seq ?_
      refine WP.region ?_
      refine WPl.v rfl (o_move rfl) ?_
      refine WPl.v rfl (o_assign rfl) ?_
      refine WPl.v rfl (o_assign rfl) ?_
      refine WPl.nil ?_
      refine EX.then ?_
      refine WP.ret ?_
      have hk : f.knownE = 0 := by simp only [Fnd.knownE, hf, if_true]; exact if_neg hc2
      rw [show f.knownV = f.knownN from by simp [Fnd.knownV, hk], hk]
      exact EX.fin id (.inl rfl) rfl (.tmp rfl (.tmp rfl .nil)) rfl (by simp [SV.res, El.res, At.res, keys]) trivial (by simp) (by simp)
theorem w60 {f : Fnd} : ∀ x ∈ ([.e (.g [ai (f.shop.pounds), ai (f.shop.tl), ai (f.shop.th), ai (f.shop.al), ai (f.shop.ah), ai (f.shop.room), ai (f.shop.tpl), ai (f.shop.tph), ai (f.shop.apl), ai (f.shop.aph), .q 0, .q 1])] : List SV), x.res (keys (α := Pred) [(0, PL EPig (f.shop.pigs)), (1, PL ENight (f.nights))]) := by simp [SV.res, El.res, At.res, keys]
theorem r60 {f : Fnd} : SV.res (keys (α := Pred) []) (.t [.a (ai (f.worthV)), .a (ai (f.worthE))]) := by simp [SV.res, El.res, At.res, keys]
set_option maxHeartbeats 4000000 in
theorem c60 (f : Fnd)  : Sig Try.prog 60 [.e (.g [ai (f.shop.pounds), ai (f.shop.tl), ai (f.shop.th), ai (f.shop.al), ai (f.shop.ah), ai (f.shop.room), ai (f.shop.tpl), ai (f.shop.tph), ai (f.shop.apl), ai (f.shop.aph), .q 0, .q 1])] [(0, PL EPig (f.shop.pigs)), (1, PL ENight (f.nights))] (.t [.a (ai (f.worthV)), .a (ai (f.worthE))]) [] := by
  have hcv := cheapV_bnd f
  have hkv := knownV_bnd f
  refine Sig.intro Try.func60 rfl 2 [(0, .e (.g [ai (f.shop.pounds), ai (f.shop.tl), ai (f.shop.th), ai (f.shop.al), ai (f.shop.ah), ai (f.shop.room), ai (f.shop.tpl), ai (f.shop.tph), ai (f.shop.apl), ai (f.shop.aph), .q 0, .q 1]))] rfl w60 rfl rfl fun I w => ?_
  refine WP.seq ?_
  refine WP.region ?_
  refine WPl.l 2 3 rfl rfl rfl (o_boxg rfl) ?_
  refine WPl.v rfl (o_assign rfl) ?_
  refine WPl.v rfl (o_assign rfl) ?_
  refine WPl.nil ?_
  refine EX.then ?_
  refine WP.seq ?_
  refine WP.region ?_
  refine WPl.v rfl (o_ldpa G31 rfl rfl rfl) ?_
  refine WPl.cs 3 rfl rfl rfl rfl (o_sig 3 (ren [(0, 0), (1, 1)]) (c44 f) e44 rfl rfl rfl w44 ⟨(lx rfl), (lx rfl), trivial⟩ r44) ?_
  refine WPl.v rfl (o_move rfl) ?_
  refine WPl.v rfl (o_extract rfl rfl) ?_
  refine WPl.v rfl (o_extract rfl rfl) ?_
  refine WPl.v rfl (o_assign rfl) ?_
  refine WPl.v rfl (o_assign rfl) ?_
  refine WPl.nil ?_
  refine EX.then ?_
  refine WP.seq ?_
  refine WP.seq ?_
  refine WP.region ?_
  refine WPl.v rfl (o_move rfl) ?_
  refine WPl.v rfl (o_neq rfl rfl) ?_
  refine WPl.nil ?_
  refine EX.then ?_
  refine WP.cond rfl (fun hc1 => ?_) (fun hc1 => ?_)
  · try simp only [decide_eq_true_eq, decide_eq_false_iff_not, Bool.and_eq_true, Bool.or_eq_true, Bool.and_eq_false_iff, Bool.or_eq_false_iff, Bool.not_eq_true', Bool.not_eq_false', ne_eq, Decidable.not_not] at hc1
    refine WP.seq ?_
    refine WP.region ?_
    refine WPl.v rfl (o_move rfl) ?_
    refine WPl.v rfl (o_assign rfl) ?_
    refine WPl.v rfl (o_assign rfl) ?_
    refine WPl.nil ?_
    refine EX.then ?_
    refine WP.ret ?_
    refine EX.ret_then ?_
    rw [show f.worthE = f.plansE from by simp [Fnd.worthE, hc1], show f.worthV = 0 from by simp [Fnd.worthV, Fnd.worthE, hc1]]
    exact EX.fin id (.inl rfl) rfl (.tmp rfl (.tmp rfl .nil)) rfl (by simp [SV.res, El.res, At.res, keys]) trivial (by simp) (by simp)
  · try simp only [decide_eq_true_eq, decide_eq_false_iff_not, Bool.and_eq_true, Bool.or_eq_true, Bool.and_eq_false_iff, Bool.or_eq_false_iff, Bool.not_eq_true', Bool.not_eq_false', ne_eq, Decidable.not_not] at hc1
    refine WP.skip ?_
    refine EX.then ?_
    refine WP.seq ?_
    refine WP.region ?_
    refine WPl.v rfl (o_ldpa G31 rfl rfl rfl) ?_
    refine WPl.cs 3 rfl rfl rfl rfl (o_sig 3 (ren [(0, 0), (1, 1)]) (c58 f) e58 rfl rfl rfl w58 ⟨(lx rfl), (lx rfl), trivial⟩ r58) ?_
    refine WPl.v rfl (o_move rfl) ?_
    refine WPl.v rfl (o_extract rfl rfl) ?_
    refine WPl.v rfl (o_extract rfl rfl) ?_
    refine WPl.v rfl (o_assign rfl) ?_
    refine WPl.v rfl (o_assign rfl) ?_
    refine WPl.nil ?_
    refine EX.then ?_
    refine WP.seq ?_
    refine WP.seq ?_
    refine WP.region ?_
    refine WPl.v rfl (o_move rfl) ?_
    refine WPl.v rfl (o_neq rfl rfl) ?_
    refine WPl.nil ?_
    refine EX.then ?_
    refine WP.cond rfl (fun hc2 => ?_) (fun hc2 => ?_)
    · try simp only [decide_eq_true_eq, decide_eq_false_iff_not, Bool.and_eq_true, Bool.or_eq_true, Bool.and_eq_false_iff, Bool.or_eq_false_iff, Bool.not_eq_true', Bool.not_eq_false', ne_eq, Decidable.not_not] at hc2
      refine WP.seq ?_
      refine WP.region ?_
      refine WPl.v rfl (o_move rfl) ?_
      refine WPl.v rfl (o_assign rfl) ?_
      refine WPl.v rfl (o_assign rfl) ?_
      refine WPl.nil ?_
      refine EX.then ?_
      refine WP.ret ?_
      refine EX.ret_then ?_
      have h0 : f.plansE = 0 := by simpa using hc1
      rw [show f.worthE = f.knownE from by simp [Fnd.worthE, h0], show f.worthV = 0 from by simp [Fnd.worthV, Fnd.worthE, h0, hc2]]
      exact EX.fin id (.inl rfl) rfl (.tmp rfl (.tmp rfl .nil)) rfl (by simp [SV.res, El.res, At.res, keys]) trivial (by simp) (by simp)
    · try simp only [decide_eq_true_eq, decide_eq_false_iff_not, Bool.and_eq_true, Bool.or_eq_true, Bool.and_eq_false_iff, Bool.or_eq_false_iff, Bool.not_eq_true', Bool.not_eq_false', ne_eq, Decidable.not_not] at hc2
      refine WP.skip ?_
      refine EX.then ?_
      refine WP.seq ?_
      refine WP.region ?_
      refine WPl.v rfl (o_move rfl) ?_
      refine WPl.v rfl (o_move rfl) ?_
      refine WPl.v rfl (o_sub rfl rfl (by first | omega | (simp; omega)) (by first | omega | (simp; omega))) ?_
      refine WPl.v rfl (o_assign rfl) ?_
      refine WPl.v rfl (o_assign rfl) ?_
      refine WPl.nil ?_
      refine EX.then ?_
      refine WP.ret ?_
      have h0 : f.plansE = 0 := by simpa using hc1
      have h1 : f.knownE = 0 := by simpa using hc2
      have h2 : f.worthE = 0 := by simp [Fnd.worthE, h0, h1]
      rw [h2, show f.worthV = f.cheapV - f.knownV from by simp [Fnd.worthV, h2]]
      exact EX.fin id (.inl rfl) rfl (.tmp rfl (.tmp rfl .nil)) rfl (by simp [SV.res, El.res, At.res, keys]) trivial (by simp) (by simp)
theorem w70O {s : Shop} : ∀ x ∈ ([.e (.g [ai (s.pounds), ai (s.tl), ai (s.th), ai (s.al), ai (s.ah), ai (s.room), ai (s.tpl), ai (s.tph), ai (s.apl), ai (s.aph), .q 0])] : List SV), x.res (keys (α := Pred) [(0, PL EPig (s.pigs))]) := by simp [SV.res, El.res, At.res, keys]
theorem r70O {s : Shop} : SV.res (keys (α := Pred) [(0, Pred.top)]) (.e (.g [ai (s.pounds), ai (s.tl), ai (s.th), ai (s.al), ai (s.ah), ai (s.room), ai (s.tpl), ai (s.tph), ai (s.apl), ai (s.aph), .q 0])) := by simp [SV.res, El.res, At.res, keys]
set_option maxHeartbeats 4000000 in
theorem c70O (s : Shop) (hl : s.pigs.length ≤ 40) : SigO Try.prog 70 [.e (.g [ai (s.pounds), ai (s.tl), ai (s.th), ai (s.al), ai (s.ah), ai (s.room), ai (s.tpl), ai (s.tph), ai (s.apl), ai (s.aph), .q 0])] [(0, PL EPig (s.pigs))] (.e (.g [ai (s.pounds), ai (s.tl), ai (s.th), ai (s.al), ai (s.ah), ai (s.room), ai (s.tpl), ai (s.tph), ai (s.apl), ai (s.aph), .q 0])) [(0, Pred.top)] [(0, .own 78 EPig.size ([] ++ s.pigs).length (RP EPig ([] ++ s.pigs)))] := by
  refine SigO.intro Try.func70 rfl 1 [(0, .e (.g [ai (s.pounds), ai (s.tl), ai (s.th), ai (s.al), ai (s.ah), ai (s.room), ai (s.tpl), ai (s.tph), ai (s.apl), ai (s.aph), .q 0]))] rfl w70O rfl rfl fun I w => ?_
  refine WP.seq ?_
  refine WP.region ?_
  refine WPl.l 1 2 rfl rfl rfl (o_boxg rfl) ?_
  refine WPl.l 2 3 rfl rfl rfl (o_alloc Z28) ?_
  refine WPl.nil ?_
  refine EX.then ?_
  refine WP.seq ?_
  refine WP.region ?_
  refine WPl.v rfl (o_ldpa G28 rfl rfl rfl) ?_
  refine WPl.l 3 4 rfl rfl rfl (o_alloc Z28) ?_
  refine WPl.s1 (o_stag G28 rfl rfl rfl ⟨rfl, rfl, rfl, rfl, rfl, rfl, rfl, rfl, rfl, rfl, (.inl ⟨_, (lx rfl), PL.one⟩), trivial⟩ rfl rfl) ?_
  refine WPl.nil ?_
  refine EX.then ?_
  refine WP.seq ?_
  refine WP.region ?_
  refine WPl.l 4 5 rfl rfl rfl (o_bsl (E := EPig) (l := []) R26 rfl rfl (.nil) rfl rfl) ?_
  refine WPl.v rfl (o_fldp F28_4 rfl) ?_
  refine WPl.v rfl (o_ldp S26 rfl rfl rfl) ?_
  refine WPl.u1 (k := 5) (m := 6) rfl rfl rfl (o_apps R26 EP.str_one rfl rfl rfl (lx rfl) (by first | omega | (simp; omega) | (simp at *; omega)) (by first | omega | (simp; omega) | (simp at *; omega))) ?_
  refine WPl.v rfl (o_fldp F28_4 rfl) ?_
  refine WPl.s1 (o_sta S26 rfl rfl rfl (.inr ⟨_, _, _, _, rfl⟩) rfl) ?_
  refine WPl.nil ?_
  refine EX.then ?_
  refine WP.seq ?_
  refine WP.region ?_
  refine WPl.v rfl (o_ldpa G28 rfl rfl rfl) ?_
  refine WPl.s1 (o_stag G28 rfl rfl rfl ⟨rfl, rfl, rfl, rfl, rfl, rfl, rfl, rfl, rfl, rfl, (.inr ⟨_, _, _, _, rfl⟩), trivial⟩ rfl rfl) ?_
  refine WPl.nil ?_
  refine EX.then ?_
  refine WP.ret ?_
  refine EX.imp (Imp.topX 5 rfl) ?_
  exact EX.finO (ren [(0, 5)]) rfl (.inl rfl) rfl (.cellg G28 rfl rfl rfl (.nil)) rfl r70O ⟨lx rfl, trivial⟩ ⟨rfl, trivial⟩ rfl rfl (by simp) (by simp)
theorem w17O {f : Fnd} : ∀ x ∈ ([.e (.g [ai (f.shop.pounds), ai (f.shop.tl), ai (f.shop.th), ai (f.shop.al), ai (f.shop.ah), ai (f.shop.room), ai (f.shop.tpl), ai (f.shop.tph), ai (f.shop.apl), ai (f.shop.aph), .q 0, .q 1])] : List SV), x.res (keys (α := Pred) [(0, PL EPig (f.shop.pigs)), (1, PL ENight (f.nights))]) := by simp [SV.res, El.res, At.res, keys]
theorem r17O {f : Fnd} : SV.res (keys (α := Pred) [(0, Pred.top), (1, Pred.top)]) (.e (.g [ai (f.shop.pounds), ai (f.shop.tl), ai (f.shop.th), ai (f.shop.al), ai (f.shop.ah), ai (f.shop.room), ai (f.shop.tpl), ai (f.shop.tph), ai (f.shop.apl), ai (f.shop.aph), .q 0, .q 1])) := by simp [SV.res, El.res, At.res, keys]
set_option maxHeartbeats 4000000 in
theorem c17O (f : Fnd) (hl : f.shop.pigs.length ≤ 40) (hn : f.nights.length ≤ 40) : SigO Try.prog 17 [.e (.g [ai (f.shop.pounds), ai (f.shop.tl), ai (f.shop.th), ai (f.shop.al), ai (f.shop.ah), ai (f.shop.room), ai (f.shop.tpl), ai (f.shop.tph), ai (f.shop.apl), ai (f.shop.aph), .q 0, .q 1])] [(0, PL EPig (f.shop.pigs)), (1, PL ENight (f.nights))] (.e (.g [ai (f.shop.pounds), ai (f.shop.tl), ai (f.shop.th), ai (f.shop.al), ai (f.shop.ah), ai (f.shop.room), ai (f.shop.tpl), ai (f.shop.tph), ai (f.shop.apl), ai (f.shop.aph), .q 0, .q 1])) [(0, Pred.top), (1, Pred.top)] [(0, .own 78 EPig.size ([] ++ f.shop.pigs).length (RP EPig ([] ++ f.shop.pigs))), (1, .own 75 ENight.size ([] ++ f.nights).length (RP ENight ([] ++ f.nights)))] := by
  refine SigO.intro Try.func17 rfl 2 [(0, .e (.g [ai (f.shop.pounds), ai (f.shop.tl), ai (f.shop.th), ai (f.shop.al), ai (f.shop.ah), ai (f.shop.room), ai (f.shop.tpl), ai (f.shop.tph), ai (f.shop.apl), ai (f.shop.aph), .q 0, .q 1]))] rfl w17O rfl rfl fun I w => ?_
  refine WP.seq ?_
  refine WP.region ?_
  refine WPl.l 2 3 rfl rfl rfl (o_boxg rfl) ?_
  refine WPl.l 3 4 rfl rfl rfl (o_alloc Z31) ?_
  refine WPl.nil ?_
  refine EX.then ?_
  refine WP.seq ?_
  refine WP.draw (nf := 7) [⟨[6, 7, 8], [5], [], [], []⟩, ⟨[6, 7, 8], [5], [], [], [0]⟩, ⟨[6, 7, 8], [5], [4], [4, 4], [0, 1]⟩, ⟨[3, 4, 5, 7, 8], [4], [5], [5], []⟩, ⟨[3, 4, 5, 6], [4, 5], [], [], []⟩, ⟨[3, 4, 5, 6], [4, 5], [], [], [4]⟩, ⟨[], [], [6], [6, 5], [0, 1, 2, 3, 4, 5]⟩, ⟨[], [], [], [], [0, 1, 2, 3, 4, 5, 6]⟩, ⟨[], [], [], [3], [0, 1, 2, 3, 4, 5, 6, 7]⟩] (by kernel_rfl) (by kernel_rfl) ?_
  refine DRQ.v rfl rfl rfl (o_fldp F31_0 rfl) ?_
  refine DRQ.v rfl rfl rfl (o_ldpg G28 rfl rfl rfl) ?_
  refine DRQ.cL rfl rfl rfl rfl (o_sigo 4 (ren [(0, 0)]) (c70O f.shop (by omega)) e70 rfl rfl SvsOK.rf w70O ⟨(lx rfl), trivial⟩ r70O rfl rfl) ?_
  refine DRQ.l 5 rfl rfl rfl rfl (o_bsl (E := ENight) (l := []) R29 rfl rfl (.nil) rfl rfl) ?_
  refine DRQ.v rfl rfl rfl (o_fldp F31_1 rfl) ?_
  refine DRQ.v rfl rfl rfl (o_ldp S29 rfl rfl rfl) ?_
  refine DRQ.l2 6 5 rfl rfl rfl rfl (o_apps R29 EP.str_one rfl rfl rfl (lx rfl) (by first | omega | (simp; omega) | (simp at *; omega)) (by first | omega | (simp; omega) | (simp at *; omega))) ?_
  refine DRQ.v rfl rfl rfl (o_build B31 rfl ⟨(.inr ⟨_, _, _, _, rfl⟩), trivial⟩ rfl rfl) ?_
  refine DRQ.s 3 rfl rfl rfl (o_stag G31 rfl rfl rfl ⟨rfl, rfl, rfl, rfl, rfl, rfl, rfl, rfl, rfl, rfl, (.inr ⟨_, _, _, _, rfl⟩), (.inr ⟨_, _, _, _, rfl⟩), trivial⟩ rfl rfl) ?_
  refine DRQ.nil' ?_
  refine EX.then ?_
  refine WP.ret ?_
  refine EX.imp (Imp.topX 6 rfl) ?_
  exact EX.finO (ren [(0, 4), (1, 6)]) rfl (.inl rfl) rfl (.cellg G31 rfl rfl rfl (.nil)) rfl r17O ⟨lx rfl, lx rfl, trivial⟩ ⟨rfl, rfl, trivial⟩ rfl rfl (by simp) (by simp)
theorem w64 {f : Fnd} {i : Int} : ∀ x ∈ ([.e (.g [ai (f.shop.pounds), ai (f.shop.tl), ai (f.shop.th), ai (f.shop.al), ai (f.shop.ah), ai (f.shop.room), ai (f.shop.tpl), ai (f.shop.tph), ai (f.shop.apl), ai (f.shop.aph), .q 0, .q 1]), .i (i)] : List SV), x.res (keys (α := Pred) [(0, PL EPig (f.shop.pigs)), (1, PL ENight (f.nights))]) := by simp [SV.res, El.res, At.res, keys]
theorem r64 {f : Fnd} {i : Int} : SV.res (keys (α := Pred) [(0, PL EPig ((f.tested i).shop.pigs)), (1, PL ENight ((f.tested i).nights))]) (.e (.g [ai ((f.tested i).shop.pounds), ai ((f.tested i).shop.tl), ai ((f.tested i).shop.th), ai ((f.tested i).shop.al), ai ((f.tested i).shop.ah), ai ((f.tested i).shop.room), ai ((f.tested i).shop.tpl), ai ((f.tested i).shop.tph), ai ((f.tested i).shop.apl), ai ((f.tested i).shop.aph), .q 0, .q 1])) := by simp [SV.res, El.res, At.res, keys]
set_option maxHeartbeats 4000000 in
theorem c64 (f : Fnd) (i : Int) (hf : f.chk = true) (hi : 0 ≤ i ∧ i < f.nights.length) : Sig Try.prog 64 [.e (.g [ai (f.shop.pounds), ai (f.shop.tl), ai (f.shop.th), ai (f.shop.al), ai (f.shop.ah), ai (f.shop.room), ai (f.shop.tpl), ai (f.shop.tph), ai (f.shop.apl), ai (f.shop.aph), .q 0, .q 1]), .i (i)] [(0, PL EPig (f.shop.pigs)), (1, PL ENight (f.nights))] (.e (.g [ai ((f.tested i).shop.pounds), ai ((f.tested i).shop.tl), ai ((f.tested i).shop.th), ai ((f.tested i).shop.al), ai ((f.tested i).shop.ah), ai ((f.tested i).shop.room), ai ((f.tested i).shop.tpl), ai ((f.tested i).shop.tph), ai ((f.tested i).shop.apl), ai ((f.tested i).shop.aph), .q 0, .q 1])) [(0, PL EPig ((f.tested i).shop.pigs)), (1, PL ENight ((f.tested i).nights))] := by
  have hcb := Fnd.chkB hf
  refine Sig.intro Try.func64 rfl 2 [(0, .e (.g [ai (f.shop.pounds), ai (f.shop.tl), ai (f.shop.th), ai (f.shop.al), ai (f.shop.ah), ai (f.shop.room), ai (f.shop.tpl), ai (f.shop.tph), ai (f.shop.apl), ai (f.shop.aph), .q 0, .q 1])), (1, .i (i))] rfl w64 rfl rfl fun I w => ?_
  refine WP.seq ?_
  refine WP.region ?_
  refine WPl.l 2 3 rfl rfl rfl (o_boxg rfl) ?_
  refine WPl.l 3 4 rfl rfl rfl (o_alloc Z31) ?_
  refine WPl.nil ?_
  refine EX.then ?_
  refine WP.seq ?_
  refine WP.region ?_
  refine WPl.v rfl (o_ldpa G31 rfl rfl rfl) ?_
  refine WPl.cL 6 rfl rfl rfl rfl rfl (o_sigo 4 (ren [(0, 0), (1, 1)]) (c17O f (by omega) (by omega)) e17 rfl rfl SvsOK.rf w17O ⟨(lx rfl), (lx rfl), trivial⟩ r17O rfl rfl) ?_
  refine WPl.l 6 7 rfl rfl rfl (o_alloc Z31) ?_
  refine WPl.s1 (o_stag G31 rfl rfl rfl ⟨rfl, rfl, rfl, rfl, rfl, rfl, rfl, rfl, rfl, rfl, (.inr ⟨_, _, _, _, rfl⟩), (.inr ⟨_, _, _, _, rfl⟩), trivial⟩ rfl rfl) ?_
  refine WPl.nil ?_
  refine EX.then ?_
  refine WP.seq ?_
  refine WP.region ?_
  refine WPl.v rfl (o_fldp F31_1 rfl) ?_
  refine WPl.v rfl (o_ldp S29 rfl rfl rfl) ?_
  refine WPl.v rfl (o_move rfl) ?_
  refine WPl.v rfl (o_idxo L29 rfl rfl rfl (by first | omega | (simp; omega)) (by first | omega | (simp; omega))) ?_
  refine WPl.v rfl (o_ldoG G75 rfl rfl rfl rfl (by first | omega | (simp; omega)) (by first | omega | (simp; omega)) (strG rfl) rfl rfl) ?_
  refine WPl.l 7 8 rfl rfl rfl (o_alloc Z75) ?_
  refine WPl.s1 (o_stag G75 rfl rfl rfl ⟨rfl, rfl, rfl, trivial⟩ rfl rfl) ?_
  refine WPl.nil ?_
  refine EX.then ?_
  refine WP.seq ?_
  refine WP.region ?_
  refine WPl.v rfl (o_fldp F75_1 rfl) ?_
  refine WPl.s1 (o_sta S3 rfl rfl rfl rfl rfl) ?_
  refine WPl.nil ?_
  refine EX.then ?_
  refine WP.seq ?_
  refine WP.region ?_
  refine WPl.v rfl (o_fldp F31_1 rfl) ?_
  refine WPl.v rfl (o_ldp S29 rfl rfl rfl) ?_
  refine WPl.v rfl (o_move rfl) ?_
  refine WPl.v rfl (o_ldpa G75 rfl rfl rfl) ?_
  refine WPl.v rfl (o_idxo L29 rfl rfl rfl (by first | omega | (simp; omega)) (by first | omega | (simp; omega))) ?_
  refine WPl.s1 (o_steE2 (z := ({ nth f.nights i with test := 1 } : Night)) Try.sizeOf75 rfl rfl rfl ⟨rfl, rfl, rfl, trivial⟩ (eok_str ⟨rfl, rfl, rfl, trivial⟩) rfl rfl rfl (by first | omega | (simp; omega)) (by first | omega | (simp; omega))) ?_
  refine WPl.nil ?_
  refine EX.then ?_
  refine WP.seq ?_
  refine WP.region ?_
  refine WPl.v rfl (o_ldpa G31 rfl rfl rfl) ?_
  refine WPl.s1 (o_stag G31 rfl rfl rfl ⟨rfl, rfl, rfl, rfl, rfl, rfl, rfl, rfl, rfl, rfl, (.inr ⟨_, _, _, _, rfl⟩), (.inr ⟨_, _, _, _, rfl⟩), trivial⟩ rfl rfl) ?_
  refine WPl.nil ?_
  refine EX.then ?_
  refine WP.ret ?_
  refine EX.imp (Imp.frz (E := EPig) (l := [] ++ f.shop.pigs) 4 rfl rfl) ?_
  refine EX.imp (Imp.frz (E := ENight) (l := lset ([] ++ f.nights) i ({ nth f.nights i with test := 1 } : Night)) 5 rfl rfl) ?_
  exact EX.fin (ren [(0, 4), (1, 5)]) (.inl rfl) rfl (.cellg G31 rfl rfl rfl (.nil)) rfl r64 ⟨(lx rfl), (lx rfl), trivial⟩ (by simp) (by simp)
theorem w62 {f : Fnd} : ∀ x ∈ ([.e (.g [ai (f.shop.pounds), ai (f.shop.tl), ai (f.shop.th), ai (f.shop.al), ai (f.shop.ah), ai (f.shop.room), ai (f.shop.tpl), ai (f.shop.tph), ai (f.shop.apl), ai (f.shop.aph), .q 0, .q 1])] : List SV), x.res (keys (α := Pred) [(0, PL EPig (f.shop.pigs)), (1, PL ENight (f.nights))]) := by simp [SV.res, El.res, At.res, keys]
theorem r62 {f : Fnd} : SV.res (keys (α := Pred) []) (.t [.a (ai (f.askV)), .a (ai (f.askE))]) := by simp [SV.res, El.res, At.res, keys]
set_option maxHeartbeats 4000000 in
theorem c62 (f : Fnd)  : Sig Try.prog 62 [.e (.g [ai (f.shop.pounds), ai (f.shop.tl), ai (f.shop.th), ai (f.shop.al), ai (f.shop.ah), ai (f.shop.room), ai (f.shop.tpl), ai (f.shop.tph), ai (f.shop.apl), ai (f.shop.aph), .q 0, .q 1])] [(0, PL EPig (f.shop.pigs)), (1, PL ENight (f.nights))] (.t [.a (ai (f.askV)), .a (ai (f.askE))]) [] := by
  refine Sig.intro Try.func62 rfl 2 [(0, .e (.g [ai (f.shop.pounds), ai (f.shop.tl), ai (f.shop.th), ai (f.shop.al), ai (f.shop.ah), ai (f.shop.room), ai (f.shop.tpl), ai (f.shop.tph), ai (f.shop.apl), ai (f.shop.aph), .q 0, .q 1]))] rfl w62 rfl rfl fun I w => ?_
  refine WP.seq ?_
  refine WP.region ?_
  refine WPl.l 2 3 rfl rfl rfl (o_boxg rfl) ?_
  refine WPl.v rfl (o_assign rfl) ?_
  refine WPl.v rfl (o_assign rfl) ?_
  refine WPl.nil ?_
  refine EX.then ?_
  refine WP.seq ?_
  refine WP.seq ?_
  refine WP.region ?_
  refine WPl.v rfl (o_ldpa G31 rfl rfl rfl) ?_
  refine WPl.cs 3 rfl rfl rfl rfl (o_sig 3 (ren [(0, 0), (1, 1)]) (c22 f) e22 rfl rfl rfl w22 ⟨(lx rfl), (lx rfl), trivial⟩ r22) ?_
  refine WPl.v rfl (o_assign rfl) ?_
  refine WPl.nil ?_
  refine EX.then ?_
  refine WP.seq ?_
  refine WP.region ?_
  refine WPl.v rfl (o_move rfl) ?_
  refine WPl.v rfl (o_neq rfl rfl) ?_
  refine WPl.nil ?_
  refine EX.then ?_
  refine WP.cond rfl (fun hc1 => ?_) (fun hc1 => ?_)
  · try simp only [decide_eq_true_eq, decide_eq_false_iff_not, Bool.and_eq_true, Bool.or_eq_true, Bool.and_eq_false_iff, Bool.or_eq_false_iff, Bool.not_eq_true', Bool.not_eq_false', ne_eq, Decidable.not_not] at hc1
    have hf : f.chk = false := errW_ne.1 (by simpa using hc1)
    refine WP.seq ?_
    refine WP.region ?_
    refine WPl.v rfl (o_move rfl) ?_
    refine WPl.v rfl (o_assign rfl) ?_
    refine WPl.v rfl (o_assign rfl) ?_
    refine WPl.nil ?_
    refine EX.then ?_
    refine WP.ret ?_
    refine EX.ret_then ?_
    rw [show errW f.chk = 130 from by simp [errW, hf], show f.askV = 0 from by simp [Fnd.askV, Fnd.askE, hf], show f.askE = 130 from by simp [Fnd.askE, hf]]
    exact EX.fin id (.inl rfl) rfl (.tmp rfl (.tmp rfl .nil)) rfl (by simp [SV.res, El.res, At.res, keys]) trivial (by simp) (by simp)
  · try simp only [decide_eq_true_eq, decide_eq_false_iff_not, Bool.and_eq_true, Bool.or_eq_true, Bool.and_eq_false_iff, Bool.or_eq_false_iff, Bool.not_eq_true', Bool.not_eq_false', ne_eq, Decidable.not_not] at hc1
    have hf : f.chk = true := errW_eq.1 (by simpa using hc1)
    have hcb := Fnd.chkB hf
    have hab := askTo_bnd hf
    refine WP.skip ?_
    refine EX.then ?_
    refine WP.seq ?_
    refine WP.region ?_
    refine WPl.v rfl (o_assign rfl) ?_
    refine WPl.v rfl (o_assign rfl) ?_
    refine WPl.nil ?_
    refine EX.then ?_
    refine WP.seq ?_
    refine WP.seq ?_
    refine WP.region ?_
    refine WPl.v rfl (o_assign rfl) ?_
    refine WPl.nil ?_
    refine EX.then ?_
    refine WP.block ?_
    refine WP.loop (Gh := Nat) (fun i => ⟨3, [(1, .e (.a (.p 2 (0)))), (2, .i (0)), (3, .i (0)), (5, .i ((f.askTo i).1)), (6, .i ((f.askTo i).2)), (7, .i ((i : Int)))], [(0, PL EPig (f.shop.pigs)), (1, PL ENight (f.nights))], [(2, .blk [ai (f.shop.pounds), ai (f.shop.tl), ai (f.shop.th), ai (f.shop.al), ai (f.shop.ah), ai (f.shop.room), ai (f.shop.tpl), ai (f.shop.tph), ai (f.shop.apl), ai (f.shop.aph), .q 0, .q 1] 31)], [], []⟩) (fun i => i ≤ f.nights.length) (fun i => f.nights.length - i) (0) id ?_ (LeR.of ⟨rfl, rfl, rfl, rfl, rfl, rfl, trivial⟩ ⟨(lx rfl), (lx rfl), trivial⟩ ⟨rfl, trivial⟩ rfl rfl rfl rfl rfl) ?_
    · first | trivial | omega | (constructor <;> omega) | simp
    intro i hφ
    have hi : i ≤ f.nights.length := hφ
    refine WP.seq ?_
    refine WP.seq ?_
    refine WP.region ?_
    refine WPl.v rfl (o_move rfl) ?_
    refine WPl.v rfl (o_fldp F31_1 rfl) ?_
    refine WPl.v rfl (o_ldp S29 rfl rfl rfl) ?_
    refine WPl.v rfl (o_lenq L29 rfl (lx rfl)) ?_
    refine WPl.v rfl (o_lss rfl rfl) ?_
    refine WPl.nil ?_
    refine EX.then ?_
    refine WP.cond rfl (fun hc2 => ?_) (fun hc2 => ?_)
    · try simp only [decide_eq_true_eq, decide_eq_false_iff_not, Bool.and_eq_true, Bool.or_eq_true, Bool.and_eq_false_iff, Bool.or_eq_false_iff, Bool.not_eq_true', Bool.not_eq_false', ne_eq, Decidable.not_not] at hc2
      refine WP.skip ?_
      refine EX.then ?_
      refine WP.seq ?_
      refine WP.block ?_
      refine WP.seq ?_
      refine WP.seq ?_
      refine WP.region ?_
      refine WPl.v rfl (o_fldp F31_1 rfl) ?_
      refine WPl.v rfl (o_ldp S29 rfl rfl rfl) ?_
      refine WPl.v rfl (o_move rfl) ?_
      refine WPl.x 3 4 rfl rfl rfl (o_idx L29 rfl (lx rfl) rfl (by first | omega | (simp; omega)) (by first | omega | (simp; omega))) ?_
      refine WPl.v rfl (o_fldq F75_1 rfl (lx rfl)) ?_
      refine WPl.v rfl (o_lde S3 rfl (lx rfl) (strI rfl)) ?_
      refine WPl.v rfl (o_eql rfl rfl) ?_
      refine WPl.nil ?_
      refine EX.then ?_
      refine WP.cond rfl (fun hc3 => ?_) (fun hc3 => ?_)
      · try simp only [decide_eq_true_eq, decide_eq_false_iff_not, Bool.and_eq_true, Bool.or_eq_true, Bool.and_eq_false_iff, Bool.or_eq_false_iff, Bool.not_eq_true', Bool.not_eq_false', ne_eq, Decidable.not_not] at hc3
        refine WP.exit ?_
        refine EX.exit_then ?_
        refine EX.exit_blk ?_
        refine EX.then ?_
        refine WP.region ?_
        refine WPl.v rfl (o_move rfl) ?_
        refine WPl.v rfl (o_add rfl rfl (by first | omega | (simp; omega)) (by first | omega | (simp; omega))) ?_
        refine WPl.v rfl (o_assign rfl) ?_
        refine WPl.nil ?_
        refine EX.again (i + 1) id (by first | omega | (constructor <;> omega)) (by omega) (LeR.of ⟨rfl, rfl, rfl, (congrArg (fun z => some (SV.i z)) (show ((f.askTo i).1) = ((fun i => (f.askTo i).1) (i + 1)) from by simp only [Fnd.askTo]; (first | rw [if_pos hc3] | rw [if_neg hc3, if_pos hc4] | rw [if_neg hc3, if_neg hc4]))), (congrArg (fun z => some (SV.i z)) (show ((f.askTo i).2) = ((fun i => (f.askTo i).2) (i + 1)) from by simp only [Fnd.askTo]; (first | rw [if_pos hc3] | rw [if_neg hc3, if_pos hc4] | rw [if_neg hc3, if_neg hc4]))), rfl, trivial⟩ ⟨(lx rfl), (lx rfl), trivial⟩ ⟨rfl, trivial⟩ rfl rfl rfl rfl rfl)
      · try simp only [decide_eq_true_eq, decide_eq_false_iff_not, Bool.and_eq_true, Bool.or_eq_true, Bool.and_eq_false_iff, Bool.or_eq_false_iff, Bool.not_eq_true', Bool.not_eq_false', ne_eq, Decidable.not_not] at hc3
        refine WP.skip ?_
        refine EX.then ?_
        refine WP.seq ?_
        refine WP.region ?_
        refine WPl.v rfl (o_ldpa G31 rfl rfl rfl) ?_
        refine WPl.v rfl (o_move rfl) ?_
        refine WPl.cs 6 rfl rfl rfl rfl (o_sig 4 (ren [(0, 0), (1, 1)]) (c64 f (i : Int) hf (by omega)) e64 rfl rfl rfl w64 ⟨(lx rfl), (lx rfl), trivial⟩ r64) ?_
        refine WPl.cs 6 rfl rfl rfl rfl (o_sig 6 (ren [(0, 4), (1, 5)]) (c111 (f.tested (i : Int)) (tested_chk hf (by omega))) e111 rfl rfl rfl w111 ⟨(lx rfl), (lx rfl), trivial⟩ r111) ?_
        refine WPl.v rfl (o_assign rfl) ?_
        refine WPl.nil ?_
        refine EX.then ?_
        refine WP.seq ?_
        refine WP.region ?_
        refine WPl.v rfl (o_move rfl) ?_
        refine WPl.v rfl (o_move rfl) ?_
        refine WPl.v rfl (o_lss rfl rfl) ?_
        refine WPl.nil ?_
        refine EX.then ?_
        refine WP.cond rfl (fun hc4 => ?_) (fun hc4 => ?_)
        · try simp only [decide_eq_true_eq, decide_eq_false_iff_not, Bool.and_eq_true, Bool.or_eq_true, Bool.and_eq_false_iff, Bool.or_eq_false_iff, Bool.not_eq_true', Bool.not_eq_false', ne_eq, Decidable.not_not] at hc4
          refine WP.region ?_
          refine WPl.v rfl (o_move rfl) ?_
          refine WPl.v rfl (o_move rfl) ?_
          refine WPl.v rfl (o_assign rfl) ?_
          refine WPl.v rfl (o_assign rfl) ?_
          refine WPl.nil ?_
          refine EX.blk ?_
          refine EX.then ?_
          refine WP.region ?_
          refine WPl.v rfl (o_move rfl) ?_
          refine WPl.v rfl (o_add rfl rfl (by first | omega | (simp; omega)) (by first | omega | (simp; omega))) ?_
          refine WPl.v rfl (o_assign rfl) ?_
          refine WPl.nil ?_
          refine EX.again (i + 1) id (by first | omega | (constructor <;> omega)) (by omega) (LeR.of ⟨rfl, rfl, rfl, (congrArg (fun z => some (SV.i z)) (show ((i : Int)) = ((fun i => (f.askTo i).1) (i + 1)) from by simp only [Fnd.askTo]; (first | rw [if_pos hc3] | rw [if_neg hc3, if_pos hc4] | rw [if_neg hc3, if_neg hc4]))), (congrArg (fun z => some (SV.i z)) (show ((f.tested (i : Int)).knownN) = ((fun i => (f.askTo i).2) (i + 1)) from by simp only [Fnd.askTo]; (first | rw [if_pos hc3] | rw [if_neg hc3, if_pos hc4] | rw [if_neg hc3, if_neg hc4]))), rfl, trivial⟩ ⟨(lx rfl), (lx rfl), trivial⟩ ⟨rfl, trivial⟩ rfl rfl rfl rfl rfl)
        · try simp only [decide_eq_true_eq, decide_eq_false_iff_not, Bool.and_eq_true, Bool.or_eq_true, Bool.and_eq_false_iff, Bool.or_eq_false_iff, Bool.not_eq_true', Bool.not_eq_false', ne_eq, Decidable.not_not] at hc4
          refine WP.skip ?_
          refine EX.blk ?_
          refine EX.then ?_
          refine WP.region ?_
          refine WPl.v rfl (o_move rfl) ?_
          refine WPl.v rfl (o_add rfl rfl (by first | omega | (simp; omega)) (by first | omega | (simp; omega))) ?_
          refine WPl.v rfl (o_assign rfl) ?_
          refine WPl.nil ?_
          refine EX.again (i + 1) id (by first | omega | (constructor <;> omega)) (by omega) (LeR.of ⟨rfl, rfl, rfl, (congrArg (fun z => some (SV.i z)) (show ((f.askTo i).1) = ((fun i => (f.askTo i).1) (i + 1)) from by simp only [Fnd.askTo]; (first | rw [if_pos hc3] | rw [if_neg hc3, if_pos hc4] | rw [if_neg hc3, if_neg hc4]))), (congrArg (fun z => some (SV.i z)) (show ((f.askTo i).2) = ((fun i => (f.askTo i).2) (i + 1)) from by simp only [Fnd.askTo]; (first | rw [if_pos hc3] | rw [if_neg hc3, if_pos hc4] | rw [if_neg hc3, if_neg hc4]))), rfl, trivial⟩ ⟨(lx rfl), (lx rfl), trivial⟩ ⟨rfl, trivial⟩ rfl rfl rfl rfl rfl)
    · try simp only [decide_eq_true_eq, decide_eq_false_iff_not, Bool.and_eq_true, Bool.or_eq_true, Bool.and_eq_false_iff, Bool.or_eq_false_iff, Bool.not_eq_true', Bool.not_eq_false', ne_eq, Decidable.not_not] at hc2
      refine WP.exit ?_
      refine EX.exit_then ?_
      refine EX.exit_then ?_
      refine EX.exit_blk ?_
      refine EX.then ?_
      refine WP.seq ?_
      refine WP.seq ?_
      refine WP.region ?_
      refine WPl.v rfl (o_move rfl) ?_
      refine WPl.v rfl (o_eql rfl rfl) ?_
      refine WPl.nil ?_
      refine EX.then ?_
      refine WP.cond rfl (fun hc5 => ?_) (fun hc5 => ?_)
      · try simp only [decide_eq_true_eq, decide_eq_false_iff_not, Bool.and_eq_true, Bool.or_eq_true, Bool.and_eq_false_iff, Bool.or_eq_false_iff, Bool.not_eq_true', Bool.not_eq_false', ne_eq, Decidable.not_not] at hc5
        refine WP.seq ?_
        refine WP.region ?_
        refine WPl.v rfl (o_assign rfl) ?_
        refine WPl.v rfl (o_assign rfl) ?_
        refine WPl.nil ?_
        refine EX.then ?_
        refine WP.ret ?_
        refine EX.ret_then ?_
        have he : i = f.nights.length := by omega
        subst he
        have hk : f.askE = 3 := by simp only [Fnd.askE, hf, if_true]; exact if_pos hc5
        rw [show f.askV = 0 from by simp [Fnd.askV, hk], hk]
        exact EX.fin id (.inl rfl) rfl (.tmp rfl (.tmp rfl .nil)) rfl (by simp [SV.res, El.res, At.res, keys]) trivial (by simp) (by simp)
      · try simp only [decide_eq_true_eq, decide_eq_false_iff_not, Bool.and_eq_true, Bool.or_eq_true, Bool.and_eq_false_iff, Bool.or_eq_false_iff, Bool.not_eq_true', Bool.not_eq_false', ne_eq, Decidable.not_not] at hc5
        refine WP.skip ?_
        refine EX.then ?_
        refine WP.seq ?_
        refine WP.region ?_
        refine WPl.v rfl (o_move rfl) ?_
        refine WPl.v rfl (o_assign rfl) ?_
        refine WPl.v rfl (o_assign rfl) ?_
        refine WPl.nil ?_
        refine EX.then ?_
        refine WP.ret ?_
        have he : i = f.nights.length := by omega
        subst he
        have hk : f.askE = 0 := by simp only [Fnd.askE, hf, if_true]; exact if_neg hc5
        rw [show f.askV = (f.askTo f.nights.length).1 from by simp [Fnd.askV, hk], hk]
        exact EX.fin id (.inl rfl) rfl (.tmp rfl (.tmp rfl .nil)) rfl (by simp [SV.res, El.res, At.res, keys]) trivial (by simp) (by simp)
end Go.Flong
