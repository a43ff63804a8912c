/- Walks (printed by gen.py off the specs). Walks (printed by gen.py off the specs). -/
import Derived.Test.YtglbnodjcngefaaHL1
import Derived.Test.YtglbnodjcngefaaBase9
import Derived.Test.YtglbnodjcngefaaBase10
import Derived.Test.YtglbnodjcngefaaProg
import Derived.Test.YtglbnodjcngefaaBase11
set_option linter.unusedSimpArgs false
set_option linter.unusedVariables false
namespace Go.Flong
open Go Go.Eng Go.Proofs
theorem e14 : Enters' Try.prog 14 := Try.call14
theorem e15 : Enters' Try.prog 15 := Try.call15
theorem e99 : Enters' Try.prog 99 := Try.call99
theorem e63 : Enters' Try.prog 63 := Try.call63
theorem e47 : Enters' Try.prog 47 := Try.call47
theorem w53 {a b : List Int} : ∀ x ∈ ([.e (.a (.q 0)), .e (.a (.q 1))] : List SV), x.res (keys (α := Pred) [(0, PL EP.int (a)), (1, PL EP.int (b))]) := by simp [SV.res, El.res, At.res, keys]
theorem r53 {a b : List Int} : SV.res (keys (α := Pred) []) (.b (earlier a b)) := by simp [SV.res, El.res, At.res, keys]
set_option maxHeartbeats 4000000 in
theorem c53 (a b : List Int) (hl : a.length ≤ 1000000) : Sig Try.prog 53 [.e (.a (.q 0)), .e (.a (.q 1))] [(0, PL EP.int (a)), (1, PL EP.int (b))] (.b (earlier a b)) [] := by
  refine Sig.intro Try.func53 rfl 2 [(0, .e (.a (.q 0))), (1, .e (.a (.q 1)))] rfl w53 rfl rfl fun I w => ?_
  refine WP.seq ?_
  refine WP.region ?_
  refine WPl.v rfl (o_assign rfl) ?_
  refine WPl.nil ?_
  refine EX.then ?_
  refine WP.seq ?_
  refine WP.seq ?_
  refine WP.region ?_
  refine WPl.v rfl (o_assign rfl) ?_
  refine WPl.nil ?_
  refine EX.then ?_
  refine WP.block ?_
  refine WP.loop (Gh := Nat) (fun i => ⟨2, [(0, .e (.a (.q 0))), (1, .e (.a (.q 1))), (4, .b (false)), (5, .i ((i : Int)))], [(0, PL EP.int (a)), (1, PL EP.int (b))], [], [], []⟩) (fun i => i ≤ a.length ∧ i ≤ b.length ∧ allI (sameAt a b) i = true) (fun i => a.length - i) (0) id ?_ (LeR.of ⟨rfl, rfl, rfl, rfl, trivial⟩ ⟨(lx rfl), (lx rfl), trivial⟩ trivial rfl rfl rfl rfl rfl) ?_
  · exact ⟨by omega, ⟨by omega, rfl⟩⟩
  intro i hφ
  have hi : i ≤ a.length := hφ.1
  obtain ⟨_, hb1, hall⟩ := hφ
  refine WP.seq ?_
  refine WP.seq ?_
  refine WP.region ?_
  refine WPl.v rfl (o_move rfl) ?_
  refine WPl.v rfl (o_move rfl) ?_
  refine WPl.v rfl (o_lenq L44 rfl (lx rfl)) ?_
  refine WPl.v rfl (o_lss rfl rfl) ?_
  refine WPl.v rfl (o_move rfl) ?_
  refine WPl.bit 2 3 (decide ((i : Int) < (a.length : Int))) rfl rfl ?_
  refine WPl.gv 2 rfl rfl (.plain rfl Iff.rfl rfl) (fun hb => o_move rfl) ?_
  refine WPl.gv 2 rfl rfl (.plain rfl Iff.rfl rfl) (fun hb => o_move rfl) ?_
  refine WPl.gv 2 rfl rfl (.plain rfl Iff.rfl rfl) (fun hb => o_lenq L44 rfl (lx rfl)) ?_
  refine WPl.gv 2 rfl rfl (.plain rfl Iff.rfl rfl) (fun hb => o_lss rfl rfl) ?_
  refine WPl.v rfl (o_and rfl rfl rfl id) ?_
  refine WPl.nil ?_
  refine EX.then ?_
  refine WP.cond rfl (fun hc1 => ?_) (fun hc1 => ?_)
  · try simp only [decide_eq_true_eq, decide_eq_false_iff_not, Bool.and_eq_true, Bool.or_eq_true, Bool.and_eq_false_iff, Bool.or_eq_false_iff, Bool.not_eq_true', Bool.not_eq_false', ne_eq, Decidable.not_not] at hc1
    refine WP.skip ?_
    refine EX.then ?_
    refine WP.seq ?_
    refine WP.block ?_
    refine WP.seq ?_
    refine WP.draw (nf := 5) [⟨[19, 22, 23, 24, 25], [4], [], [], []⟩, ⟨[18, 22, 23, 24, 25], [4], [], [], []⟩, ⟨[22, 23, 24, 25], [4], [3], [3], [0, 1]⟩, ⟨[22, 23, 24, 25], [4], [], [], [0, 1, 2]⟩, ⟨[18, 19, 20, 21, 23], [3], [], [], []⟩, ⟨[18, 19, 20, 21, 22], [3], [], [], []⟩, ⟨[18, 19, 20, 21], [3], [4], [4], [4, 5]⟩, ⟨[18, 19, 20, 21], [3], [], [], [4, 5, 6]⟩, ⟨[], [], [], [], [0, 1, 2, 3, 4, 5, 6, 7]⟩] (by kernel_rfl) (by kernel_rfl) ?_
    refine DRQ.v rfl rfl rfl (o_move rfl) ?_
    refine DRQ.v rfl rfl rfl (o_move rfl) ?_
    refine DRQ.x 3 rfl rfl rfl rfl (o_idx L44 rfl (lx rfl) rfl (by first | omega | (simp; omega)) (by first | omega | (simp; omega))) ?_
    refine DRQ.v rfl rfl rfl (o_ldq S3 rfl (lx rfl) intc) ?_
    refine DRQ.v rfl rfl rfl (o_move rfl) ?_
    refine DRQ.v rfl rfl rfl (o_move rfl) ?_
    refine DRQ.x 4 rfl rfl rfl rfl (o_idx L44 rfl (lx rfl) rfl (by first | omega | (simp; omega)) (by first | omega | (simp; omega))) ?_
    refine DRQ.v rfl rfl rfl (o_ldq S3 rfl (lx rfl) intc) ?_
    refine DRQ.v rfl rfl rfl (o_neq rfl rfl) ?_
    refine DRQ.nil' ?_
    refine EX.then ?_
    refine WP.cond rfl (fun hc2 => ?_) (fun hc2 => ?_)
    · try simp only [decide_eq_true_eq, decide_eq_false_iff_not, Bool.and_eq_true, Bool.or_eq_true, Bool.and_eq_false_iff, Bool.or_eq_false_iff, Bool.not_eq_true', Bool.not_eq_false', ne_eq, Decidable.not_not] at hc2
      refine WP.seq ?_
      refine WP.draw (nf := 7) [⟨[28, 31, 32, 33, 34], [6], [], [], []⟩, ⟨[27, 31, 32, 33, 34], [6], [], [], []⟩, ⟨[31, 32, 33, 34], [6], [5], [5], [0, 1]⟩, ⟨[31, 32, 33, 34], [6], [], [], [0, 1, 2]⟩, ⟨[27, 28, 29, 30, 32], [5], [], [], []⟩, ⟨[27, 28, 29, 30, 31], [5], [], [], []⟩, ⟨[27, 28, 29, 30], [5], [6], [6], [4, 5]⟩, ⟨[27, 28, 29, 30], [5], [], [], [4, 5, 6]⟩, ⟨[], [], [], [], [0, 1, 2, 3, 4, 5, 6, 7]⟩, ⟨[], [], [], [], [0, 1, 2, 3, 4, 5, 6, 7, 8]⟩] (by kernel_rfl) (by kernel_rfl) ?_
      refine DRQ.v rfl rfl rfl (o_move rfl) ?_
      refine DRQ.v rfl rfl rfl (o_move rfl) ?_
      refine DRQ.x 5 rfl rfl rfl rfl (o_idx L44 rfl (lx rfl) rfl (by first | omega | (simp; omega)) (by first | omega | (simp; omega))) ?_
      refine DRQ.v rfl rfl rfl (o_ldq S3 rfl (lx rfl) intc) ?_
      refine DRQ.v rfl rfl rfl (o_move rfl) ?_
      refine DRQ.v rfl rfl rfl (o_move rfl) ?_
      refine DRQ.x 6 rfl rfl rfl rfl (o_idx L44 rfl (lx rfl) rfl (by first | omega | (simp; omega)) (by first | omega | (simp; omega))) ?_
      refine DRQ.v rfl rfl rfl (o_ldq S3 rfl (lx rfl) intc) ?_
      refine DRQ.v rfl rfl rfl (o_lss rfl rfl) ?_
      refine DRQ.v rfl rfl rfl (o_assign rfl) ?_
      refine DRQ.nil' ?_
      refine EX.then ?_
      refine WP.ret ?_
      refine EX.ret_blk ?_
      refine EX.ret_then ?_
      refine EX.ret_then ?_
      refine EX.ret_blk ?_
      refine EX.ret_then ?_
      rw [show earlier a b = decide (nth a i < nth b i) from earlier_at hall (by omega) (by omega) hc2]
      exact EX.fin id (.inl rfl) rfl (.tmp rfl .nil) rfl (by simp [SV.res, El.res, At.res, keys]) trivial (by simp) (by simp)
    · try simp only [decide_eq_true_eq, decide_eq_false_iff_not, Bool.and_eq_true, Bool.or_eq_true, Bool.and_eq_false_iff, Bool.or_eq_false_iff, Bool.not_eq_true', Bool.not_eq_false', ne_eq, Decidable.not_not] at hc2
      refine WP.skip ?_
      refine EX.blk ?_
      refine EX.then ?_
      refine WP.region ?_
      refine WPl.v rfl (o_move rfl) ?_
      refine WPl.v rfl (o_add rfl rfl (by first | omega | (simp; omega)) (by first | omega | (simp; omega))) ?_
      refine WPl.v rfl (o_assign rfl) ?_
      refine WPl.nil ?_
      refine EX.again (i + 1) id (by exact ⟨by omega, ⟨by omega, by simp only [allI, hall, Bool.true_and, sameAt, decide_eq_true_eq]; exact hc2⟩⟩) (by omega) (LeR.of ⟨rfl, rfl, rfl, rfl, trivial⟩ ⟨(lx rfl), (lx rfl), trivial⟩ trivial rfl rfl rfl rfl rfl)
  · try simp only [decide_eq_true_eq, decide_eq_false_iff_not, Bool.and_eq_true, Bool.or_eq_true, Bool.and_eq_false_iff, Bool.or_eq_false_iff, Bool.not_eq_true', Bool.not_eq_false', ne_eq, Decidable.not_not] at hc1
    refine WP.exit ?_
    refine EX.exit_then ?_
    refine EX.exit_then ?_
    refine EX.exit_blk ?_
    refine EX.then ?_
    refine WP.seq ?_
    refine WP.region ?_
    refine WPl.v rfl (o_assign rfl) ?_
    refine WPl.nil ?_
    refine EX.then ?_
    refine WP.ret ?_
    rw [show earlier a b = false from earlier_end hall hi hb1 (by omega)]
    exact EX.fin id (.inl rfl) rfl (.tmp rfl .nil) rfl (by simp [SV.res, El.res, At.res, keys]) trivial (by simp) (by simp)
theorem w32 {f : Fnd} : ∀ x ∈ ([.e (.g [ai (f.shop.pounds), ai (f.shop.tl), ai (f.shop.th), ai (f.shop.al), ai (f.shop.ah), ai (f.shop.room), ai (f.shop.tpl), ai (f.shop.tph), ai (f.shop.apl), ai (f.shop.aph), .q 0, .q 1])] : List SV), x.res (keys (α := Pred) [(0, PL EPig (f.shop.pigs)), (1, PL ENight (f.nights))]) := by simp [SV.res, El.res, At.res, keys]
theorem r32 {f : Fnd} : SV.res (keys (α := Pred) []) (.b (f.rdy)) := by simp [SV.res, El.res, At.res, keys]
set_option maxHeartbeats 4000000 in
theorem c32 (f : Fnd)  : Sig Try.prog 32 [.e (.g [ai (f.shop.pounds), ai (f.shop.tl), ai (f.shop.th), ai (f.shop.al), ai (f.shop.ah), ai (f.shop.room), ai (f.shop.tpl), ai (f.shop.tph), ai (f.shop.apl), ai (f.shop.aph), .q 0, .q 1])] [(0, PL EPig (f.shop.pigs)), (1, PL ENight (f.nights))] (.b (f.rdy)) [] := by
  refine Sig.intro Try.func32 rfl 2 [(0, .e (.g [ai (f.shop.pounds), ai (f.shop.tl), ai (f.shop.th), ai (f.shop.al), ai (f.shop.ah), ai (f.shop.room), ai (f.shop.tpl), ai (f.shop.tph), ai (f.shop.apl), ai (f.shop.aph), .q 0, .q 1]))] rfl w32 rfl rfl fun I w => ?_
  refine WP.seq ?_
  refine WP.region ?_
  refine WPl.l 2 3 rfl rfl rfl (o_boxg rfl) ?_
  refine WPl.v rfl (o_assign rfl) ?_
  refine WPl.nil ?_
  refine EX.then ?_
  refine WP.seq ?_
  refine WP.region ?_
  refine WPl.v rfl (o_ldpa G31 rfl rfl rfl) ?_
  refine WPl.cs 3 rfl rfl rfl rfl (o_sig 3 (ren [(0, 0), (1, 1)]) (c14 f) e14 rfl rfl rfl w14 ⟨(lx rfl), (lx rfl), trivial⟩ r14) ?_
  refine WPl.v rfl (o_not rfl) ?_
  refine WPl.v rfl (o_move rfl) ?_
  refine WPl.bit 3 4 (!f.far) rfl rfl ?_
  refine WPl.gv 3 rfl rfl (.plain rfl Iff.rfl rfl) (fun hb => o_ldpa G31 rfl rfl rfl) ?_
  refine WPl.gc0 3 rfl rfl (.plain rfl Iff.rfl rfl) (fun hb => o_sig 4 (ren [(0, 0), (1, 1)]) (c22 f) e22 rfl rfl rfl w22 ⟨(lx rfl), (lx rfl), trivial⟩ r22) ?_
  refine WPl.gv 3 rfl rfl (.plain rfl Iff.rfl rfl) (fun hb => o_eql rfl rfl) ?_
  refine WPl.v rfl (o_and rfl rfl rfl id) ?_
  refine WPl.v rfl (o_assign rfl) ?_
  refine WPl.nil ?_
  refine EX.then ?_
  refine WP.ret ?_
  rw [show f.rdy = ((!f.far) && decide (errW f.chk = 0)) from by unfold Fnd.rdy; cases f.chk <;> simp [errW]]
  exact EX.fin id (.inl rfl) rfl (.tmp rfl .nil) rfl (by simp [SV.res, El.res, At.res, keys]) trivial (by simp) (by simp)
theorem w33 {f : Fnd} {plan : List (List Int)} : ∀ x ∈ ([.e (.g [ai (f.shop.pounds), ai (f.shop.tl), ai (f.shop.th), ai (f.shop.al), ai (f.shop.ah), ai (f.shop.room), ai (f.shop.tpl), ai (f.shop.tph), ai (f.shop.apl), ai (f.shop.aph), .q 0, .q 1]), .e (.a (.q 2))] : List SV), x.res (keys (α := Pred) [(0, PL EPig (f.shop.pigs)), (1, PL ENight (f.nights)), (2, PL (EP.sl EP.int) (plan))]) := by simp [SV.res, El.res, At.res, keys]
theorem r33 {f : Fnd} {plan : List (List Int)} : SV.res (keys (α := Pred) []) (.b (f.isPlanL plan)) := by simp [SV.res, El.res, At.res, keys]
set_option maxHeartbeats 4000000 in
theorem c33 (f : Fnd) (plan : List (List Int)) (hf : f.chk = true) : Sig Try.prog 33 [.e (.g [ai (f.shop.pounds), ai (f.shop.tl), ai (f.shop.th), ai (f.shop.al), ai (f.shop.ah), ai (f.shop.room), ai (f.shop.tpl), ai (f.shop.tph), ai (f.shop.apl), ai (f.shop.aph), .q 0, .q 1]), .e (.a (.q 2))] [(0, PL EPig (f.shop.pigs)), (1, PL ENight (f.nights)), (2, PL (EP.sl EP.int) (plan))] (.b (f.isPlanL plan)) [] := by
  refine Sig.intro Try.func33 rfl 3 [(0, .e (.g [ai (f.shop.pounds), ai (f.shop.tl), ai (f.shop.th), ai (f.shop.al), ai (f.shop.ah), ai (f.shop.room), ai (f.shop.tpl), ai (f.shop.tph), ai (f.shop.apl), ai (f.shop.aph), .q 0, .q 1])), (1, .e (.a (.q 2)))] rfl w33 rfl rfl fun I w => ?_
  refine WP.seq ?_
  refine WP.region ?_
  refine WPl.l 3 4 rfl rfl rfl (o_boxg rfl) ?_
  refine WPl.v rfl (o_assign rfl) ?_
  refine WPl.nil ?_
  refine EX.then ?_
  refine WP.seq ?_
  refine WP.region ?_
  refine WPl.v rfl (o_move rfl) ?_
  refine WPl.cs 4 rfl rfl rfl rfl (o_sig 4 (ren [(0, 2)]) (c15 plan) e15 rfl rfl rfl w15 ⟨(lx rfl), trivial⟩ r15) ?_
  refine WPl.v rfl (o_not rfl) ?_
  refine WPl.v rfl (o_move rfl) ?_
  refine WPl.bit 4 5 (!(longP plan)) rfl rfl ?_
  refine WPl.gv 4 rfl rfl (.plain rfl Iff.rfl rfl) (fun hb => o_ldpa G31 rfl rfl rfl) ?_
  refine WPl.gv 4 rfl rfl (.plain rfl Iff.rfl rfl) (fun hb => o_move rfl) ?_
  refine WPl.gc0 4 rfl rfl (.plain rfl Iff.rfl rfl) (fun hb => o_sig 5 (ren [(0, 0), (1, 1), (2, 2)]) (c99 f plan hf) e99 rfl rfl rfl w99 ⟨(lx rfl), (lx rfl), (lx rfl), trivial⟩ r99) ?_
  refine WPl.v rfl (o_and rfl rfl rfl id) ?_
  refine WPl.v rfl (o_assign rfl) ?_
  refine WPl.nil ?_
  refine EX.then ?_
  refine WP.ret ?_
  exact EX.fin id (.inl rfl) rfl (.tmp rfl .nil) rfl r33 trivial (by simp) (by simp)
theorem w50 {e : Int} : ∀ x ∈ ([.i (e)] : List SV), x.res (keys (α := Pred) []) := by simp [SV.res, El.res, At.res, keys]
theorem r50 {e : Int} : SV.res (keys (α := Pred) []) (.b (knownB e)) := by simp [SV.res, El.res, At.res, keys]
set_option maxHeartbeats 4000000 in
theorem c50 (e : Int)  : Sig Try.prog 50 [.i (e)] [] (.b (knownB e)) [] := by
  refine Sig.intro Try.func50 rfl 0 [(0, .i (e))] rfl w50 rfl rfl fun I w => ?_
  refine WP.seq ?_
  refine WP.region ?_
  refine WPl.v rfl (o_assign rfl) ?_
  refine WPl.nil ?_
  refine EX.then ?_
  refine WP.seq ?_
  refine WP.region ?_
  refine WPl.v rfl (o_move rfl) ?_
  refine WPl.v rfl (o_eql rfl rfl) ?_
  refine WPl.v rfl (o_move rfl) ?_
  refine WPl.bit 0 1 (!(decide (e = 0))) rfl rfl ?_
  refine WPl.gv 0 rfl rfl (.plain rfl (by simp) rfl) (fun hb => o_move rfl) ?_
  refine WPl.gv 0 rfl rfl (.plain rfl (by simp) rfl) (fun hb => o_eql rfl rfl) ?_
  refine WPl.v rfl (o_or rfl rfl rfl (by first | (simp; done) | simp_all)) ?_
  refine WPl.v rfl (o_assign rfl) ?_
  refine WPl.nil ?_
  refine EX.then ?_
  refine WP.ret ?_
  exact EX.fin id (.inl rfl) rfl (.tmp rfl .nil) rfl r50 trivial (by simp) (by simp)
theorem w63 {n e : Int} : ∀ x ∈ ([.i (n), .i (e)] : List SV), x.res (keys (α := Pred) []) := by simp [SV.res, El.res, At.res, keys]
theorem r63 {n e : Int} : SV.res (keys (α := Pred) []) (.t [.a (ai (costN n e)), .a (.v (.bool (costB n e)))]) := by simp [SV.res, El.res, At.res, keys]
set_option maxHeartbeats 4000000 in
theorem c63 (n e : Int)  : Sig Try.prog 63 [.i (n), .i (e)] [] (.t [.a (ai (costN n e)), .a (.v (.bool (costB n e)))]) [] := by
  refine Sig.intro Try.func63 rfl 0 [(0, .i (n)), (1, .i (e))] rfl w63 rfl rfl fun I w => ?_
  refine WP.seq ?_
  refine WP.region ?_
  refine WPl.v rfl (o_assign rfl) ?_
  refine WPl.v rfl (o_assign rfl) ?_
  refine WPl.nil ?_
  refine EX.then ?_
  refine WP.seq ?_
  refine WP.seq ?_
  refine WP.region ?_
  refine WPl.v rfl (o_move rfl) ?_
  refine WPl.v rfl (o_eql rfl rfl) ?_
  refine WPl.nil ?_
  refine EX.then ?_
  refine WP.cond rfl (fun hc1 => ?_) (fun hc1 => ?_)
  · try simp only [decide_eq_true_eq, decide_eq_false_iff_not, Bool.and_eq_true, Bool.or_eq_true, Bool.and_eq_false_iff, Bool.or_eq_false_iff, Bool.not_eq_true', Bool.not_eq_false', ne_eq, Decidable.not_not] at hc1
    refine WP.seq ?_
    refine WP.region ?_
    refine WPl.v rfl (o_assign rfl) ?_
    refine WPl.v rfl (o_assign rfl) ?_
    refine WPl.nil ?_
    refine EX.then ?_
    refine WP.ret ?_
    refine EX.ret_then ?_
    rw [show costN n e = 1000000 from if_pos hc1, show costB n e = true from if_pos hc1]
    exact EX.fin id (.inl rfl) rfl (.tmp rfl (.tmp rfl .nil)) rfl (by simp [SV.res, El.res, At.res, keys]) trivial (by simp) (by simp)
  · try simp only [decide_eq_true_eq, decide_eq_false_iff_not, Bool.and_eq_true, Bool.or_eq_true, Bool.and_eq_false_iff, Bool.or_eq_false_iff, Bool.not_eq_true', Bool.not_eq_false', ne_eq, Decidable.not_not] at hc1
    refine WP.skip ?_
    refine EX.then ?_
    refine WP.seq ?_
    refine WP.region ?_
    refine WPl.v rfl (o_move rfl) ?_
    refine WPl.v rfl (o_move rfl) ?_
    refine WPl.v rfl (o_eql rfl rfl) ?_
    refine WPl.v rfl (o_move rfl) ?_
    refine WPl.bit 0 1 (decide (e = 0)) rfl rfl ?_
    refine WPl.gv 0 rfl rfl (.plain rfl Iff.rfl rfl) (fun hb => o_move rfl) ?_
    refine WPl.gv 0 rfl rfl (.plain rfl Iff.rfl rfl) (fun hb => o_geq rfl rfl) ?_
    refine WPl.v rfl (o_and rfl rfl rfl id) ?_
    refine WPl.v rfl (o_move rfl) ?_
    refine WPl.bit 1 2 ((decide (e = 0)) && (decide (0 ≤ n))) rfl rfl ?_
    refine WPl.gv 1 rfl rfl (.plain rfl Iff.rfl rfl) (fun hb => o_move rfl) ?_
    refine WPl.gv 1 rfl rfl (.plain rfl Iff.rfl rfl) (fun hb => o_lss rfl rfl) ?_
    refine WPl.v rfl (o_and rfl rfl rfl id) ?_
    refine WPl.v rfl (o_assign rfl) ?_
    refine WPl.v rfl (o_assign rfl) ?_
    refine WPl.nil ?_
    refine EX.then ?_
    refine WP.ret ?_
    rw [show costN n e = n from if_neg hc1, show costB n e = (decide (e = 0) && decide (0 ≤ n) && decide (n < 1000000)) from if_neg hc1]
    exact EX.fin id (.inl rfl) rfl (.tmp rfl (.tmp rfl .nil)) rfl (by simp [SV.res, El.res, At.res, keys]) trivial (by simp) (by simp)
theorem w49 {f : Fnd} : ∀ x ∈ ([.e (.g [ai (f.shop.pounds), ai (f.shop.tl), ai (f.shop.th), ai (f.shop.al), ai (f.shop.ah), ai (f.shop.room), ai (f.shop.tpl), ai (f.shop.tph), ai (f.shop.apl), ai (f.shop.aph), .q 0, .q 1])] : List SV), x.res (keys (α := Pred) [(0, PL EPig (f.shop.pigs)), (1, PL ENight (f.nights))]) := by simp [SV.res, El.res, At.res, keys]
theorem r49 {f : Fnd} : SV.res (keys (α := Pred) []) (.t [.a (ai (f.cheapC)), .a (ai (f.onceC)), .a (ai (f.knownC)), .a (.v (.bool (true)))]) := by simp [SV.res, El.res, At.res, keys]
set_option maxHeartbeats 4000000 in
theorem c49 (f : Fnd) (hl : f.shop.pigs.length ≤ 40) (law : CostsLaw f) : Sig Try.prog 49 [.e (.g [ai (f.shop.pounds), ai (f.shop.tl), ai (f.shop.th), ai (f.shop.al), ai (f.shop.ah), ai (f.shop.room), ai (f.shop.tpl), ai (f.shop.tph), ai (f.shop.apl), ai (f.shop.aph), .q 0, .q 1])] [(0, PL EPig (f.shop.pigs)), (1, PL ENight (f.nights))] (.t [.a (ai (f.cheapC)), .a (ai (f.onceC)), .a (ai (f.knownC)), .a (.v (.bool (true)))]) [] := by
  refine Sig.intro Try.func49 rfl 2 [(0, .e (.g [ai (f.shop.pounds), ai (f.shop.tl), ai (f.shop.th), ai (f.shop.al), ai (f.shop.ah), ai (f.shop.room), ai (f.shop.tpl), ai (f.shop.tph), ai (f.shop.apl), ai (f.shop.aph), .q 0, .q 1]))] rfl w49 rfl rfl fun I w => ?_
  refine WP.seq ?_
  refine WP.region ?_
  refine WPl.l 2 3 rfl rfl rfl (o_boxg rfl) ?_
  refine WPl.v rfl (o_assign rfl) ?_
  refine WPl.v rfl (o_assign rfl) ?_
  refine WPl.v rfl (o_assign rfl) ?_
  refine WPl.v rfl (o_assign rfl) ?_
  refine WPl.nil ?_
  refine EX.then ?_
  refine WP.seq ?_
  refine WP.region ?_
  refine WPl.v rfl (o_ldpa G31 rfl rfl rfl) ?_
  refine WPl.cs 3 rfl rfl rfl rfl (o_sig 3 (ren [(0, 0), (1, 1)]) (c43 f hl) e43 rfl rfl rfl w43 ⟨(lx rfl), (lx rfl), trivial⟩ r43) ?_
  refine WPl.v rfl (o_extract rfl rfl) ?_
  refine WPl.v rfl (o_extract rfl rfl) ?_
  refine WPl.cs 3 rfl rfl rfl rfl (o_sig 3 id (c63 (f.leastV costG) (f.leastE costG)) e63 rfl rfl rfl w63 trivial r63) ?_
  refine WPl.v rfl (o_move rfl) ?_
  refine WPl.v rfl (o_extract rfl rfl) ?_
  refine WPl.v rfl (o_extract rfl rfl) ?_
  refine WPl.imp (Imp.bitF 16 (b' := true) rfl law.a) ?_
  refine WPl.v rfl (o_assign rfl) ?_
  refine WPl.v rfl (o_assign rfl) ?_
  refine WPl.nil ?_
  refine EX.then ?_
  refine WP.seq ?_
  refine WP.region ?_
  refine WPl.v rfl (o_ldpa G31 rfl rfl rfl) ?_
  refine WPl.cs 3 rfl rfl rfl rfl (o_sig 3 (ren [(0, 0), (1, 1)]) (c47 f hl) e47 rfl rfl rfl w47 ⟨(lx rfl), (lx rfl), trivial⟩ r47) ?_
  refine WPl.v rfl (o_extract rfl rfl) ?_
  refine WPl.v rfl (o_extract rfl rfl) ?_
  refine WPl.cs 3 rfl rfl rfl rfl (o_sig 3 id (c63 (f.leastV onceG) (f.leastE onceG)) e63 rfl rfl rfl w63 trivial r63) ?_
  refine WPl.v rfl (o_move rfl) ?_
  refine WPl.v rfl (o_extract rfl rfl) ?_
  refine WPl.v rfl (o_extract rfl rfl) ?_
  refine WPl.imp (Imp.bitF 24 (b' := true) rfl law.b) ?_
  refine WPl.v rfl (o_assign rfl) ?_
  refine WPl.v rfl (o_assign rfl) ?_
  refine WPl.nil ?_
  refine EX.then ?_
  refine WP.seq ?_
  refine WP.region ?_
  refine WPl.v rfl (o_ldpa G31 rfl rfl rfl) ?_
  refine WPl.cs 3 rfl rfl rfl rfl (o_sig 3 (ren [(0, 0), (1, 1)]) (c57 f hl) e57 rfl rfl rfl w57 ⟨(lx rfl), (lx rfl), trivial⟩ r57) ?_
  refine WPl.v rfl (o_extract rfl rfl) ?_
  refine WPl.v rfl (o_extract rfl rfl) ?_
  refine WPl.cs 3 rfl rfl rfl rfl (o_sig 3 id (c63 f.wKnownV f.wKnownE) e63 rfl rfl rfl w63 trivial r63) ?_
  refine WPl.v rfl (o_move rfl) ?_
  refine WPl.v rfl (o_extract rfl rfl) ?_
  refine WPl.v rfl (o_extract rfl rfl) ?_
  refine WPl.imp (Imp.bitF 32 (b' := true) rfl law.c) ?_
  refine WPl.v rfl (o_assign rfl) ?_
  refine WPl.v rfl (o_assign rfl) ?_
  refine WPl.nil ?_
  refine EX.then ?_
  refine WP.seq ?_
  refine WP.region ?_
  refine WPl.v rfl (o_move rfl) ?_
  refine WPl.v rfl (o_move rfl) ?_
  refine WPl.v rfl (o_move rfl) ?_
  refine WPl.v rfl (o_move rfl) ?_
  refine WPl.v rfl (o_move rfl) ?_
  refine WPl.on rfl ⟨_, _, rfl, rfl, rfl⟩ (o_move rfl) ?_
  refine WPl.v rfl (o_pickT rfl rfl) ?_
  refine WPl.v rfl (o_move rfl) ?_
  refine WPl.on rfl ⟨_, _, rfl, rfl, rfl⟩ (o_move rfl) ?_
  refine WPl.v rfl (o_pickT rfl rfl) ?_
  refine WPl.v rfl (o_move rfl) ?_
  refine WPl.on rfl ⟨_, _, rfl, rfl, rfl⟩ (o_move rfl) ?_
  refine WPl.on rfl ⟨_, _, rfl, rfl, rfl⟩ (o_eql rfl rfl) ?_
  refine WPl.on rfl ⟨_, _, rfl, rfl, rfl⟩ (o_move rfl) ?_
  refine WPl.on rfl ⟨_, _, rfl, rfl, rfl⟩ (o_eql rfl rfl) ?_
  refine WPl.on rfl ⟨_, _, rfl, rfl, rfl⟩ (o_eqb Try.underlying4 rfl rfl) ?_
  refine WPl.v rfl (o_pickT rfl rfl) ?_
  refine WPl.imp (Imp.bitF 49 (b' := true) rfl (beq_iff_eq.2 law.d)) ?_
  refine WPl.v rfl (o_assign rfl) ?_
  refine WPl.v rfl (o_assign rfl) ?_
  refine WPl.v rfl (o_assign rfl) ?_
  refine WPl.v rfl (o_assign rfl) ?_
  refine WPl.nil ?_
  refine EX.then ?_
  refine WP.ret ?_
  exact EX.fin id (.inl rfl) rfl (.tmp rfl (.tmp rfl (.tmp rfl (.tmp rfl .nil)))) rfl r49 trivial (by simp) (by simp)
end Go.Flong
namespace Go.Flong
open Go Go.Eng Go.Proofs
theorem e32 : Enters' Try.prog 32 := Try.call32
theorem e16 : Enters' Try.prog 16 := Try.call16
theorem e49 : Enters' Try.prog 49 := Try.call49
theorem e50 : Enters' Try.prog 50 := Try.call50
theorem e33 : Enters' Try.prog 33 := Try.call33
theorem e51 : Enters' Try.prog 51 := Try.call51
theorem e52 : Enters' Try.prog 52 := Try.call52
theorem e18 : Enters' Try.prog 18 := Try.call18
theorem e53 : Enters' Try.prog 53 := Try.call53
theorem w6 {f : Fnd} {plan : List (List Int)} : ∀ x ∈ ([.e (.g [ai (f.shop.pounds), ai (f.shop.tl), ai (f.shop.th), ai (f.shop.al), ai (f.shop.ah), ai (f.shop.room), ai (f.shop.tpl), ai (f.shop.tph), ai (f.shop.apl), ai (f.shop.aph), .q 0, .q 1]), .e (.a (.q 2))] : List SV), x.res (keys (α := Pred) [(0, PL EPig (f.shop.pigs)), (1, PL ENight (f.nights)), (2, PL (EP.sl EP.int) (plan))]) := by simp [SV.res, El.res, At.res, keys]
theorem r6  : SV.res (keys (α := Pred) []) (.b (true)) := by simp [SV.res, El.res, At.res, keys]
set_option maxHeartbeats 4000000 in
theorem c6 (f : Fnd) (plan : List (List Int)) (hlaw : f.chk = true → PlanLaw f plan) : Sig Try.prog 6 [.e (.g [ai (f.shop.pounds), ai (f.shop.tl), ai (f.shop.th), ai (f.shop.al), ai (f.shop.ah), ai (f.shop.room), ai (f.shop.tpl), ai (f.shop.tph), ai (f.shop.apl), ai (f.shop.aph), .q 0, .q 1]), .e (.a (.q 2))] [(0, PL EPig (f.shop.pigs)), (1, PL ENight (f.nights)), (2, PL (EP.sl EP.int) (plan))] (.b (true)) [] := by
  refine Sig.intro Try.func6 rfl 3 [(0, .e (.g [ai (f.shop.pounds), ai (f.shop.tl), ai (f.shop.th), ai (f.shop.al), ai (f.shop.ah), ai (f.shop.room), ai (f.shop.tpl), ai (f.shop.tph), ai (f.shop.apl), ai (f.shop.aph), .q 0, .q 1])), (1, .e (.a (.q 2)))] rfl w6 rfl rfl fun I w => ?_
  refine WP.seq ?_
  refine WP.region ?_
  refine WPl.l 3 4 rfl rfl rfl (o_boxg rfl) ?_
  refine WPl.v rfl (o_assign rfl) ?_
  refine WPl.nil ?_
  refine EX.then ?_
  refine WP.seq ?_
  refine WP.seq ?_
  refine WP.region ?_
  refine WPl.v rfl (o_ldpa G31 rfl rfl rfl) ?_
  refine WPl.cs 4 rfl rfl rfl rfl (o_sig 4 (ren [(0, 0), (1, 1)]) (c32 f) e32 rfl rfl rfl w32 ⟨(lx rfl), (lx rfl), trivial⟩ r32) ?_
  refine WPl.v rfl (o_not rfl) ?_
  refine WPl.nil ?_
  refine EX.then ?_
  refine WP.cond rfl (fun hc1 => ?_) (fun hc1 => ?_)
  · try simp only [decide_eq_true_eq, decide_eq_false_iff_not, Bool.and_eq_true, Bool.or_eq_true, Bool.and_eq_false_iff, Bool.or_eq_false_iff, Bool.not_eq_true', Bool.not_eq_false', ne_eq, Decidable.not_not] at hc1
    refine WP.seq ?_
    refine WP.region ?_
    refine WPl.cs 4 rfl rfl rfl rfl (o_sig 4 id c16 e16 rfl rfl rfl w16 trivial r16) ?_
    refine WPl.v rfl (o_assign rfl) ?_
    refine WPl.nil ?_
    refine EX.then ?_
    refine WP.ret ?_
    refine EX.ret_then ?_
    exact EX.fin id (.inl rfl) rfl (.tmp rfl .nil) rfl r6 trivial (by simp) (by simp)
  · try simp only [decide_eq_true_eq, decide_eq_false_iff_not, Bool.and_eq_true, Bool.or_eq_true, Bool.and_eq_false_iff, Bool.or_eq_false_iff, Bool.not_eq_true', Bool.not_eq_false', ne_eq, Decidable.not_not] at hc1
    have hrd := rdy_parts hc1
    have hf := hrd.2
    have hcb := Fnd.chkB hf
    have law := hlaw hf
    have hpg := Shop.pigsOK (Fnd.shopOK hf)
    have hlw := wPlanV_len (f := f)
    refine WP.skip ?_
    refine EX.then ?_
    refine WP.seq ?_
    refine WP.region ?_
    refine WPl.v rfl (o_ldpa G31 rfl rfl rfl) ?_
    refine WPl.cs 4 rfl rfl rfl rfl (o_sig 4 (ren [(0, 0), (1, 1)]) (c49 f (by omega) law.c) e49 rfl rfl rfl w49 ⟨(lx rfl), (lx rfl), trivial⟩ r49) ?_
    refine WPl.v rfl (o_move rfl) ?_
    refine WPl.v rfl (o_extract rfl rfl) ?_
    refine WPl.v rfl (o_extract rfl rfl) ?_
    refine WPl.v rfl (o_extract rfl rfl) ?_
    refine WPl.v rfl (o_extract rfl rfl) ?_
    refine WPl.v rfl (o_assign rfl) ?_
    refine WPl.v rfl (o_assign rfl) ?_
    refine WPl.v rfl (o_assign rfl) ?_
    refine WPl.v rfl (o_assign rfl) ?_
    refine WPl.nil ?_
    refine EX.then ?_
    refine WP.seq ?_
    refine WP.region ?_
    refine WPl.v rfl (o_ldpa G31 rfl rfl rfl) ?_
    refine WPl.cs 5 rfl rfl rfl rfl (o_sig 4 (ren [(0, 0), (1, 1)]) (c45 f (by omega)) e45 rfl rfl rfl w45 ⟨(lx rfl), (lx rfl), trivial⟩ r45) ?_
    refine WPl.v rfl (o_move rfl) ?_
    refine WPl.v rfl (o_extract rfl rfl) ?_
    refine WPl.v rfl (o_extract rfl rfl) ?_
    refine WPl.v rfl (o_assign rfl) ?_
    refine WPl.v rfl (o_assign rfl) ?_
    refine WPl.nil ?_
    refine EX.then ?_
    refine WP.seq ?_
    refine WP.region ?_
    refine WPl.v rfl (o_ldpa G31 rfl rfl rfl) ?_
    refine WPl.cs 5 rfl rfl rfl rfl (o_sig 5 (ren [(0, 0), (1, 1)]) (c28 f (by omega)) e28 rfl rfl rfl w28 ⟨(lx rfl), (lx rfl), trivial⟩ r28) ?_
    refine WPl.v rfl (o_move rfl) ?_
    refine WPl.v rfl (o_extract rfl rfl) ?_
    refine WPl.v rfl (o_extract rfl rfl) ?_
    refine WPl.v rfl (o_assign rfl) ?_
    refine WPl.v rfl (o_assign rfl) ?_
    refine WPl.nil ?_
    refine EX.then ?_
    refine WP.seq ?_
    refine WP.seq ?_
    refine WP.region ?_
    refine WPl.v rfl (o_move rfl) ?_
    refine WPl.v rfl (o_not rfl) ?_
    refine WPl.v rfl (o_move rfl) ?_
    refine WPl.on rfl ⟨_, _, rfl, rfl, rfl⟩ (o_move rfl) ?_
    refine WPl.cL 6 rfl rfl rfl rfl ⟨_, _, rfl, rfl, rfl⟩ (o_sig 5 id (c50 (f.leastE costG)) e50 rfl rfl rfl w50 trivial r50) ?_
    refine WPl.on rfl ⟨_, _, rfl, rfl, rfl⟩ (o_not rfl) ?_
    refine WPl.v rfl (o_pickF rfl rfl) ?_
    refine WPl.v rfl (o_move rfl) ?_
    refine WPl.bit 6 7 (!(!(knownB (f.leastE costG)))) rfl rfl ?_
    refine WPl.gv 6 rfl rfl (.plain rfl (by simp) rfl) (fun hb => o_move rfl) ?_
    refine WPl.gv 6 rfl rfl (.plain rfl (by simp) rfl) (fun hb => o_eql rfl rfl) ?_
    refine WPl.gv 6 rfl rfl (.plain rfl (by simp) rfl) (fun hb => o_move rfl) ?_
    refine WPl.gv 6 rfl rfl (.plain rfl (by simp) rfl) (fun hb => o_lss rfl rfl) ?_
    refine WPl.gv 6 rfl rfl (.plain rfl (by simp) rfl) (fun hb => o_neb Try.underlying4 rfl rfl) ?_
    refine WPl.v rfl (o_or rfl rfl rfl (by first | (simp; done) | simp_all)) ?_
    refine WPl.v rfl (o_move rfl) ?_
    refine WPl.bit 7 8 (!((!(knownB (f.leastE costG))) || ((decide ((f.leastE costG) = 0)) != (decide (f.cheapC < 1000000))))) rfl rfl ?_
    refine WPl.gv 7 rfl rfl (.plain rfl (by simp) rfl) (fun hb => o_move rfl) ?_
    refine WPl.gv 7 rfl rfl (.plain rfl (by simp) rfl) (fun hb => o_neq rfl rfl) ?_
    refine WPl.v rfl (o_or rfl rfl rfl (by first | (simp; done) | simp_all)) ?_
    refine WPl.v rfl (o_move rfl) ?_
    refine WPl.bit 8 9 (!(((!(knownB (f.leastE costG))) || ((decide ((f.leastE costG) = 0)) != (decide (f.cheapC < 1000000)))) || (decide ((errW f.chk) ≠ 0)))) rfl rfl ?_
    refine WPl.gv 8 rfl rfl (.plain rfl (by simp) rfl) (fun hb => o_move rfl) ?_
    refine WPl.gv 8 rfl rfl (.plain rfl (by simp) rfl) (fun hb => o_fldp F31_1 rfl) ?_
    refine WPl.gv 8 rfl rfl (.plain rfl (by simp) rfl) (fun hb => o_ldp S29 rfl rfl rfl) ?_
    refine WPl.gv 8 rfl rfl (.plain rfl (by simp) rfl) (fun hb => o_lenq L29 rfl (lx rfl)) ?_
    refine WPl.gc0 8 rfl rfl (.plain rfl (by simp) rfl) (fun hb => o_sig 9 id (c35 f.wLastV 0 (f.nights.length : Int)) e35 rfl rfl rfl w35 trivial r35) ?_
    refine WPl.gv 8 rfl rfl (.plain rfl (by simp) rfl) (fun hb => o_not rfl) ?_
    refine WPl.v rfl (o_or rfl rfl rfl (by first | (simp; done) | simp_all)) ?_
    refine WPl.v rfl (o_move rfl) ?_
    refine WPl.bit 9 10 (!((((!(knownB (f.leastE costG))) || ((decide ((f.leastE costG) = 0)) != (decide (f.cheapC < 1000000)))) || (decide ((errW f.chk) ≠ 0))) || (!(within f.wLastV 0 (f.nights.length : Int))))) rfl rfl ?_
    refine WPl.gv 9 rfl rfl (.plain rfl (by simp) rfl) (fun hb => o_move rfl) ?_
    refine WPl.gv 9 rfl rfl (.plain rfl (by simp) rfl) (fun hb => o_fldp F31_1 rfl) ?_
    refine WPl.gv 9 rfl rfl (.plain rfl (by simp) rfl) (fun hb => o_ldp S29 rfl rfl rfl) ?_
    refine WPl.gv 9 rfl rfl (.plain rfl (by simp) rfl) (fun hb => o_lenq L29 rfl (lx rfl)) ?_
    refine WPl.gv 9 rfl rfl (.plain rfl (by simp) rfl) (fun hb => o_eql rfl rfl) ?_
    refine WPl.gv 9 rfl rfl (.plain rfl (by simp) rfl) (fun hb => o_move rfl) ?_
    refine WPl.bit 10 11 ((!((((!(knownB (f.leastE costG))) || ((decide ((f.leastE costG) = 0)) != (decide (f.cheapC < 1000000)))) || (decide ((errW f.chk) ≠ 0))) || (!(within f.wLastV 0 (f.nights.length : Int))))) && (decide (f.wLastV = (f.nights.length : Int)))) rfl rfl ?_
    refine WPl.gv 10 rfl rfl (.nest rfl rfl (by simp) rfl) (fun hb => o_move rfl) ?_
    refine WPl.gv 10 rfl rfl (.nest rfl rfl (by simp) rfl) (fun hb => o_neq rfl rfl) ?_
    refine WPl.gv 9 rfl rfl (.plain rfl (by simp) rfl) (fun hb => o_and rfl rfl rfl (by first | (simp; done) | exact fun h => Bool.and_eq_true_iff.2 ⟨hb, h⟩ | simp_all)) ?_
    refine WPl.v rfl (o_or rfl rfl rfl (by first | (simp; done) | simp_all)) ?_
    refine WPl.nil ?_
    refine EX.then ?_
    refine WP.cond rfl (fun hc2 => ?_) (fun hc2 => ?_)
    · try simp only [decide_eq_true_eq, decide_eq_false_iff_not, Bool.and_eq_true, Bool.or_eq_true, Bool.and_eq_false_iff, Bool.or_eq_false_iff, Bool.not_eq_true', Bool.not_eq_false', ne_eq, Decidable.not_not] at hc2
      rw [hf, knownB_of law.k] at hc2
      have h1 := law.k
      have h2 := law.e
      have h3 := law.l
      have h4 := law.z
      simp [errW, within] at hc2
      grind
    · try simp only [decide_eq_true_eq, decide_eq_false_iff_not, Bool.and_eq_true, Bool.or_eq_true, Bool.and_eq_false_iff, Bool.or_eq_false_iff, Bool.not_eq_true', Bool.not_eq_false', ne_eq, Decidable.not_not] at hc2
      refine WP.skip ?_
      refine EX.then ?_
      refine WP.seq ?_
      refine WP.seq ?_
      refine WP.region ?_
      refine WPl.v rfl (o_move rfl) ?_
      refine WPl.v rfl (o_eql rfl rfl) ?_
      refine WPl.nil ?_
      refine EX.then ?_
      refine WP.cond rfl (fun hc3 => ?_) (fun hc3 => ?_)
      · try simp only [decide_eq_true_eq, decide_eq_false_iff_not, Bool.and_eq_true, Bool.or_eq_true, Bool.and_eq_false_iff, Bool.or_eq_false_iff, Bool.not_eq_true', Bool.not_eq_false', ne_eq, Decidable.not_not] at hc3
        have hw := wPlanV_len (f := f)
        have hpl := law.p1 hc3
        have hpp := isPlanL_parts hpl
        have hrb := planRows hf hpp.2
        refine WP.seq ?_
        refine WP.seq ?_
        refine WP.imp (Imp.bit 11 12 (!(!(f.isPlanL f.wPlanV))) rfl rfl) ?_
        refine WP.imp (Imp.bit 12 13 (!((!(f.isPlanL f.wPlanV)) || (decide ((f.shop.cost f.wPlanV) ≠ f.cheapC)))) rfl rfl) ?_
        refine WP.imp (Imp.bit 13 14 (!(((!(f.isPlanL f.wPlanV)) || (decide ((f.shop.cost f.wPlanV) ≠ f.cheapC))) || (decide ((addsTo f.wPlanV f.wPlanV.length) < f.onceC)))) rfl rfl) ?_
        refine WP.draw (nf := 14) [⟨[80], [], [], [], []⟩, ⟨[79], [], [], [], []⟩, ⟨[], [], [], [], [0, 1]⟩, ⟨[], [], [], [], [0, 1, 2]⟩, ⟨[], [], [], [], [0, 1, 2, 3]⟩, ⟨[85, 87], [], [], [], [0, 1, 2, 3, 4]⟩, ⟨[84, 87], [], [], [], [0, 1, 2, 3, 4]⟩, ⟨[87], [], [], [], [0, 1, 2, 3, 4, 5, 6]⟩, ⟨[84, 85, 86], [], [], [], [0, 1, 2, 3, 4]⟩, ⟨[], [], [], [], [0, 1, 2, 3, 4, 5, 6, 7, 8]⟩, ⟨[], [], [], [], [0, 1, 2, 3, 4, 5, 6, 7, 8, 9]⟩, ⟨[], [], [], [], [0, 1, 2, 3, 4, 5, 6, 7, 8, 9, 10]⟩, ⟨[93], [], [], [], [0, 1, 2, 3, 4, 5, 6, 7, 8, 9, 10, 11]⟩, ⟨[93], [], [], [], [0, 1, 2, 3, 4, 5, 6, 7, 8, 9, 10, 11, 12]⟩, ⟨[91, 92], [], [], [], [0, 1, 2, 3, 4, 5, 6, 7, 8, 9, 10, 11]⟩, ⟨[], [], [], [], [0, 1, 2, 3, 4, 5, 6, 7, 8, 9, 10, 11, 12, 13, 14]⟩, ⟨[], [], [], [], [0, 1, 2, 3, 4, 5, 6, 7, 8, 9, 10, 11, 12, 13, 14, 15]⟩, ⟨[], [], [], [], [0, 1, 2, 3, 4, 5, 6, 7, 8, 9, 10, 11, 12, 13, 14, 15, 16]⟩, ⟨[100, 101, 102, 103, 104], [], [], [], [0, 1, 2, 3, 4, 5, 6, 7, 8, 9, 10, 11, 12, 13, 14, 15, 16, 17]⟩, ⟨[100, 101, 102, 103, 104], [], [], [], [0, 1, 2, 3, 4, 5, 6, 7, 8, 9, 10, 11, 12, 13, 14, 15, 16, 17, 18]⟩, ⟨[100, 101, 102, 103, 104], [], [], [], [0, 1, 2, 3, 4, 5, 6, 7, 8, 9, 10, 11, 12, 13, 14, 15, 16, 17, 18, 19]⟩, ⟨[97, 98, 99, 101, 102, 103], [], [], [], [0, 1, 2, 3, 4, 5, 6, 7, 8, 9, 10, 11, 12, 13, 14, 15, 16, 17]⟩, ⟨[97, 98, 99, 100], [], [], [], [0, 1, 2, 3, 4, 5, 6, 7, 8, 9, 10, 11, 12, 13, 14, 15, 16, 17]⟩, ⟨[97, 98, 99, 100], [], [], [], [0, 1, 2, 3, 4, 5, 6, 7, 8, 9, 10, 11, 12, 13, 14, 15, 16, 17, 22]⟩, ⟨[97, 98, 99, 100], [], [], [], [0, 1, 2, 3, 4, 5, 6, 7, 8, 9, 10, 11, 12, 13, 14, 15, 16, 17, 22, 23]⟩, ⟨[97, 98, 99], [], [], [], [0, 1, 2, 3, 4, 5, 6, 7, 8, 9, 10, 11, 12, 13, 14, 15, 16, 17, 21, 22, 23, 24]⟩, ⟨[], [], [], [], [0, 1, 2, 3, 4, 5, 6, 7, 8, 9, 10, 11, 12, 13, 14, 15, 16, 17, 18, 19, 20, 21, 22, 23, 24, 25]⟩, ⟨[], [], [], [], [0, 1, 2, 3, 4, 5, 6, 7, 8, 9, 10, 11, 12, 13, 14, 15, 16, 17, 18, 19, 20, 21, 22, 23, 24, 25, 26]⟩] (by kernel_rfl) (by kernel_rfl) ?_
        refine DRQ.v rfl rfl rfl (o_ldpa G31 rfl rfl rfl) ?_
        refine DRQ.v rfl rfl rfl (o_move rfl) ?_
        refine DRQ.cs rfl rfl rfl rfl (o_sig 14 (ren [(0, 0), (1, 1), (2, 4)]) (c33 f f.wPlanV hf) e33 rfl rfl rfl w33 ⟨(lx rfl), (lx rfl), (lx rfl), trivial⟩ r33) ?_
        refine DRQ.v rfl rfl rfl (o_not rfl) ?_
        refine DRQ.v rfl rfl rfl (o_move rfl) ?_
        refine DRQ.gv 11 rfl rfl (.plain rfl (by simp) rfl) rfl (fun hb => o_ldpa G31 rfl rfl rfl) ?_
        refine DRQ.gv 11 rfl rfl (.plain rfl (by simp) rfl) rfl (fun hb => o_move rfl) ?_
        refine DRQ.gv 11 rfl rfl (.plain rfl (by simp) rfl) rfl (fun hb => o_sig 14 (ren [(0, 0), (1, 1), (2, 4)]) (c51 f f.wPlanV hpg hrb) e51 rfl rfl rfl w51 ⟨(lx rfl), (lx rfl), (lx rfl), trivial⟩ r51) ?_
        refine DRQ.gv 11 rfl rfl (.plain rfl (by simp) rfl) rfl (fun hb => o_move rfl) ?_
        refine DRQ.gv 11 rfl rfl (.plain rfl (by simp) rfl) rfl (fun hb => o_neq rfl rfl) ?_
        refine DRQ.v rfl rfl rfl (o_or rfl rfl rfl (by first | (simp; done) | simp_all)) ?_
        refine DRQ.v rfl rfl rfl (o_move rfl) ?_
        refine DRQ.gv 12 rfl rfl (.plain rfl (by simp) rfl) rfl (fun hb => o_move rfl) ?_
        refine DRQ.gv 12 rfl rfl (.plain rfl (by simp) rfl) rfl (fun hb => o_sig 14 (ren [(0, 4)]) (c52 f.wPlanV f.shop.pigs.length hrb (by omega)) e52 rfl rfl rfl w52 ⟨(lx rfl), trivial⟩ r52) ?_
        refine DRQ.gv 12 rfl rfl (.plain rfl (by simp) rfl) rfl (fun hb => o_move rfl) ?_
        refine DRQ.gv 12 rfl rfl (.plain rfl (by simp) rfl) rfl (fun hb => o_lss rfl rfl) ?_
        refine DRQ.v rfl rfl rfl (o_or rfl rfl rfl (by first | (simp; done) | simp_all)) ?_
        refine DRQ.v rfl rfl rfl (o_move rfl) ?_
        refine DRQ.gv 13 rfl rfl (.plain rfl (by simp) rfl) rfl (fun hb => o_move rfl) ?_
        refine DRQ.gv 13 rfl rfl (.plain rfl (by simp) rfl) rfl (fun hb => o_sig 14 (ren [(0, 4)]) (c52 f.wPlanV f.shop.pigs.length hrb (by omega)) e52 rfl rfl rfl w52 ⟨(lx rfl), trivial⟩ r52) ?_
        refine DRQ.gv 13 rfl rfl (.plain rfl (by simp) rfl) rfl (fun hb => o_eql rfl rfl) ?_
        refine DRQ.gv 13 rfl rfl (.plain rfl (by simp) rfl) rfl (fun hb => o_move rfl) ?_
        refine DRQ.gv 13 rfl rfl (.plain rfl (by simp) rfl) rfl (fun hb => o_fldp F31_1 rfl) ?_
        refine DRQ.gv 13 rfl rfl (.plain rfl (by simp) rfl) rfl (fun hb => o_ldp S29 rfl rfl rfl) ?_
        refine DRQ.gv 13 rfl rfl (.plain rfl (by simp) rfl) rfl (fun hb => o_lenq L29 rfl (lx rfl)) ?_
        refine DRQ.gv 13 rfl rfl (.plain rfl (by simp) rfl) rfl (fun hb => o_eql rfl rfl) ?_
        refine DRQ.gv 13 rfl rfl (.plain rfl (by simp) rfl) rfl (fun hb => o_neb Try.underlying4 rfl rfl) ?_
        refine DRQ.v rfl rfl rfl (o_or rfl rfl rfl (by first | (simp; done) | simp_all)) ?_
        refine DRQ.nil' ?_
        refine EX.then ?_
        refine WP.cond rfl (fun hc4 => ?_) (fun hc4 => ?_)
        · try simp only [decide_eq_true_eq, decide_eq_false_iff_not, Bool.and_eq_true, Bool.or_eq_true, Bool.and_eq_false_iff, Bool.or_eq_false_iff, Bool.not_eq_true', Bool.not_eq_false', ne_eq, Decidable.not_not] at hc4
          have h2 := law.p2 hc3
          have h3 := law.p3 hc3
          have h4 := law.p4 hc3
          rw [hpl, h2] at hc4
          simp at hc4
          grind
        · try simp only [decide_eq_true_eq, decide_eq_false_iff_not, Bool.and_eq_true, Bool.or_eq_true, Bool.and_eq_false_iff, Bool.or_eq_false_iff, Bool.not_eq_true', Bool.not_eq_false', ne_eq, Decidable.not_not] at hc4
          refine WP.skip ?_
          refine EX.then ?_
          refine WP.seq ?_
          refine WP.draw (nf := 15) [⟨[109, 110], [14], [], [], []⟩, ⟨[108], [], [], [], []⟩, ⟨[108], [], [14], [14], [1]⟩, ⟨[], [], [], [], [0, 1, 2]⟩, ⟨[], [], [], [], [0, 1, 2, 3]⟩, ⟨[113], [], [], [], [0, 1, 2, 3, 4]⟩, ⟨[112, 13], [], [], [], [0, 1, 2, 3, 4]⟩, ⟨[113], [], [], [], [0, 1, 2, 3, 4, 5]⟩, ⟨[], [], [], [], [0, 1, 2, 3, 4, 5, 6, 7]⟩] (by kernel_rfl) (by kernel_rfl) ?_
          refine DRQ.v rfl rfl rfl (o_ldpa G31 rfl rfl rfl) ?_
          refine DRQ.v rfl rfl rfl (o_move rfl) ?_
          refine DRQ.cs rfl rfl rfl rfl (o_sig 14 (ren [(0, 4)]) (c18 f.wPlanV (by omega) (fun i hi => by have := hw.2 i hi; omega)) e18 rfl rfl rfl w18 ⟨(lx rfl), trivial⟩ r18) ?_
          refine DRQ.cs rfl rfl rfl rfl (o_sig 15 (ren [(0, 0), (1, 1), (2, 14)]) (c23 f f.wPlanV (by omega)) e23 rfl rfl rfl w23 ⟨(lx rfl), (lx rfl), (lx rfl), trivial⟩ r23) ?_
          refine DRQ.v rfl rfl rfl (o_move rfl) ?_
          refine DRQ.v rfl rfl rfl (o_extract rfl rfl) ?_
          refine DRQ.v rfl rfl rfl (o_extract rfl rfl) ?_
          refine DRQ.v rfl rfl rfl (o_assign rfl) ?_
          refine DRQ.v rfl rfl rfl (o_assign rfl) ?_
          refine DRQ.nil' ?_
          refine EX.then ?_
          refine WP.seq ?_
          refine WP.region ?_
          refine WPl.v rfl (o_move rfl) ?_
          refine WPl.v rfl (o_neq rfl rfl) ?_
          refine WPl.v rfl (o_move rfl) ?_
          refine WPl.bit 15 16 (!(decide ((f.wOpen (f.wPlan f.wPlanV)) ≠ 0))) rfl rfl ?_
          refine WPl.gv 15 rfl rfl (.plain rfl (by simp) rfl) (fun hb => o_move rfl) ?_
          refine WPl.gv 15 rfl rfl (.plain rfl (by simp) rfl) (fun hb => o_neq rfl rfl) ?_
          refine WPl.v rfl (o_or rfl rfl rfl (by first | (simp; done) | simp_all)) ?_
          refine WPl.nil ?_
          refine EX.then ?_
          refine WP.cond rfl (fun hc5 => ?_) (fun hc5 => ?_)
          · try simp only [decide_eq_true_eq, decide_eq_false_iff_not, Bool.and_eq_true, Bool.or_eq_true, Bool.and_eq_false_iff, Bool.or_eq_false_iff, Bool.not_eq_true', Bool.not_eq_false', ne_eq, Decidable.not_not] at hc5
            rw [(law.p5 hc3).1, (law.p5 hc3).2] at hc5
            simp at hc5
          · try simp only [decide_eq_true_eq, decide_eq_false_iff_not, Bool.and_eq_true, Bool.or_eq_true, Bool.and_eq_false_iff, Bool.or_eq_false_iff, Bool.not_eq_true', Bool.not_eq_false', ne_eq, Decidable.not_not] at hc5
            refine WP.skip ?_
            refine EX.then ?_
            refine WP.seq ?_
            refine WP.seq ?_
            refine WP.region ?_
            refine WPl.v rfl (o_ldpa G31 rfl rfl rfl) ?_
            refine WPl.v rfl (o_move rfl) ?_
            refine WPl.cs 16 rfl rfl rfl rfl (o_sig 16 (ren [(0, 0), (1, 1), (2, 2)]) (c33 f plan hf) e33 rfl rfl rfl w33 ⟨(lx rfl), (lx rfl), (lx rfl), trivial⟩ r33) ?_
            refine WPl.v rfl (o_not rfl) ?_
            refine WPl.nil ?_
            refine EX.then ?_
            refine WP.cond rfl (fun hc6 => ?_) (fun hc6 => ?_)
            · try simp only [decide_eq_true_eq, decide_eq_false_iff_not, Bool.and_eq_true, Bool.or_eq_true, Bool.and_eq_false_iff, Bool.or_eq_false_iff, Bool.not_eq_true', Bool.not_eq_false', ne_eq, Decidable.not_not] at hc6
              refine WP.seq ?_
              refine WP.region ?_
              refine WPl.cs 16 rfl rfl rfl rfl (o_sig 16 id c16 e16 rfl rfl rfl w16 trivial r16) ?_
              refine WPl.v rfl (o_assign rfl) ?_
              refine WPl.nil ?_
              refine EX.then ?_
              refine WP.ret ?_
              refine EX.ret_then ?_
              exact EX.fin id (.inl rfl) rfl (.tmp rfl .nil) rfl r6 trivial (by simp) (by simp)
            · try simp only [decide_eq_true_eq, decide_eq_false_iff_not, Bool.and_eq_true, Bool.or_eq_true, Bool.and_eq_false_iff, Bool.or_eq_false_iff, Bool.not_eq_true', Bool.not_eq_false', ne_eq, Decidable.not_not] at hc6
              have hip := isPlanL_parts hc6
              have hll := longP_len hip.1
              have hrp := planRows hf hip.2
              refine WP.skip ?_
              refine EX.then ?_
              refine WP.seq ?_
              refine WP.draw (nf := 17) [⟨[127, 128], [16], [], [], []⟩, ⟨[126], [], [], [], []⟩, ⟨[126], [], [16], [16], [1]⟩, ⟨[], [], [], [], [0, 1, 2]⟩, ⟨[], [], [], [], [0, 1, 2, 3]⟩, ⟨[131], [], [], [], [0, 1, 2, 3, 4]⟩, ⟨[130, 15], [], [], [], [0, 1, 2, 3, 4]⟩, ⟨[131], [], [], [], [0, 1, 2, 3, 4, 5]⟩, ⟨[], [], [], [], [0, 1, 2, 3, 4, 5, 6, 7]⟩] (by kernel_rfl) (by kernel_rfl) ?_
              refine DRQ.v rfl rfl rfl (o_ldpa G31 rfl rfl rfl) ?_
              refine DRQ.v rfl rfl rfl (o_move rfl) ?_
              refine DRQ.cs rfl rfl rfl rfl (o_sig 16 (ren [(0, 2)]) (c18 plan hll.1 hll.2) e18 rfl rfl rfl w18 ⟨(lx rfl), trivial⟩ r18) ?_
              refine DRQ.cs rfl rfl rfl rfl (o_sig 17 (ren [(0, 0), (1, 1), (2, 16)]) (c23 f plan (by omega)) e23 rfl rfl rfl w23 ⟨(lx rfl), (lx rfl), (lx rfl), trivial⟩ r23) ?_
              refine DRQ.v rfl rfl rfl (o_move rfl) ?_
              refine DRQ.v rfl rfl rfl (o_extract rfl rfl) ?_
              refine DRQ.v rfl rfl rfl (o_extract rfl rfl) ?_
              refine DRQ.v rfl rfl rfl (o_assign rfl) ?_
              refine DRQ.v rfl rfl rfl (o_assign rfl) ?_
              refine DRQ.nil' ?_
              refine EX.then ?_
              refine WP.seq ?_
              refine WP.seq ?_
              refine WP.region ?_
              refine WPl.v rfl (o_move rfl) ?_
              refine WPl.v rfl (o_neq rfl rfl) ?_
              refine WPl.nil ?_
              refine EX.then ?_
              refine WP.cond rfl (fun hc7 => ?_) (fun hc7 => ?_)
              · try simp only [decide_eq_true_eq, decide_eq_false_iff_not, Bool.and_eq_true, Bool.or_eq_true, Bool.and_eq_false_iff, Bool.or_eq_false_iff, Bool.not_eq_true', Bool.not_eq_false', ne_eq, Decidable.not_not] at hc7
                exact (hc7 (law.q hip.2)).elim
              · try simp only [decide_eq_true_eq, decide_eq_false_iff_not, Bool.and_eq_true, Bool.or_eq_true, Bool.and_eq_false_iff, Bool.or_eq_false_iff, Bool.not_eq_true', Bool.not_eq_false', ne_eq, Decidable.not_not] at hc7
                refine WP.skip ?_
                refine EX.then ?_
                refine WP.seq ?_
                refine WP.seq ?_
                refine WP.region ?_
                refine WPl.v rfl (o_move rfl) ?_
                refine WPl.v rfl (o_neq rfl rfl) ?_
                refine WPl.nil ?_
                refine EX.then ?_
                refine WP.cond rfl (fun hc8 => ?_) (fun hc8 => ?_)
                · try simp only [decide_eq_true_eq, decide_eq_false_iff_not, Bool.and_eq_true, Bool.or_eq_true, Bool.and_eq_false_iff, Bool.or_eq_false_iff, Bool.not_eq_true', Bool.not_eq_false', ne_eq, Decidable.not_not] at hc8
                  refine WP.seq ?_
                  refine WP.region ?_
                  refine WPl.cs 17 rfl rfl rfl rfl (o_sig 17 id c16 e16 rfl rfl rfl w16 trivial r16) ?_
                  refine WPl.v rfl (o_assign rfl) ?_
                  refine WPl.nil ?_
                  refine EX.then ?_
                  refine WP.ret ?_
                  refine EX.ret_then ?_
                  exact EX.fin id (.inl rfl) rfl (.tmp rfl .nil) rfl r6 trivial (by simp) (by simp)
                · try simp only [decide_eq_true_eq, decide_eq_false_iff_not, Bool.and_eq_true, Bool.or_eq_true, Bool.and_eq_false_iff, Bool.or_eq_false_iff, Bool.not_eq_true', Bool.not_eq_false', ne_eq, Decidable.not_not] at hc8
                  refine WP.skip ?_
                  refine EX.then ?_
                  refine WP.seq ?_
                  refine WP.region ?_
                  refine WPl.v rfl (o_ldpa G31 rfl rfl rfl) ?_
                  refine WPl.v rfl (o_move rfl) ?_
                  refine WPl.cs 17 rfl rfl rfl rfl (o_sig 17 (ren [(0, 0), (1, 1), (2, 2)]) (c51 f plan hpg hrp) e51 rfl rfl rfl w51 ⟨(lx rfl), (lx rfl), (lx rfl), trivial⟩ r51) ?_
                  refine WPl.v rfl (o_assign rfl) ?_
                  refine WPl.nil ?_
                  refine EX.then ?_
                  refine WP.seq ?_
                  refine WP.seq ?_
                  refine WP.region ?_
                  refine WPl.v rfl (o_move rfl) ?_
                  refine WPl.v rfl (o_neq rfl rfl) ?_
                  refine WPl.v rfl (o_move rfl) ?_
                  refine WPl.bit 17 18 (!(decide ((f.leastE costG) ≠ 0))) rfl rfl ?_
                  refine WPl.gv 17 rfl rfl (.plain rfl (by simp) rfl) (fun hb => o_move rfl) ?_
                  refine WPl.gv 17 rfl rfl (.plain rfl (by simp) rfl) (fun hb => o_move rfl) ?_
                  refine WPl.gv 17 rfl rfl (.plain rfl (by simp) rfl) (fun hb => o_lss rfl rfl) ?_
                  refine WPl.v rfl (o_or rfl rfl rfl (by first | (simp; done) | simp_all)) ?_
                  refine WPl.v rfl (o_move rfl) ?_
                  refine WPl.bit 18 19 (!((decide ((f.leastE costG) ≠ 0)) || (decide ((f.shop.cost plan) < f.cheapC)))) rfl rfl ?_
                  refine WPl.gv 18 rfl rfl (.plain rfl (by simp) rfl) (fun hb => o_move rfl) ?_
                  refine WPl.gc0 18 rfl rfl (.plain rfl (by simp) rfl) (fun hb => o_sig 19 (ren [(0, 2)]) (c52 plan f.shop.pigs.length hrp (by omega)) e52 rfl rfl rfl w52 ⟨(lx rfl), trivial⟩ r52) ?_
                  refine WPl.gv 18 rfl rfl (.plain rfl (by simp) rfl) (fun hb => o_move rfl) ?_
                  refine WPl.gv 18 rfl rfl (.plain rfl (by simp) rfl) (fun hb => o_lss rfl rfl) ?_
                  refine WPl.v rfl (o_or rfl rfl rfl (by first | (simp; done) | simp_all)) ?_
                  refine WPl.nil ?_
                  refine EX.then ?_
                  refine WP.cond rfl (fun hc9 => ?_) (fun hc9 => ?_)
                  · try simp only [decide_eq_true_eq, decide_eq_false_iff_not, Bool.and_eq_true, Bool.or_eq_true, Bool.and_eq_false_iff, Bool.or_eq_false_iff, Bool.not_eq_true', Bool.not_eq_false', ne_eq, Decidable.not_not] at hc9
                    have h2 := law.q2 hip.2 hc8
                    have h3 := law.q3 hip.2 hc8
                    omega
                  · try simp only [decide_eq_true_eq, decide_eq_false_iff_not, Bool.and_eq_true, Bool.or_eq_true, Bool.and_eq_false_iff, Bool.or_eq_false_iff, Bool.not_eq_true', Bool.not_eq_false', ne_eq, Decidable.not_not] at hc9
                    refine WP.skip ?_
                    refine EX.then ?_
                    refine WP.seq ?_
                    refine WP.seq ?_
                    refine WP.region ?_
                    refine WPl.v rfl (o_assign rfl) ?_
                    refine WPl.nil ?_
                    refine EX.then ?_
                    refine WP.block ?_
                    refine WP.loop (Gh := Nat) (fun i => ⟨19, [(1, .e (.a (.q 2))), (4, .b (false)), (5, .i (f.cheapC)), (9, .e (.a (.q 4))), (17, .i (f.shop.cost plan)), (18, .i ((i : Int)))], [(2, PL (EP.sl EP.int) (plan)), (4, PL (EP.sl EP.int) (f.wPlanV))], [], [], []⟩) (fun i => i ≤ f.wPlanV.length ∧ allI (fun j => sameInts (nth plan j) (nth f.wPlanV j)) i = true) (fun i => f.wPlanV.length - i) (0) id ?_ (LeR.of ⟨rfl, rfl, rfl, rfl, rfl, rfl, trivial⟩ ⟨(lx rfl), (lx rfl), trivial⟩ trivial rfl rfl rfl rfl rfl) ?_
                    · exact ⟨by omega, rfl⟩
                    intro i hφ
                    have hi : i ≤ f.wPlanV.length := hφ.1
                    have hall := hφ.2
                    refine WP.seq ?_
                    refine WP.seq ?_
                    refine WP.region ?_
                    refine WPl.v rfl (o_move rfl) ?_
                    refine WPl.v rfl (o_move rfl) ?_
                    refine WPl.v rfl (o_lenq L32 rfl (lx rfl)) ?_
                    refine WPl.v rfl (o_lss rfl rfl) ?_
                    refine WPl.v rfl (o_move rfl) ?_
                    refine WPl.bit 19 20 (decide ((i : Int) < (f.wPlanV.length : Int))) rfl rfl ?_
                    refine WPl.gv 19 rfl rfl (.plain rfl Iff.rfl rfl) (fun hb => o_move rfl) ?_
                    refine WPl.gv 19 rfl rfl (.plain rfl Iff.rfl rfl) (fun hb => o_move rfl) ?_
                    refine WPl.gv 19 rfl rfl (.plain rfl Iff.rfl rfl) (fun hb => o_eql rfl rfl) ?_
                    refine WPl.v rfl (o_and rfl rfl rfl id) ?_
                    refine WPl.nil ?_
                    refine EX.then ?_
                    refine WP.cond rfl (fun hc10 => ?_) (fun hc10 => ?_)
                    · try simp only [decide_eq_true_eq, decide_eq_false_iff_not, Bool.and_eq_true, Bool.or_eq_true, Bool.and_eq_false_iff, Bool.or_eq_false_iff, Bool.not_eq_true', Bool.not_eq_false', ne_eq, Decidable.not_not] at hc10
                      refine WP.skip ?_
                      refine EX.then ?_
                      refine WP.seq ?_
                      refine WP.block ?_
                      refine WP.seq ?_
                      refine WP.draw (nf := 24) [⟨[165, 168, 169, 170, 171], [22, 23], [], [], []⟩, ⟨[164, 168, 169, 170, 171], [22, 23], [], [], []⟩, ⟨[168, 169, 170, 171], [22, 23], [20], [20], [0, 1]⟩, ⟨[168, 169, 170, 171], [22, 23], [21], [21], [0, 1, 2]⟩, ⟨[164, 165, 166, 167, 169], [20, 21], [], [], []⟩, ⟨[164, 165, 166, 167, 168], [20, 21], [], [], []⟩, ⟨[164, 165, 166, 167], [20, 21], [22], [22], [4, 5]⟩, ⟨[164, 165, 166, 167], [20, 21], [23], [23], [4, 5, 6]⟩, ⟨[], [], [], [], [0, 1, 2, 3, 4, 5, 6, 7]⟩, ⟨[], [], [], [], [0, 1, 2, 3, 4, 5, 6, 7, 8]⟩] (by kernel_rfl) (by kernel_rfl) ?_
                      have hpe : f.wPlanV.length = plan.length := by have h1 := (Fnd.planB hf hip.2).1; have h2 := (Fnd.planB hf hpp.2).1; omega
                      refine DRQ.v rfl rfl rfl (o_move rfl) ?_
                      refine DRQ.v rfl rfl rfl (o_move rfl) ?_
                      refine DRQ.x 20 rfl rfl rfl rfl (o_idx L32 rfl (lx rfl) rfl (by first | omega | (simp; omega)) (by first | omega | (simp; omega))) ?_
                      refine DRQ.x 21 rfl rfl rfl rfl (o_ldqx S44 rfl (lx rfl) slx) ?_
                      refine DRQ.v rfl rfl rfl (o_move rfl) ?_
                      refine DRQ.v rfl rfl rfl (o_move rfl) ?_
                      refine DRQ.x 22 rfl rfl rfl rfl (o_idx L32 rfl (lx rfl) rfl (by first | omega | (simp; omega)) (by first | omega | (simp; omega))) ?_
                      refine DRQ.x 23 rfl rfl rfl rfl (o_ldqx S44 rfl (lx rfl) slx) ?_
                      refine DRQ.cs rfl rfl rfl rfl (o_sig 24 (ren [(0, 21), (1, 23)]) (c27 (nth plan (i : Int)) (nth f.wPlanV (i : Int)) (by have := (hrp.2 i (by omega)).1; omega)) e27 rfl rfl rfl w27 ⟨(lx rfl), (lx rfl), trivial⟩ r27) ?_
                      refine DRQ.v rfl rfl rfl (o_not rfl) ?_
                      refine DRQ.nil' ?_
                      refine EX.then ?_
                      refine WP.cond rfl (fun hc11 => ?_) (fun hc11 => ?_)
                      · try simp only [decide_eq_true_eq, decide_eq_false_iff_not, Bool.and_eq_true, Bool.or_eq_true, Bool.and_eq_false_iff, Bool.or_eq_false_iff, Bool.not_eq_true', Bool.not_eq_false', ne_eq, Decidable.not_not] at hc11
                        refine WP.seq ?_
                        refine WP.imp (Imp.bit 24 25 (!(earlier (nth plan (i : Int)) (nth f.wPlanV (i : Int)))) rfl rfl) ?_
                        refine WP.draw (nf := 29) [⟨[175, 178, 179, 180, 181], [27, 28], [], [], []⟩, ⟨[174, 178, 179, 180, 181], [27, 28], [], [], []⟩, ⟨[178, 179, 180, 181], [27, 28], [25], [25], [0, 1]⟩, ⟨[178, 179, 180, 181], [27, 28], [26], [26], [0, 1, 2]⟩, ⟨[174, 175, 176, 177, 179], [25, 26], [], [], []⟩, ⟨[174, 175, 176, 177, 178], [25, 26], [], [], []⟩, ⟨[174, 175, 176, 177], [25, 26], [27], [27], [4, 5]⟩, ⟨[174, 175, 176, 177], [25, 26], [28], [28], [4, 5, 6]⟩, ⟨[], [], [], [], [0, 1, 2, 3, 4, 5, 6, 7]⟩, ⟨[], [], [], [], [0, 1, 2, 3, 4, 5, 6, 7, 8]⟩, ⟨[], [], [], [], [0, 1, 2, 3, 4, 5, 6, 7, 8, 9]⟩, ⟨[], [], [], [], [0, 1, 2, 3, 4, 5, 6, 7, 8, 9, 10]⟩, ⟨[], [], [], [], [0, 1, 2, 3, 4, 5, 6, 7, 8, 9, 10, 11]⟩, ⟨[], [], [], [], [0, 1, 2, 3, 4, 5, 6, 7, 8, 9, 10, 11, 12]⟩] (by kernel_rfl) (by kernel_rfl) ?_
                        refine DRQ.v rfl rfl rfl (o_move rfl) ?_
                        refine DRQ.v rfl rfl rfl (o_move rfl) ?_
                        refine DRQ.x 25 rfl rfl rfl rfl (o_idx L32 rfl (lx rfl) rfl (by first | omega | (simp; omega)) (by first | omega | (simp; omega))) ?_
                        refine DRQ.x 26 rfl rfl rfl rfl (o_ldqx S44 rfl (lx rfl) slx) ?_
                        refine DRQ.v rfl rfl rfl (o_move rfl) ?_
                        refine DRQ.v rfl rfl rfl (o_move rfl) ?_
                        refine DRQ.x 27 rfl rfl rfl rfl (o_idx L32 rfl (lx rfl) rfl (by first | omega | (simp; omega)) (by first | omega | (simp; omega))) ?_
                        refine DRQ.x 28 rfl rfl rfl rfl (o_ldqx S44 rfl (lx rfl) slx) ?_
                        refine DRQ.cs rfl rfl rfl rfl (o_sig 29 (ren [(0, 26), (1, 28)]) (c53 (nth plan (i : Int)) (nth f.wPlanV (i : Int)) (by have := (hrp.2 i (by omega)).1; omega)) e53 rfl rfl rfl w53 ⟨(lx rfl), (lx rfl), trivial⟩ r53) ?_
                        refine DRQ.v rfl rfl rfl (o_not rfl) ?_
                        refine DRQ.v rfl rfl rfl (o_move rfl) ?_
                        refine DRQ.gv 24 rfl rfl (.plain rfl Iff.rfl rfl) rfl (fun hb => o_sig 29 id c16 e16 rfl rfl rfl w16 trivial r16) ?_
                        refine DRQ.v rfl rfl rfl (o_and rfl rfl rfl id) ?_
                        refine DRQ.v rfl rfl rfl (o_assign rfl) ?_
                        refine DRQ.nil' ?_
                        refine EX.then ?_
                        refine WP.ret ?_
                        refine EX.ret_blk ?_
                        refine EX.ret_then ?_
                        refine EX.ret_then ?_
                        refine EX.ret_blk ?_
                        refine EX.ret_then ?_
                        rw [law.q4 hip.2 hc8 hc10.2 i (by omega) hall hc11]
                        exact EX.fin id (.inl rfl) rfl (.tmp rfl .nil) rfl (by simp [SV.res, El.res, At.res, keys]) trivial (by simp) (by simp)
                      · try simp only [decide_eq_true_eq, decide_eq_false_iff_not, Bool.and_eq_true, Bool.or_eq_true, Bool.and_eq_false_iff, Bool.or_eq_false_iff, Bool.not_eq_true', Bool.not_eq_false', ne_eq, Decidable.not_not] at hc11
                        refine WP.skip ?_
                        refine EX.blk ?_
                        refine EX.then ?_
                        refine WP.region ?_
                        refine WPl.v rfl (o_move rfl) ?_
                        refine WPl.v rfl (o_add rfl rfl (by first | omega | (simp; omega)) (by first | omega | (simp; omega))) ?_
                        refine WPl.v rfl (o_assign rfl) ?_
                        refine WPl.nil ?_
                        refine EX.again (i + 1) id (by exact ⟨by omega, by simp only [allI, hall, Bool.true_and]; exact hc11⟩) (by omega) (LeR.of ⟨rfl, rfl, rfl, rfl, rfl, rfl, trivial⟩ ⟨(lx rfl), (lx rfl), trivial⟩ trivial rfl rfl rfl rfl rfl)
                    · try simp only [decide_eq_true_eq, decide_eq_false_iff_not, Bool.and_eq_true, Bool.or_eq_true, Bool.and_eq_false_iff, Bool.or_eq_false_iff, Bool.not_eq_true', Bool.not_eq_false', ne_eq, Decidable.not_not] at hc10
                      refine WP.exit ?_
                      refine EX.exit_then ?_
                      refine EX.exit_then ?_
                      refine EX.exit_blk ?_
                      refine EX.then ?_
                      refine WP.seq ?_
                      refine WP.region ?_
                      refine WPl.cs 20 rfl rfl rfl rfl (o_sig 20 id c16 e16 rfl rfl rfl w16 trivial r16) ?_
                      refine WPl.v rfl (o_assign rfl) ?_
                      refine WPl.nil ?_
                      refine EX.then ?_
                      refine WP.ret ?_
                      exact EX.fin id (.inl rfl) rfl (.tmp rfl .nil) rfl r6 trivial (by simp) (by simp)
      · try simp only [decide_eq_true_eq, decide_eq_false_iff_not, Bool.and_eq_true, Bool.or_eq_true, Bool.and_eq_false_iff, Bool.or_eq_false_iff, Bool.not_eq_true', Bool.not_eq_false', ne_eq, Decidable.not_not] at hc3
        refine WP.skip ?_
        refine EX.then ?_
        refine WP.seq ?_
        refine WP.seq ?_
        refine WP.region ?_
        refine WPl.v rfl (o_ldpa G31 rfl rfl rfl) ?_
        refine WPl.v rfl (o_move rfl) ?_
        refine WPl.cs 11 rfl rfl rfl rfl (o_sig 11 (ren [(0, 0), (1, 1), (2, 2)]) (c33 f plan hf) e33 rfl rfl rfl w33 ⟨(lx rfl), (lx rfl), (lx rfl), trivial⟩ r33) ?_
        refine WPl.v rfl (o_not rfl) ?_
        refine WPl.nil ?_
        refine EX.then ?_
        refine WP.cond rfl (fun hc12 => ?_) (fun hc12 => ?_)
        · try simp only [decide_eq_true_eq, decide_eq_false_iff_not, Bool.and_eq_true, Bool.or_eq_true, Bool.and_eq_false_iff, Bool.or_eq_false_iff, Bool.not_eq_true', Bool.not_eq_false', ne_eq, Decidable.not_not] at hc12
          refine WP.seq ?_
          refine WP.region ?_
          refine WPl.cs 11 rfl rfl rfl rfl (o_sig 11 id c16 e16 rfl rfl rfl w16 trivial r16) ?_
          refine WPl.v rfl (o_assign rfl) ?_
          refine WPl.nil ?_
          refine EX.then ?_
          refine WP.ret ?_
          refine EX.ret_then ?_
          exact EX.fin id (.inl rfl) rfl (.tmp rfl .nil) rfl r6 trivial (by simp) (by simp)
        · try simp only [decide_eq_true_eq, decide_eq_false_iff_not, Bool.and_eq_true, Bool.or_eq_true, Bool.and_eq_false_iff, Bool.or_eq_false_iff, Bool.not_eq_true', Bool.not_eq_false', ne_eq, Decidable.not_not] at hc12
          have hip := isPlanL_parts hc12
          have hll := longP_len hip.1
          have hrp := planRows hf hip.2
          refine WP.skip ?_
          refine EX.then ?_
          refine WP.seq ?_
          refine WP.draw (nf := 12) [⟨[127, 128], [11], [], [], []⟩, ⟨[126], [], [], [], []⟩, ⟨[126], [], [11], [11], [1]⟩, ⟨[], [], [], [], [0, 1, 2]⟩, ⟨[], [], [], [], [0, 1, 2, 3]⟩, ⟨[131], [], [], [], [0, 1, 2, 3, 4]⟩, ⟨[130, 15], [], [], [], [0, 1, 2, 3, 4]⟩, ⟨[131], [], [], [], [0, 1, 2, 3, 4, 5]⟩, ⟨[], [], [], [], [0, 1, 2, 3, 4, 5, 6, 7]⟩] (by kernel_rfl) (by kernel_rfl) ?_
          refine DRQ.v rfl rfl rfl (o_ldpa G31 rfl rfl rfl) ?_
          refine DRQ.v rfl rfl rfl (o_move rfl) ?_
          refine DRQ.cs rfl rfl rfl rfl (o_sig 11 (ren [(0, 2)]) (c18 plan hll.1 hll.2) e18 rfl rfl rfl w18 ⟨(lx rfl), trivial⟩ r18) ?_
          refine DRQ.cs rfl rfl rfl rfl (o_sig 12 (ren [(0, 0), (1, 1), (2, 11)]) (c23 f plan (by omega)) e23 rfl rfl rfl w23 ⟨(lx rfl), (lx rfl), (lx rfl), trivial⟩ r23) ?_
          refine DRQ.v rfl rfl rfl (o_move rfl) ?_
          refine DRQ.v rfl rfl rfl (o_extract rfl rfl) ?_
          refine DRQ.v rfl rfl rfl (o_extract rfl rfl) ?_
          refine DRQ.v rfl rfl rfl (o_assign rfl) ?_
          refine DRQ.v rfl rfl rfl (o_assign rfl) ?_
          refine DRQ.nil' ?_
          refine EX.then ?_
          refine WP.seq ?_
          refine WP.seq ?_
          refine WP.region ?_
          refine WPl.v rfl (o_move rfl) ?_
          refine WPl.v rfl (o_neq rfl rfl) ?_
          refine WPl.nil ?_
          refine EX.then ?_
          refine WP.cond rfl (fun hc13 => ?_) (fun hc13 => ?_)
          · try simp only [decide_eq_true_eq, decide_eq_false_iff_not, Bool.and_eq_true, Bool.or_eq_true, Bool.and_eq_false_iff, Bool.or_eq_false_iff, Bool.not_eq_true', Bool.not_eq_false', ne_eq, Decidable.not_not] at hc13
            exact (hc13 (law.q hip.2)).elim
          · try simp only [decide_eq_true_eq, decide_eq_false_iff_not, Bool.and_eq_true, Bool.or_eq_true, Bool.and_eq_false_iff, Bool.or_eq_false_iff, Bool.not_eq_true', Bool.not_eq_false', ne_eq, Decidable.not_not] at hc13
            refine WP.skip ?_
            refine EX.then ?_
            refine WP.seq ?_
            refine WP.seq ?_
            refine WP.region ?_
            refine WPl.v rfl (o_move rfl) ?_
            refine WPl.v rfl (o_neq rfl rfl) ?_
            refine WPl.nil ?_
            refine EX.then ?_
            refine WP.cond rfl (fun hc14 => ?_) (fun hc14 => ?_)
            · try simp only [decide_eq_true_eq, decide_eq_false_iff_not, Bool.and_eq_true, Bool.or_eq_true, Bool.and_eq_false_iff, Bool.or_eq_false_iff, Bool.not_eq_true', Bool.not_eq_false', ne_eq, Decidable.not_not] at hc14
              refine WP.seq ?_
              refine WP.region ?_
              refine WPl.cs 12 rfl rfl rfl rfl (o_sig 12 id c16 e16 rfl rfl rfl w16 trivial r16) ?_
              refine WPl.v rfl (o_assign rfl) ?_
              refine WPl.nil ?_
              refine EX.then ?_
              refine WP.ret ?_
              refine EX.ret_then ?_
              exact EX.fin id (.inl rfl) rfl (.tmp rfl .nil) rfl r6 trivial (by simp) (by simp)
            · try simp only [decide_eq_true_eq, decide_eq_false_iff_not, Bool.and_eq_true, Bool.or_eq_true, Bool.and_eq_false_iff, Bool.or_eq_false_iff, Bool.not_eq_true', Bool.not_eq_false', ne_eq, Decidable.not_not] at hc14
              exact (hc3 (law.q1 hip.2 hc14)).elim
end Go.Flong
