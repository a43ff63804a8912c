/- Walks (printed by gen.py off the specs). -/
import Derived.Test.YtglbnodjcngefaaHP1
import Derived.Test.YtglbnodjcngefaaEngV
import Derived.Test.YtglbnodjcngefaaBase4
import Derived.Test.YtglbnodjcngefaaProg
set_option linter.unusedSimpArgs false
set_option linter.unusedVariables false
namespace Go.Flong
open Go Go.Eng Go.Proofs
theorem Z4 : Zero Try.prog 4 [.v (.bool (false))] := .mk Try.zeroValue4 rfl rfl
theorem S4 : TyS Try.prog 4 := ⟨Try.isAgg4, Try.sizeOf4⟩
theorem e80 : Enters' Try.prog 80 := Try.call80
theorem e127 : Enters' Try.prog 127 := Try.call127
theorem Z44 : Zero Try.prog 44 [.v (.slice none 0 0)] := .mk Try.zeroValue44 rfl rfl
theorem e135 : Enters' Try.prog 135 := Try.call135
theorem G185 : TyG Try.prog 185 12 := ⟨Try.isAgg185, Try.sizeOf185⟩
theorem Q3 : FlatT Try.prog 3 1 1 false := .int Try.underlying3 S3
theorem Q23 : FlatT Try.prog 23 2 2 true := .struct Try.underlying23 Try.stoodInHeld23 G23 ⟨by decide, rfl, 1, false, Q3, ⟨by decide, rfl, 1, false, Q3, rfl⟩⟩
theorem Q105 : FlatT Try.prog 105 7 3 true := .struct Try.underlying105 Try.stoodInHeld105 G105 ⟨by decide, rfl, 1, false, Q3.up, ⟨by decide, rfl, 2, true, Q23, ⟨by decide, rfl, 2, true, Q23, ⟨by decide, rfl, 2, true, Q23, rfl⟩⟩⟩⟩
theorem Q110 : FlatT Try.prog 110 4 2 true := .array Try.underlying110 G110 Q3
theorem Q185 : FlatT Try.prog 185 12 4 true := .struct Try.underlying185 Try.stoodInHeld185 G185 ⟨by decide, rfl, 1, false, Q3.up.up, ⟨by decide, rfl, 7, true, Q105, ⟨by decide, rfl, 4, true, Q110.up, rfl⟩⟩⟩
theorem M98 : MapT Try.prog 98 12 4 true := .struct Try.underlying98 (by simp only [Try.underlying185]) Q185 rfl Try.zeroValue3
theorem B100 : BldT Try.prog 100 [(0, 12), (12, 1)] [.int .i64 0, .int .i64 0, .int .i64 0, .int .i64 0, .int .i64 0, .int .i64 0, .int .i64 0, .int .i64 0, .int .i64 0, .int .i64 0, .slice none 0 0, .slice none 0 0, .map none] := BldT.mk (ns := [12, 1]) Try.underlying100 ⟨Try.sizeOf31, Try.sizeOf98, trivial⟩ rfl Try.zeroValue100 rfl
theorem e21 : Enters' Try.prog 21 := Try.call21
abbrev IsP (f : Fnd) (v : Bool) : Pred := Pred.all fun (r : Option Nat) => FvP Try.prog [.e (.a (.q 0))] [(0, PP (EWk r) (f))] (.b (v)) []
theorem e78 : Enters' Try.prog 78 := Try.call78
theorem e136 : Enters' Try.prog 136 := Try.call136
theorem e90 : Enters' Try.prog 90 := Try.call90
theorem w78 {f : Fnd} {r : Option Nat} {plan : List (List Int)} : ∀ x ∈ ([.e (.a (.q 0)), .e (.a (.q 1))] : List SV), x.res (keys (α := Pred) [(0, PP (EWk r) (f)), (1, PL (EP.sl EP.int) (plan))]) := by simp [SV.res, El.res, At.res, keys]
theorem r78 {f : Fnd} {plan : List (List Int)} : SV.res (keys (α := Pred) []) (.b (f.wPlan plan)) := by simp [SV.res, El.res, At.res, keys]
set_option maxHeartbeats 4000000 in
theorem c78 (f : Fnd) (r : Option Nat) (plan : List (List Int)) (hf : f.chk = true) : Sig Try.prog 78 [.e (.a (.q 0)), .e (.a (.q 1))] [(0, PP (EWk r) (f)), (1, PL (EP.sl EP.int) (plan))] (.b (f.wPlan plan)) [] := by
  have hcb := Fnd.chkB hf
  have hpg := Shop.pigsOK (Fnd.shopOK hf)
  have hp4 := hpg.2
  refine Sig.intro Try.func78 rfl 2 [(0, .e (.a (.q 0))), (1, .e (.a (.q 1)))] rfl w78 rfl rfl fun I w => ?_
  refine WP.seq ?_
  refine WP.region ?_
  refine WPl.l 2 3 rfl rfl rfl (o_boxa rfl (.inl ⟨_, (lx rfl), PP.one⟩)) ?_
  refine WPl.l 3 4 rfl rfl rfl (o_alloc Z4) ?_
  refine WPl.nil ?_
  refine EX.then ?_
  refine WP.seq ?_
  refine WP.seq ?_
  refine WP.region ?_
  refine WPl.v rfl (o_move rfl) ?_
  refine WPl.v rfl (o_lenq L32 rfl (lx rfl)) ?_
  refine WPl.v rfl (o_ldp S95 rfl rfl rfl) ?_
  refine WPl.v rfl (o_nilq rfl (lx rfl)) ?_
  refine WPl.v rfl (o_fldq F100_0 rfl (lx rfl)) ?_
  refine WPl.v rfl (o_flde F31_1 rfl (lx rfl)) ?_
  refine WPl.x 4 5 rfl rfl rfl (o_ldex S29 rfl (lx rfl) (strS rfl)) ?_
  refine WPl.v rfl (o_lenq L29 rfl (lx rfl)) ?_
  refine WPl.v rfl (o_neq rfl rfl) ?_
  refine WPl.nil ?_
  refine EX.then ?_
  refine WP.cond rfl (fun hc1 => ?_) (fun hc1 => ?_)
  · try simp only [decide_eq_true_eq, decide_eq_false_iff_not, Bool.and_eq_true, Bool.or_eq_true, Bool.and_eq_false_iff, Bool.or_eq_false_iff, Bool.not_eq_true', Bool.not_eq_false', ne_eq, Decidable.not_not] at hc1
    refine WP.seq ?_
    refine WP.region ?_
    refine WPl.s1 (o_sta S4 rfl rfl rfl rfl rfl) ?_
    refine WPl.nil ?_
    refine EX.then ?_
    refine WP.ret ?_
    refine EX.ret_then ?_
    rw [show f.wPlan plan = false from by simp [Fnd.wPlan]; omega]
    exact EX.fin id (.inl rfl) rfl (.cell1 S4 rfl rfl (.nil)) rfl (by simp [SV.res, El.res, At.res, keys]) trivial (by simp) (by simp)
  · try simp only [decide_eq_true_eq, decide_eq_false_iff_not, Bool.and_eq_true, Bool.or_eq_true, Bool.and_eq_false_iff, Bool.or_eq_false_iff, Bool.not_eq_true', Bool.not_eq_false', ne_eq, Decidable.not_not] at hc1
    refine WP.skip ?_
    refine EX.then ?_
    refine WP.seq ?_
    refine WP.region ?_
    refine WPl.v rfl (o_ldp S95 rfl rfl rfl) ?_
    refine WPl.cs 5 rfl rfl rfl rfl (o_sig 5 (ren [(0, 0)]) (c88 f r (by omega)) e88 rfl rfl rfl w88 ⟨(lx rfl), trivial⟩ r88) ?_
    refine WPl.v rfl (o_move rfl) ?_
    refine WPl.v rfl (o_extract rfl rfl) ?_
    refine WPl.v rfl (o_extract rfl rfl) ?_
    refine WPl.l 5 6 rfl rfl rfl (o_alloc Z105) ?_
    refine WPl.l 6 7 rfl rfl rfl (o_alloc Z110) ?_
    refine WPl.s1 (o_stag G105 rfl rfl rfl ⟨rfl, rfl, rfl, rfl, rfl, rfl, rfl, trivial⟩ rfl rfl) ?_
    refine WPl.s1 (o_stag G110 rfl rfl rfl ⟨rfl, rfl, rfl, rfl, trivial⟩ rfl rfl) ?_
    refine WPl.nil ?_
    refine EX.then ?_
    refine WP.seq ?_
    refine WP.seq ?_
    refine WP.region ?_
    refine WPl.v rfl (o_move rfl) ?_
    refine WPl.v rfl (o_lenq L32 rfl (lx rfl)) ?_
    refine WPl.v rfl (o_move rfl) ?_
    refine WPl.nil ?_
    refine EX.then ?_
    refine WP.block ?_
    refine WP.loop (Gh := Nat) (fun i => ⟨7, [(1, .e (.a (.q 1))), (2, .e (.a (.p 2 (0)))), (4, .e (.a (.p 3 (0)))), (6, .e (.a (.p 6 (0)))), (27, .e (.a (.q 1))), (28, .i ((plan.length : Int))), (29, .i ((i : Int)))], [(0, PP (EWk r) (f)), (1, PL (EP.sl EP.int) (plan))], [(2, .blk [.q 0] 95), (3, .blk [.v (.bool (false))] 4), (6, .blk [ai (nth (leftAt f.shop.pigs plan i) 0), ai (nth (leftAt f.shop.pigs plan i) 1), ai (nth (leftAt f.shop.pigs plan i) 2), ai (nth (leftAt f.shop.pigs plan i) 3)] 110)], [], []⟩) (fun i => i ≤ plan.length ∧ allI (f.rowW plan) i = true) (fun i => plan.length - i) (0) id ?_ (LeR.of ⟨rfl, rfl, rfl, rfl, rfl, rfl, rfl, trivial⟩ ⟨(lx rfl), (lx rfl), trivial⟩ ⟨rfl, rfl, rfl, trivial⟩ rfl rfl rfl rfl rfl) ?_
    · exact ⟨by omega, rfl⟩
    intro i hφ
    have hi : i ≤ plan.length := hφ.1
    have hrows : allI (f.rowW plan) i = true := hφ.2
    refine WP.seq ?_
    refine WP.region ?_
    refine WPl.v rfl (o_lss rfl rfl) ?_
    refine WPl.nil ?_
    refine EX.then ?_
    refine WP.seq ?_
    refine WP.cond rfl (fun hc2 => ?_) (fun hc2 => ?_)
    · try simp only [decide_eq_true_eq, decide_eq_false_iff_not, Bool.and_eq_true, Bool.or_eq_true, Bool.and_eq_false_iff, Bool.or_eq_false_iff, Bool.not_eq_true', Bool.not_eq_false', ne_eq, Decidable.not_not] at hc2
      refine WP.skip ?_
      refine EX.then ?_
      refine WP.seq ?_
      refine WP.block ?_
      refine WP.seq ?_
      refine WP.region ?_
      refine WPl.x 7 8 rfl rfl rfl (o_idx L32 rfl (lx rfl) rfl (by first | omega | (simp; omega)) (by first | omega | (simp; omega))) ?_
      refine WPl.x 8 9 rfl rfl rfl (o_ldqx S44 rfl (lx rfl) slx) ?_
      refine WPl.v rfl (o_assign rfl) ?_
      refine WPl.nil ?_
      refine EX.then ?_
      refine WP.seq ?_
      refine WP.seq ?_
      refine WP.region ?_
      refine WPl.v rfl (o_move rfl) ?_
      refine WPl.v rfl (o_lenq L44 rfl (lx rfl)) ?_
      refine WPl.v rfl (o_ldp S95 rfl rfl rfl) ?_
      refine WPl.v rfl (o_nilq rfl (lx rfl)) ?_
      refine WPl.v rfl (o_fldq F100_0 rfl (lx rfl)) ?_
      refine WPl.v rfl (o_flde F31_0 rfl (lx rfl)) ?_
      refine WPl.v rfl (o_flde F28_4 rfl (lx rfl)) ?_
      refine WPl.x 9 10 rfl rfl rfl (o_ldex S26 rfl (lx rfl) (strS rfl)) ?_
      refine WPl.v rfl (o_lenq L26 rfl (lx rfl)) ?_
      refine WPl.v rfl (o_neq rfl rfl) ?_
      refine WPl.nil ?_
      refine EX.then ?_
      refine WP.cond rfl (fun hc3 => ?_) (fun hc3 => ?_)
      · try simp only [decide_eq_true_eq, decide_eq_false_iff_not, Bool.and_eq_true, Bool.or_eq_true, Bool.and_eq_false_iff, Bool.or_eq_false_iff, Bool.not_eq_true', Bool.not_eq_false', ne_eq, Decidable.not_not] at hc3
        refine WP.seq ?_
        refine WP.region ?_
        refine WPl.s1 (o_sta S4 rfl rfl rfl rfl rfl) ?_
        refine WPl.nil ?_
        refine EX.then ?_
        refine WP.ret ?_
        refine EX.ret_then ?_
        refine EX.ret_blk ?_
        refine EX.ret_then ?_
        refine EX.ret_then ?_
        refine EX.ret_blk ?_
        refine EX.ret_then ?_
        rw [show f.wPlan plan = false from by simp only [Fnd.wPlan, Bool.and_eq_false_iff]; exact .inl (.inr (not_allI (show i < _ by omega) (by simp only [Fnd.rowW, Bool.and_eq_false_iff, decide_eq_false_iff_not]; exact .inl (by omega))))]
        exact EX.fin id (.inl rfl) rfl (.cell1 S4 rfl rfl (.nil)) rfl (by simp [SV.res, El.res, At.res, keys]) trivial (by simp) (by simp)
      · try simp only [decide_eq_true_eq, decide_eq_false_iff_not, Bool.and_eq_true, Bool.or_eq_true, Bool.and_eq_false_iff, Bool.or_eq_false_iff, Bool.not_eq_true', Bool.not_eq_false', ne_eq, Decidable.not_not] at hc3
        refine WP.skip ?_
        refine EX.then ?_
        refine WP.seq ?_
        refine WP.region ?_
        refine WPl.v rfl (o_move rfl) ?_
        refine WPl.v rfl (o_lenq L44 rfl (lx rfl)) ?_
        refine WPl.v rfl (o_move rfl) ?_
        refine WPl.nil ?_
        refine EX.then ?_
        refine WP.block ?_
        refine WP.loop (Gh := Nat) (fun j => ⟨10, [(1, .e (.a (.q 1))), (2, .e (.a (.p 2 (0)))), (4, .e (.a (.p 3 (0)))), (6, .e (.a (.p 6 (0)))), (27, .e (.a (.q 1))), (28, .i ((plan.length : Int))), (29, .i ((i : Int))), (30, .b (decide ((i : Int) < (plan.length : Int)))), (31, .e (.a (.q 7))), (32, .e (.a (.q 8))), (8, .e (.a (.q 8))), (33, .e (.a (.q 8))), (34, .i (((nth plan (i : Int)).length : Int))), (35, .e (.a (.q 0))), (36, .e (.a (.q 0))), (37, .e (.a (.e 0 (0)))), (38, .e (.a (.e 0 (0)))), (39, .e (.a (.e 0 (10)))), (40, .e (.a (.q 9))), (41, .i ((f.shop.pigs.length : Int))), (42, .b (decide (((nth plan (i : Int)).length : Int) ≠ (f.shop.pigs.length : Int)))), (43, .e (.a (.q 8))), (44, .i (((nth plan (i : Int)).length : Int))), (45, .i ((j : Int)))], [(0, PP (EWk r) (f)), (1, PL (EP.sl EP.int) (plan)), (7, PP (EP.sl EP.int) (nth plan (i : Int))), (8, PL EP.int (nth plan (i : Int))), (9, PL EPig (f.shop.pigs))], [(2, .blk [.q 0] 95), (3, .blk [.v (.bool (false))] 4), (6, .blk [ai (nth (takeTo (leftAt f.shop.pigs plan i) (nth plan i) j) 0), ai (nth (takeTo (leftAt f.shop.pigs plan i) (nth plan i) j) 1), ai (nth (takeTo (leftAt f.shop.pigs plan i) (nth plan i) j) 2), ai (nth (takeTo (leftAt f.shop.pigs plan i) (nth plan i) j) 3)] 110)], [], []⟩) (fun j => j ≤ (nth plan i).length ∧ allI (rowFits (leftAt f.shop.pigs plan i) (nth plan i)) j = true) (fun j => (nth plan i).length - j) (0) id ?_ (LeR.of ⟨rfl, rfl, rfl, rfl, rfl, rfl, rfl, rfl, rfl, rfl, rfl, rfl, rfl, rfl, rfl, rfl, rfl, rfl, rfl, rfl, rfl, rfl, rfl, rfl, trivial⟩ ⟨(lx rfl), (lx rfl), (lx rfl), (lx rfl), (lx rfl), trivial⟩ ⟨rfl, rfl, rfl, trivial⟩ rfl rfl rfl rfl rfl) ?_
        · exact ⟨by omega, rfl⟩
        intro j hφ
        have hj : j ≤ (nth plan i).length := hφ.1
        have hfit : allI (rowFits (leftAt f.shop.pigs plan i) (nth plan i)) j = true := hφ.2
        have hlb := leftAt_bnd (f := f) hpg i hrows
        have hlj := takeTo_bnd hlb j (by omega) hfit
        refine WP.seq ?_
        refine WP.region ?_
        refine WPl.v rfl (o_lss rfl rfl) ?_
        refine WPl.nil ?_
        refine EX.then ?_
        refine WP.seq ?_
        refine WP.cond rfl (fun hc4 => ?_) (fun hc4 => ?_)
        · try simp only [decide_eq_true_eq, decide_eq_false_iff_not, Bool.and_eq_true, Bool.or_eq_true, Bool.and_eq_false_iff, Bool.or_eq_false_iff, Bool.not_eq_true', Bool.not_eq_false', ne_eq, Decidable.not_not] at hc4
          refine WP.skip ?_
          refine EX.then ?_
          refine WP.seq ?_
          refine WP.block ?_
          refine WP.seq ?_
          refine WP.region ?_
          refine WPl.v rfl (o_move rfl) ?_
          refine WPl.x 10 11 rfl rfl rfl (o_idx L44 rfl (lx rfl) rfl (by first | omega | (simp; omega)) (by first | omega | (simp; omega))) ?_
          have hj4 := hlj.2 j (by omega)
          refine WPl.v rfl (o_ldq S3 rfl (lx rfl) intc) ?_
          refine WPl.v rfl (o_assign rfl) ?_
          refine WPl.v rfl (o_assign rfl) ?_
          refine WPl.nil ?_
          refine EX.then ?_
          refine WP.seq ?_
          refine WP.seq ?_
          refine WP.region ?_
          refine WPl.v rfl (o_move rfl) ?_
          refine WPl.v rfl (o_move rfl) ?_
          refine WPl.v rfl (o_idxp A110 rfl rfl (by first | omega | (simp; omega)) (by first | omega | (simp; omega))) ?_
          refine WPl.v rfl (o_ldpn (n := 4) (l := takeTo (leftAt f.shop.pigs plan i) (nth plan i) j) S3 rfl rfl rfl (by first | omega | (simp; omega)) (by first | omega | (simp; omega))) ?_
          refine WPl.cs 11 rfl rfl rfl rfl (o_sig 11 id (c79 (nth (nth plan (i : Int)) (j : Int)) 0 (nth (takeTo (leftAt f.shop.pigs plan i) (nth plan i) j) (j : Int))) e79 rfl rfl rfl w79 trivial r79) ?_
          refine WPl.v rfl (o_not rfl) ?_
          refine WPl.nil ?_
          refine EX.then ?_
          refine WP.cond rfl (fun hc5 => ?_) (fun hc5 => ?_)
          · try simp only [decide_eq_true_eq, decide_eq_false_iff_not, Bool.and_eq_true, Bool.or_eq_true, Bool.and_eq_false_iff, Bool.or_eq_false_iff, Bool.not_eq_true', Bool.not_eq_false', ne_eq, Decidable.not_not] at hc5
            refine WP.seq ?_
            refine WP.region ?_
            refine WPl.s1 (o_sta S4 rfl rfl rfl rfl rfl) ?_
            refine WPl.nil ?_
            refine EX.then ?_
            refine WP.ret ?_
            refine EX.ret_then ?_
            refine EX.ret_blk ?_
            refine EX.ret_then ?_
            refine EX.ret_then ?_
            refine EX.ret_blk ?_
            refine EX.ret_blk ?_
            refine EX.ret_then ?_
            refine EX.ret_then ?_
            refine EX.ret_blk ?_
            refine EX.ret_then ?_
            rw [show f.wPlan plan = false from by simp only [Fnd.wPlan, Bool.and_eq_false_iff]; exact .inl (.inr (not_allI (show i < _ by omega) (by simp only [Fnd.rowW, Bool.and_eq_false_iff]; exact .inr (not_allI (show j < _ by omega) (by simpa [rowFits] using hc5)))))]
            exact EX.fin id (.inl rfl) rfl (.cell1 S4 rfl rfl (.nil)) rfl (by simp [SV.res, El.res, At.res, keys]) trivial (by simp) (by simp)
          · try simp only [decide_eq_true_eq, decide_eq_false_iff_not, Bool.and_eq_true, Bool.or_eq_true, Bool.and_eq_false_iff, Bool.or_eq_false_iff, Bool.not_eq_true', Bool.not_eq_false', ne_eq, Decidable.not_not] at hc5
            refine WP.skip ?_
            refine EX.then ?_
            refine WP.region ?_
            refine WPl.v rfl (o_move rfl) ?_
            refine WPl.v rfl (o_idxp A110 rfl rfl (by first | omega | (simp; omega)) (by first | omega | (simp; omega))) ?_
            refine WPl.v rfl (o_ldpn (n := 4) (l := takeTo (leftAt f.shop.pigs plan i) (nth plan i) j) S3 rfl rfl rfl (by first | omega | (simp; omega)) (by first | omega | (simp; omega))) ?_
            refine WPl.v rfl (o_move rfl) ?_
            have hw5 := hc5
            simp only [within, Bool.and_eq_true, decide_eq_true_eq] at hw5
            refine WPl.v rfl (o_sub rfl rfl (by first | omega | (simp; omega)) (by first | omega | (simp; omega))) ?_
            refine WPl.v rfl (o_idxp A110 rfl rfl (by first | omega | (simp; omega)) (by first | omega | (simp; omega))) ?_
            refine WPl.s1 (o_stpn (n := 4) (l := takeTo (leftAt f.shop.pigs plan i) (nth plan i) j) (cs' := [ai (nth (lset (takeTo (leftAt f.shop.pigs plan i) (nth plan i) j) (j : Int) ((nth (takeTo (leftAt f.shop.pigs plan i) (nth plan i) j) (j : Int)) - (nth (nth plan (i : Int)) (j : Int)))) 0), ai (nth (lset (takeTo (leftAt f.shop.pigs plan i) (nth plan i) j) (j : Int) ((nth (takeTo (leftAt f.shop.pigs plan i) (nth plan i) j) (j : Int)) - (nth (nth plan (i : Int)) (j : Int)))) 1), ai (nth (lset (takeTo (leftAt f.shop.pigs plan i) (nth plan i) j) (j : Int) ((nth (takeTo (leftAt f.shop.pigs plan i) (nth plan i) j) (j : Int)) - (nth (nth plan (i : Int)) (j : Int)))) 2), ai (nth (lset (takeTo (leftAt f.shop.pigs plan i) (nth plan i) j) (j : Int) ((nth (takeTo (leftAt f.shop.pigs plan i) (nth plan i) j) (j : Int)) - (nth (nth plan (i : Int)) (j : Int)))) 3)]) S3 rfl rfl rfl rfl rfl (by first | exact leftAt_len _ _ _ | (rw [takeTo_len]; exact leftAt_len _ _ _)) (by first | omega | (simp; omega)) (by first | omega | (simp; omega))) ?_
            refine WPl.nil ?_
            refine EX.blk ?_
            refine EX.then ?_
            refine WP.region ?_
            refine WPl.v rfl (o_add rfl rfl (by first | omega | (simp; omega)) (by first | omega | (simp; omega))) ?_
            refine WPl.v rfl (o_move rfl) ?_
            refine WPl.nil ?_
            refine EX.again (j + 1) id (by exact ⟨by omega, by simp only [allI, hfit, Bool.true_and]; simpa [rowFits] using hc5⟩) (by omega) (LeR.of ⟨rfl, rfl, rfl, rfl, rfl, rfl, rfl, rfl, rfl, rfl, rfl, rfl, rfl, rfl, rfl, rfl, rfl, rfl, rfl, rfl, rfl, rfl, rfl, rfl, trivial⟩ ⟨(lx rfl), (lx rfl), (lx rfl), (lx rfl), (lx rfl), trivial⟩ ⟨rfl, rfl, rfl, trivial⟩ rfl rfl rfl rfl rfl)
        · try simp only [decide_eq_true_eq, decide_eq_false_iff_not, Bool.and_eq_true, Bool.or_eq_true, Bool.and_eq_false_iff, Bool.or_eq_false_iff, Bool.not_eq_true', Bool.not_eq_false', ne_eq, Decidable.not_not] at hc4
          refine WP.exit ?_
          refine EX.exit_then ?_
          refine EX.exit_then ?_
          refine EX.exit_blk ?_
          refine EX.blk ?_
          refine EX.then ?_
          refine WP.region ?_
          refine WPl.v rfl (o_add rfl rfl (by first | omega | (simp; omega)) (by first | omega | (simp; omega))) ?_
          refine WPl.v rfl (o_move rfl) ?_
          refine WPl.nil ?_
          have hrow : f.rowW plan i = true := by simp only [Fnd.rowW, Bool.and_eq_true, decide_eq_true_eq]; exact ⟨by omega, by rw [show (nth plan i).length = j by omega]; exact hfit⟩
          refine EX.again (i + 1) id (by exact ⟨by omega, by simp only [allI, hrows, Bool.true_and]; exact hrow⟩) (by omega) (LeR.of ⟨rfl, rfl, rfl, rfl, rfl, rfl, rfl, trivial⟩ ⟨(lx rfl), (lx rfl), trivial⟩ ⟨rfl, rfl, (congrArg (fun z => some (Ent.blk z 110)) (List.cons_eq_cons.2 ⟨(congrArg (fun z => ai z) (show (nth (takeTo (leftAt f.shop.pigs plan i) (nth plan i) j) 0) = ((fun i => nth (leftAt f.shop.pigs plan i) 0) (i + 1)) from by dsimp only; rw [show leftAt f.shop.pigs plan (i + 1) = takeTo (leftAt f.shop.pigs plan i) (nth plan i) (nth plan i).length from rfl, show (nth plan i).length = j by omega])), (List.cons_eq_cons.2 ⟨(congrArg (fun z => ai z) (show (nth (takeTo (leftAt f.shop.pigs plan i) (nth plan i) j) 1) = ((fun i => nth (leftAt f.shop.pigs plan i) 1) (i + 1)) from by dsimp only; rw [show leftAt f.shop.pigs plan (i + 1) = takeTo (leftAt f.shop.pigs plan i) (nth plan i) (nth plan i).length from rfl, show (nth plan i).length = j by omega])), (List.cons_eq_cons.2 ⟨(congrArg (fun z => ai z) (show (nth (takeTo (leftAt f.shop.pigs plan i) (nth plan i) j) 2) = ((fun i => nth (leftAt f.shop.pigs plan i) 2) (i + 1)) from by dsimp only; rw [show leftAt f.shop.pigs plan (i + 1) = takeTo (leftAt f.shop.pigs plan i) (nth plan i) (nth plan i).length from rfl, show (nth plan i).length = j by omega])), (List.cons_eq_cons.2 ⟨(congrArg (fun z => ai z) (show (nth (takeTo (leftAt f.shop.pigs plan i) (nth plan i) j) 3) = ((fun i => nth (leftAt f.shop.pigs plan i) 3) (i + 1)) from by dsimp only; rw [show leftAt f.shop.pigs plan (i + 1) = takeTo (leftAt f.shop.pigs plan i) (nth plan i) (nth plan i).length from rfl, show (nth plan i).length = j by omega])), (Eq.refl [])⟩)⟩)⟩)⟩)), trivial⟩ rfl rfl rfl rfl rfl)
    · try simp only [decide_eq_true_eq, decide_eq_false_iff_not, Bool.and_eq_true, Bool.or_eq_true, Bool.and_eq_false_iff, Bool.or_eq_false_iff, Bool.not_eq_true', Bool.not_eq_false', ne_eq, Decidable.not_not] at hc2
      refine WP.exit ?_
      refine EX.exit_then ?_
      refine EX.exit_then ?_
      refine EX.exit_blk ?_
      refine EX.then ?_
      refine WP.seq ?_
      refine WP.seq ?_
      refine WP.region ?_
      refine WPl.v rfl (o_ldp S95 rfl rfl rfl) ?_
      refine WPl.v rfl (o_move rfl) ?_
      have he : i = plan.length := by omega
      subst he
      have hPB := wrows_planB hpg (by omega) hrows
      refine WPl.cs 8 rfl rfl rfl rfl (o_sig 7 (ren [(0, 0), (1, 1)]) (c80 f r plan hf hPB) e80 rfl rfl rfl w80 ⟨(lx rfl), (lx rfl), trivial⟩ r80) ?_
      refine WPl.nil ?_
      refine EX.then ?_
      refine WP.block ?_
      refine WP.leR (S' := ⟨8, [(2, .e (.a (.p 2 (0)))), (4, .e (.a (.p 3 (0)))), (66, .e (.a (.q 7)))], [(0, PP (EWk r) (f)), (7, ItP Try.prog (nightItems f plan))], [(2, .blk [.q 0] 95), (3, .blk [.v (.bool (false))] 4)], [], []⟩) id (LeR.of ⟨rfl, rfl, rfl, trivial⟩ ⟨(lx rfl), (lx rfl), trivial⟩ ⟨rfl, rfl, trivial⟩ rfl rfl rfl rfl rfl) ?_
      refine WP.imp (Imp.nam 8 9 (.bool true) (R := Pred.pure (allI (fun i => f.fitsP (f.at plan i)) 0 = true)) (fun _ => rfl) rfl rfl) ?_
      refine WP.rangeG 12 0 (f.nights.length) (fun g => ⟨[.i ((g : Int)), .e (.g [ai ((f.at plan g).pounds), ai ((f.at plan g).tl), ai ((f.at plan g).th), ai ((f.at plan g).al), ai ((f.at plan g).ah), ai ((f.at plan g).dl), ai ((f.at plan g).dh)])], [], []⟩) (fun g => ⟨12, [(2, .e (.a (.p 2 (0)))), (4, .e (.a (.p 3 (0)))), (66, .e (.a (.q 7)))], [(0, PP (EWk r) (f)), (7, ItP Try.prog (nightItems f plan)), (11, Pred.pure (allI (fun i => f.fitsP (f.at plan i)) g = true))], [(2, .blk [.q 0] 95), (3, .blk [.v (.bool (false))] 4), (9, .ob (.deferred (some [])))], [9], []⟩) (fun c T => (f.wPlan plan = false ∧ c = .ret ∧ T = ⟨12, [(2, .e (.a (.p 2 (0)))), (4, .e (.a (.p 3 (0)))), (66, .e (.a (.q 7)))], [(0, PP (EWk r) (f)), (7, ItP Try.prog (nightItems f plan))], [(2, .blk [.q 0] 95), (3, .blk [.v (.bool (false))] 4), (9, .ob (.deferred (some [])))], [9], []⟩)) rfl rfl (lx rfl) (rfl) (fun _ => RSt.of rfl rfl rfl rfl rfl rfl) ((by rintro c T (⟨_, rfl, rfl⟩) <;> exact RSt.of rfl rfl rfl rfl rfl rfl)) rfl rfl rfl (fun _ _ => ItemOK.of rfl) rfl rfl (ren [(11, 8)]) (LeR.of ⟨rfl, rfl, rfl, trivial⟩ ⟨(lx rfl), (lx rfl), (lx rfl), trivial⟩ ⟨rfl, rfl, rfl, trivial⟩ rfl rfl rfl rfl rfl) ?_ ?_ ?_
      · intro g hg w1 E1 I1 R1 pβ1 pν1 us1
        refine WP.pure 11 (lx rfl) fun hinv1 => ?_
        refine WP.region ?_
        refine WPl.l 12 13 rfl rfl rfl (o_alloc Z105) ?_
        refine WPl.s1 (o_stag G105 rfl rfl rfl ⟨rfl, rfl, rfl, rfl, rfl, rfl, rfl, trivial⟩ rfl rfl) ?_
        refine WPl.nil ?_
        refine EX.beg rfl ?_
        refine WP.block ?_
        refine WP.seq ?_
        refine WP.region ?_
        refine WPl.v rfl (o_ldp S95 rfl rfl rfl) ?_
        refine WPl.v rfl (o_ldpa G105 rfl rfl rfl) ?_
        refine WPl.cs 13 rfl rfl rfl rfl (o_sig 13 (ren [(0, 0)]) (c127 f r (f.at plan g) 2100000 (at_bnd hf hPB (by have := hPB.1; omega)) (by omega)) e127 rfl rfl rfl w127 ⟨(lx rfl), trivial⟩ r127) ?_
        refine WPl.v rfl (o_not rfl) ?_
        refine WPl.nil ?_
        refine EX.then ?_
        refine WP.cond rfl (fun hc6 => ?_) (fun hc6 => ?_)
        · try simp only [decide_eq_true_eq, decide_eq_false_iff_not, Bool.and_eq_true, Bool.or_eq_true, Bool.and_eq_false_iff, Bool.or_eq_false_iff, Bool.not_eq_true', Bool.not_eq_false', ne_eq, Decidable.not_not] at hc6
          refine WP.seq ?_
          refine WP.region ?_
          refine WPl.s1 (o_sta S4 rfl rfl rfl rfl rfl) ?_
          refine WPl.nil ?_
          refine EX.then ?_
          refine WP.ret ?_
          refine EX.ret_blk ?_
          exact EX.jret id ⟨(by simp only [Fnd.wPlan, Bool.and_eq_false_iff]; exact .inr (not_allI hg (by simpa using hc6))), rfl, rfl⟩ (LeR.of trivial ⟨(lx rfl), (lx rfl), trivial⟩ ⟨rfl, rfl, rfl, rfl, trivial⟩ rfl rfl rfl rfl rfl)
        · try simp only [decide_eq_true_eq, decide_eq_false_iff_not, Bool.and_eq_true, Bool.or_eq_true, Bool.and_eq_false_iff, Bool.or_eq_false_iff, Bool.not_eq_true', Bool.not_eq_false', ne_eq, Decidable.not_not] at hc6
          refine WP.skip ?_
          refine EX.blk ?_
          have hinvn : allI (fun i => f.fitsP (f.at plan i)) (g + 1) = true := by simp only [allI, hinv1, Bool.true_and]; simpa using hc6
          refine EX.imp (Imp.nam 13 14 (.bool true) (R := Pred.pure (allI (fun i => f.fitsP (f.at plan i)) (g + 1) = true)) (fun _ => hinvn) rfl rfl) ?_
          exact EX.next (ren [(11, 13)]) (LeR.of trivial ⟨(lx rfl), (lx rfl), (lx rfl), trivial⟩ ⟨rfl, rfl, rfl, rfl, trivial⟩ rfl rfl rfl rfl rfl)
      · rintro c T (⟨hj, rfl, rfl⟩)
        · skip
          refine WP.ret ?_
          refine EX.ret_blk ?_
          refine EX.ret_then ?_
          rw [hj]
          exact EX.fin id (.inl rfl) rfl (.cell1 S4 rfl rfl (.nil)) rfl (by simp [SV.res, El.res, At.res, keys]) trivial (marks rfl) (by simp)
      · refine EX.pure 11 (lx rfl) fun hinv1 => ?_
        refine EX.blk ?_
        refine EX.then ?_
        refine WP.seq ?_
        refine WP.region ?_
        refine WPl.s1 (o_sta S4 rfl rfl rfl rfl rfl) ?_
        refine WPl.nil ?_
        refine EX.then ?_
        refine WP.ret ?_
        rw [show f.wPlan plan = true from by simp only [Fnd.wPlan, Bool.and_eq_true, decide_eq_true_eq]; exact ⟨⟨by omega, hrows⟩, hinv1⟩]
        exact EX.fin id (.inl rfl) rfl (.cell1 S4 rfl rfl (.nil)) rfl (by simp [SV.res, El.res, At.res, keys]) trivial (marks rfl) (by simp)
theorem w89 {f : Fnd} {r : Option Nat} {plan : List (List Int)} : ∀ x ∈ ([.e (.a (.q 0)), .e (.a (.q 1))] : List SV), x.res (keys (α := Pred) [(0, PP (EWk r) (f)), (1, PL (EP.sl EP.int) (plan))]) := by simp [SV.res, El.res, At.res, keys]
theorem r89 {f : Fnd} {plan : List (List Int)} : SV.res (keys (α := Pred) [(0, PL EP.int (f.wFails plan))]) (.e (.a (.q 0))) := by simp [SV.res, El.res, At.res, keys]
set_option maxHeartbeats 4000000 in
theorem c89 (f : Fnd) (r : Option Nat) (plan : List (List Int)) (hf : f.chk = true) (hp : PlanB f plan) : Sig Try.prog 89 [.e (.a (.q 0)), .e (.a (.q 1))] [(0, PP (EWk r) (f)), (1, PL (EP.sl EP.int) (plan))] (.e (.a (.q 0))) [(0, PL EP.int (f.wFails plan))] := by
  have hl := hp.1
  have hn4 := (Fnd.nightsOK hf).2
  have hwl := wFailsTo_len f plan
  refine Sig.intro Try.func89 rfl 2 [(0, .e (.a (.q 0))), (1, .e (.a (.q 1)))] rfl w89 rfl rfl fun I w => ?_
  refine WP.seq ?_
  refine WP.region ?_
  refine WPl.l 2 3 rfl rfl rfl (o_boxa rfl (.inl ⟨_, (lx rfl), PP.one⟩)) ?_
  refine WPl.l 3 4 rfl rfl rfl (o_alloc Z44) ?_
  refine WPl.nil ?_
  refine EX.then ?_
  refine WP.seq ?_
  refine WP.seq ?_
  refine WP.region ?_
  refine WPl.v rfl (o_ldp S95 rfl rfl rfl) ?_
  refine WPl.v rfl (o_move rfl) ?_
  refine WPl.cs 5 rfl rfl rfl rfl (o_sig 4 (ren [(0, 0), (1, 1)]) (c80 f r plan hf hp) e80 rfl rfl rfl w80 ⟨(lx rfl), (lx rfl), trivial⟩ r80) ?_
  refine WPl.nil ?_
  refine EX.then ?_
  refine WP.block ?_
  refine WP.leR (S' := ⟨5, [(2, .e (.a (.p 2 (0)))), (4, .e (.a (.p 3 (0)))), (9, .e (.a (.q 4)))], [(0, PP (EWk r) (f)), (4, ItP Try.prog (nightItems f plan))], [(2, .blk [.q 0] 95), (3, .blk [.v (.slice none 0 0)] 44)], [], []⟩) id (LeR.of ⟨rfl, rfl, rfl, trivial⟩ ⟨(lx rfl), (lx rfl), trivial⟩ ⟨rfl, rfl, trivial⟩ rfl rfl rfl rfl rfl) ?_
  refine WP.imp (Imp.namo EP.int 5 6 3 rfl rfl) ?_
  refine WP.imp (Imp.swL 3 0 5 rfl rfl (lx rfl)) ?_
  refine WP.rangeG 9 0 (f.nights.length) (fun g => ⟨[.i ((g : Int)), .e (.g [ai ((f.at plan g).pounds), ai ((f.at plan g).tl), ai ((f.at plan g).th), ai ((f.at plan g).al), ai ((f.at plan g).ah), ai ((f.at plan g).dl), ai ((f.at plan g).dh)])], [], []⟩) (fun g => ⟨9, [(2, .e (.a (.p 2 (0)))), (4, .e (.a (.p 3 (0)))), (9, .e (.a (.q 4)))], [(0, PP (EWk r) (f)), (4, ItP Try.prog (nightItems f plan)), (5, Pred.is (.slice none 0 0))], [(2, .blk [.q 0] 95), (3, .blk [.q 8] 44), (6, .ob (.deferred (some []))), (8, .own 3 EP.int.size (f.wFailsTo plan g).length (RP EP.int (f.wFailsTo plan g)))], [6], []⟩) (fun _ _ => False) rfl rfl (lx rfl) (rfl) (fun _ => RSt.of rfl rfl rfl rfl rfl rfl) (fun _ _ h => h.elim) rfl rfl rfl (fun _ _ => ItemOK.of rfl) rfl rfl (ren [(8, 5)]) (LeR.of ⟨rfl, rfl, rfl, trivial⟩ ⟨(lx rfl), (lx rfl), (lx rfl), trivial⟩ ⟨rfl, rfl, rfl, rfl, trivial⟩ rfl rfl rfl rfl rfl) ?_ ?_ ?_
  · intro g hg w1 E1 I1 R1 pβ1 pν1 us1
    refine WP.seq ?_
    refine WP.region ?_
    refine WPl.v rfl (o_assign rfl) ?_
    refine WPl.nil ?_
    refine EX.then ?_
    refine WP.region ?_
    refine WPl.l 9 10 rfl rfl rfl (o_alloc Z105) ?_
    refine WPl.s1 (o_stag G105 rfl rfl rfl ⟨rfl, rfl, rfl, rfl, rfl, rfl, rfl, trivial⟩ rfl rfl) ?_
    refine WPl.nil ?_
    refine EX.beg rfl ?_
    refine WP.block ?_
    refine WP.seq ?_
    refine WP.region ?_
    refine WPl.v rfl (o_ldp S95 rfl rfl rfl) ?_
    refine WPl.v rfl (o_ldpa G105 rfl rfl rfl) ?_
    refine WPl.cs 10 rfl rfl rfl rfl (o_sig 10 (ren [(0, 0)]) (c135 f r (f.at plan g) 2100000 (at_bnd hf hp (by omega)) (by omega) (Fnd.shopOK hf)) e135 rfl rfl rfl w135 ⟨(lx rfl), trivial⟩ r135) ?_
    refine WPl.v rfl (o_not rfl) ?_
    refine WPl.nil ?_
    refine EX.then ?_
    refine WP.cond rfl (fun hc1 => ?_) (fun hc1 => ?_)
    · try simp only [decide_eq_true_eq, decide_eq_false_iff_not, Bool.and_eq_true, Bool.or_eq_true, Bool.and_eq_false_iff, Bool.or_eq_false_iff, Bool.not_eq_true', Bool.not_eq_false', ne_eq, Decidable.not_not] at hc1
      refine WP.region ?_
      refine WPl.v rfl (o_ldp S44 rfl rfl rfl) ?_
      refine WPl.v rfl (o_move rfl) ?_
      refine WPl.u1 (k := 10) (m := 11) rfl rfl rfl (OpG.newer0 (o_bsl (E := EP.int) (l := [(g : Int)]) R44 rfl rfl (.cons (rfl) rfl (eok_int) (.nil)) rfl rfl)) ?_
      have hwg := hwl g
      refine WPl.u1 (k := 11) (m := 12) rfl rfl rfl (o_appo R44 EP.int_one rfl rfl rfl rfl (by first | omega | (simp; omega) | (simp at *; omega)) (by first | omega | (simp; omega) | (simp at *; omega))) ?_
      refine WPl.s1 (o_sta S44 rfl rfl rfl (.inr ⟨_, _, _, _, rfl⟩) rfl) ?_
      refine WPl.nil ?_
      refine EX.blk ?_
      exact EX.next (ren [(8, 11)]) (LeR.of trivial ⟨(lx rfl), (lx rfl), (lx rfl), trivial⟩ ⟨rfl, rfl, rfl, rfl, (congrArg (fun z => some (Ent.own 3 EP.int.size (List.length z) (RP EP.int z))) (show ((f.wFailsTo plan g) ++ [(g : Int)]) = ((fun g => f.wFailsTo plan g) (g + 1)) from by simp [Fnd.wFailsTo, hc1])), trivial⟩ rfl rfl rfl rfl rfl)
    · try simp only [decide_eq_true_eq, decide_eq_false_iff_not, Bool.and_eq_true, Bool.or_eq_true, Bool.and_eq_false_iff, Bool.or_eq_false_iff, Bool.not_eq_true', Bool.not_eq_false', ne_eq, Decidable.not_not] at hc1
      refine WP.skip ?_
      refine EX.blk ?_
      exact EX.next id (LeR.of trivial ⟨(lx rfl), (lx rfl), (lx rfl), trivial⟩ ⟨rfl, rfl, rfl, rfl, (congrArg (fun z => some (Ent.own 3 EP.int.size (List.length z) (RP EP.int z))) (show (f.wFailsTo plan g) = ((fun g => f.wFailsTo plan g) (g + 1)) from by simp [Fnd.wFailsTo, hc1])), trivial⟩ rfl rfl rfl rfl rfl)
  · exact fun _ _ h => h.elim
  · skip
    refine EX.blk ?_
    refine EX.then ?_
    refine WP.seq ?_
    refine WP.region ?_
    refine WPl.v rfl (o_ldp S44 rfl rfl rfl) ?_
    refine WPl.s1 (o_sta S44 rfl rfl rfl (.inr ⟨_, _, _, _, rfl⟩) rfl) ?_
    refine WPl.nil ?_
    refine EX.then ?_
    refine WP.ret ?_
    refine EX.imp (Imp.frz (E := EP.int) (l := f.wFailsTo plan f.nights.length) 8 rfl rfl) ?_
    exact EX.fin (ren [(0, 8)]) (.inl rfl) rfl (.cell1 S44 rfl rfl (.nil)) rfl r89 ⟨(lx rfl), trivial⟩ (marks rfl) (by simp)
theorem w89O {f : Fnd} {r : Option Nat} {plan : List (List Int)} : ∀ x ∈ ([.e (.a (.q 0)), .e (.a (.q 1))] : List SV), x.res (keys (α := Pred) [(0, PP (EWk r) (f)), (1, PL (EP.sl EP.int) (plan))]) := by simp [SV.res, El.res, At.res, keys]
theorem r89O  : SV.res (keys (α := Pred) [(0, Pred.top)]) (.e (.a (.q 0))) := by simp [SV.res, El.res, At.res, keys]
set_option maxHeartbeats 4000000 in
theorem c89O (f : Fnd) (r : Option Nat) (plan : List (List Int)) (hf : f.chk = true) (hp : PlanB f plan) : SigO Try.prog 89 [.e (.a (.q 0)), .e (.a (.q 1))] [(0, PP (EWk r) (f)), (1, PL (EP.sl EP.int) (plan))] (.e (.a (.q 0))) [(0, Pred.top)] [(0, .own 3 EP.int.size (f.wFails plan).length (RP EP.int (f.wFails plan)))] := by
  have hl := hp.1
  have hn4 := (Fnd.nightsOK hf).2
  have hwl := wFailsTo_len f plan
  refine SigO.intro Try.func89 rfl 2 [(0, .e (.a (.q 0))), (1, .e (.a (.q 1)))] rfl w89O rfl rfl fun I w => ?_
  refine WP.seq ?_
  refine WP.region ?_
  refine WPl.l 2 3 rfl rfl rfl (o_boxa rfl (.inl ⟨_, (lx rfl), PP.one⟩)) ?_
  refine WPl.l 3 4 rfl rfl rfl (o_alloc Z44) ?_
  refine WPl.nil ?_
  refine EX.then ?_
  refine WP.seq ?_
  refine WP.seq ?_
  refine WP.region ?_
  refine WPl.v rfl (o_ldp S95 rfl rfl rfl) ?_
  refine WPl.v rfl (o_move rfl) ?_
  refine WPl.cs 5 rfl rfl rfl rfl (o_sig 4 (ren [(0, 0), (1, 1)]) (c80 f r plan hf hp) e80 rfl rfl rfl w80 ⟨(lx rfl), (lx rfl), trivial⟩ r80) ?_
  refine WPl.nil ?_
  refine EX.then ?_
  refine WP.block ?_
  refine WP.leR (S' := ⟨5, [(2, .e (.a (.p 2 (0)))), (4, .e (.a (.p 3 (0)))), (9, .e (.a (.q 4)))], [(0, PP (EWk r) (f)), (4, ItP Try.prog (nightItems f plan))], [(2, .blk [.q 0] 95), (3, .blk [.v (.slice none 0 0)] 44)], [], []⟩) id (LeR.of ⟨rfl, rfl, rfl, trivial⟩ ⟨(lx rfl), (lx rfl), trivial⟩ ⟨rfl, rfl, trivial⟩ rfl rfl rfl rfl rfl) ?_
  refine WP.imp (Imp.namo EP.int 5 6 3 rfl rfl) ?_
  refine WP.imp (Imp.swL 3 0 5 rfl rfl (lx rfl)) ?_
  refine WP.rangeG 9 0 (f.nights.length) (fun g => ⟨[.i ((g : Int)), .e (.g [ai ((f.at plan g).pounds), ai ((f.at plan g).tl), ai ((f.at plan g).th), ai ((f.at plan g).al), ai ((f.at plan g).ah), ai ((f.at plan g).dl), ai ((f.at plan g).dh)])], [], []⟩) (fun g => ⟨9, [(2, .e (.a (.p 2 (0)))), (4, .e (.a (.p 3 (0)))), (9, .e (.a (.q 4)))], [(0, PP (EWk r) (f)), (4, ItP Try.prog (nightItems f plan)), (5, Pred.is (.slice none 0 0))], [(2, .blk [.q 0] 95), (3, .blk [.q 8] 44), (6, .ob (.deferred (some []))), (8, .own 3 EP.int.size (f.wFailsTo plan g).length (RP EP.int (f.wFailsTo plan g)))], [6], []⟩) (fun _ _ => False) rfl rfl (lx rfl) (rfl) (fun _ => RSt.of rfl rfl rfl rfl rfl rfl) (fun _ _ h => h.elim) rfl rfl rfl (fun _ _ => ItemOK.of rfl) rfl rfl (ren [(8, 5)]) (LeR.of ⟨rfl, rfl, rfl, trivial⟩ ⟨(lx rfl), (lx rfl), (lx rfl), trivial⟩ ⟨rfl, rfl, rfl, rfl, trivial⟩ rfl rfl rfl rfl rfl) ?_ ?_ ?_
  · intro g hg w1 E1 I1 R1 pβ1 pν1 us1
    refine WP.seq ?_
    refine WP.region ?_
    refine WPl.v rfl (o_assign rfl) ?_
    refine WPl.nil ?_
    refine EX.then ?_
    refine WP.region ?_
    refine WPl.l 9 10 rfl rfl rfl (o_alloc Z105) ?_
    refine WPl.s1 (o_stag G105 rfl rfl rfl ⟨rfl, rfl, rfl, rfl, rfl, rfl, rfl, trivial⟩ rfl rfl) ?_
    refine WPl.nil ?_
    refine EX.beg rfl ?_
    refine WP.block ?_
    refine WP.seq ?_
    refine WP.region ?_
    refine WPl.v rfl (o_ldp S95 rfl rfl rfl) ?_
    refine WPl.v rfl (o_ldpa G105 rfl rfl rfl) ?_
    refine WPl.cs 10 rfl rfl rfl rfl (o_sig 10 (ren [(0, 0)]) (c135 f r (f.at plan g) 2100000 (at_bnd hf hp (by omega)) (by omega) (Fnd.shopOK hf)) e135 rfl rfl rfl w135 ⟨(lx rfl), trivial⟩ r135) ?_
    refine WPl.v rfl (o_not rfl) ?_
    refine WPl.nil ?_
    refine EX.then ?_
    refine WP.cond rfl (fun hc1 => ?_) (fun hc1 => ?_)
    · try simp only [decide_eq_true_eq, decide_eq_false_iff_not, Bool.and_eq_true, Bool.or_eq_true, Bool.and_eq_false_iff, Bool.or_eq_false_iff, Bool.not_eq_true', Bool.not_eq_false', ne_eq, Decidable.not_not] at hc1
      refine WP.region ?_
      refine WPl.v rfl (o_ldp S44 rfl rfl rfl) ?_
      refine WPl.v rfl (o_move rfl) ?_
      refine WPl.u1 (k := 10) (m := 11) rfl rfl rfl (OpG.newer0 (o_bsl (E := EP.int) (l := [(g : Int)]) R44 rfl rfl (.cons (rfl) rfl (eok_int) (.nil)) rfl rfl)) ?_
      have hwg := hwl g
      refine WPl.u1 (k := 11) (m := 12) rfl rfl rfl (o_appo R44 EP.int_one rfl rfl rfl rfl (by first | omega | (simp; omega) | (simp at *; omega)) (by first | omega | (simp; omega) | (simp at *; omega))) ?_
      refine WPl.s1 (o_sta S44 rfl rfl rfl (.inr ⟨_, _, _, _, rfl⟩) rfl) ?_
      refine WPl.nil ?_
      refine EX.blk ?_
      exact EX.next (ren [(8, 11)]) (LeR.of trivial ⟨(lx rfl), (lx rfl), (lx rfl), trivial⟩ ⟨rfl, rfl, rfl, rfl, (congrArg (fun z => some (Ent.own 3 EP.int.size (List.length z) (RP EP.int z))) (show ((f.wFailsTo plan g) ++ [(g : Int)]) = ((fun g => f.wFailsTo plan g) (g + 1)) from by simp [Fnd.wFailsTo, hc1])), trivial⟩ rfl rfl rfl rfl rfl)
    · try simp only [decide_eq_true_eq, decide_eq_false_iff_not, Bool.and_eq_true, Bool.or_eq_true, Bool.and_eq_false_iff, Bool.or_eq_false_iff, Bool.not_eq_true', Bool.not_eq_false', ne_eq, Decidable.not_not] at hc1
      refine WP.skip ?_
      refine EX.blk ?_
      exact EX.next id (LeR.of trivial ⟨(lx rfl), (lx rfl), (lx rfl), trivial⟩ ⟨rfl, rfl, rfl, rfl, (congrArg (fun z => some (Ent.own 3 EP.int.size (List.length z) (RP EP.int z))) (show (f.wFailsTo plan g) = ((fun g => f.wFailsTo plan g) (g + 1)) from by simp [Fnd.wFailsTo, hc1])), trivial⟩ rfl rfl rfl rfl rfl)
  · exact fun _ _ h => h.elim
  · skip
    refine EX.blk ?_
    refine EX.then ?_
    refine WP.seq ?_
    refine WP.region ?_
    refine WPl.v rfl (o_ldp S44 rfl rfl rfl) ?_
    refine WPl.s1 (o_sta S44 rfl rfl rfl (.inr ⟨_, _, _, _, rfl⟩) rfl) ?_
    refine WPl.nil ?_
    refine EX.then ?_
    refine WP.ret ?_
    refine EX.imp (Imp.topX 8 rfl) ?_
    exact EX.finO (ren [(0, 8)]) rfl (.inl rfl) rfl (.cell1 S44 rfl rfl (.nil)) rfl r89O ⟨lx rfl, trivial⟩ ⟨rfl, trivial⟩ rfl rfl (marks rfl) (by simp)
theorem w76N {f : Fnd} : ∀ x ∈ ([.e (.g [ai (f.shop.pounds), ai (f.shop.tl), ai (f.shop.th), ai (f.shop.al), ai (f.shop.ah), ai (f.shop.room), ai (f.shop.tpl), ai (f.shop.tph), ai (f.shop.apl), ai (f.shop.aph), .q 0, .q 1]), .e (.a (.v (.nilFunc)))] : List SV), x.res (keys (α := Pred) [(0, PL EPig (f.shop.pigs)), (1, PL ENight (f.nights))]) := by simp [SV.res, El.res, At.res, keys]
set_option maxHeartbeats 4000000 in
theorem c76N (f : Fnd) (hf : f.chk = true) : SigM Try.prog 76 [.e (.g [ai (f.shop.pounds), ai (f.shop.tl), ai (f.shop.th), ai (f.shop.al), ai (f.shop.ah), ai (f.shop.room), ai (f.shop.tpl), ai (f.shop.tph), ai (f.shop.apl), ai (f.shop.aph), .q 0, .q 1]), .e (.a (.v (.nilFunc)))] [(0, PL EPig (f.shop.pigs)), (1, PL ENight (f.nights))] true 12 (.t [.a (.q 0), .a (ai (0))]) (fun b => [(0, PP (EWk (some b)) (f))]) := by
  have hch : errW f.chk = 0 := by simp [hf, errW]
  refine SigM.intro Try.func76 rfl 2 [(0, .e (.g [ai (f.shop.pounds), ai (f.shop.tl), ai (f.shop.th), ai (f.shop.al), ai (f.shop.ah), ai (f.shop.room), ai (f.shop.tpl), ai (f.shop.tph), ai (f.shop.apl), ai (f.shop.aph), .q 0, .q 1])), (1, .e (.a (.v (.nilFunc))))] rfl w76N rfl rfl fun I w => ?_
  refine WP.seq ?_
  refine WP.region ?_
  refine WPl.l 2 3 rfl rfl rfl (o_boxg rfl) ?_
  refine WPl.v rfl (o_assign rfl) ?_
  refine WPl.v rfl (o_assign rfl) ?_
  refine WPl.nil ?_
  refine EX.then ?_
  refine WP.seq ?_
  refine WP.region ?_
  refine WPl.v rfl (o_ldpa G31 rfl rfl rfl) ?_
  refine WPl.mkmap true 12 3 4 rfl rfl rfl fun b9 => ?_
  refine WPl.v rfl (o_build B100 rfl ⟨rfl, trivial⟩ rfl rfl) ?_
  refine WPl.l 4 5 rfl rfl rfl (o_boxg rfl) ?_
  refine WPl.v rfl (o_assign rfl) ?_
  refine WPl.nil ?_
  refine EX.then ?_
  refine WP.seq ?_
  refine WP.seq ?_
  refine WP.region ?_
  refine WPl.v rfl (o_ldpa G31 rfl rfl rfl) ?_
  refine WPl.cs 5 rfl rfl rfl rfl (o_sig 5 (ren [(0, 0), (1, 1)]) (c21 f (by have := Fnd.chkB hf; omega)) e21 rfl rfl rfl w21 ⟨(lx rfl), (lx rfl), trivial⟩ r21) ?_
  refine WPl.v rfl (o_assign rfl) ?_
  refine WPl.nil ?_
  refine EX.then ?_
  refine WP.seq ?_
  refine WP.region ?_
  refine WPl.v rfl (o_move rfl) ?_
  refine WPl.v rfl (o_neq rfl rfl) ?_
  refine WPl.nil ?_
  refine EX.then ?_
  refine WP.cond rfl (fun hc1 => ?_) (fun hc1 => ?_)
  · try simp only [decide_eq_true_eq, decide_eq_false_iff_not, Bool.and_eq_true, Bool.or_eq_true, Bool.and_eq_false_iff, Bool.or_eq_false_iff, Bool.not_eq_true', Bool.not_eq_false', ne_eq, Decidable.not_not] at hc1
    simp [hch] at hc1
  · try simp only [decide_eq_true_eq, decide_eq_false_iff_not, Bool.and_eq_true, Bool.or_eq_true, Bool.and_eq_false_iff, Bool.or_eq_false_iff, Bool.not_eq_true', Bool.not_eq_false', ne_eq, Decidable.not_not] at hc1
    refine WP.skip ?_
    refine EX.then ?_
    refine WP.seq ?_
    refine WP.seq ?_
    refine WP.region ?_
    refine WPl.v rfl (o_move rfl) ?_
    refine WPl.v rfl (o_nenil Try.underlying101 rfl) ?_
    refine WPl.v rfl (o_move rfl) ?_
    refine WPl.off rfl ⟨_, _, rfl, rfl, rfl⟩ ?_
    refine WPl.off rfl ⟨_, _, rfl, rfl, rfl⟩ ?_
    refine WPl.off rfl ⟨_, _, rfl, rfl, rfl⟩ ?_
    refine WPl.off rfl ⟨_, _, rfl, rfl, rfl⟩ ?_
    refine WPl.v rfl (o_pickF rfl rfl) ?_
    refine WPl.nil ?_
    refine EX.then ?_
    refine WP.cond rfl (fun h => by cases h) (fun _ => ?_)
    refine WP.skip ?_
    refine EX.then ?_
    refine WP.seq ?_
    refine WP.region ?_
    refine WPl.v rfl (o_move rfl) ?_
    refine WPl.v rfl (o_assign rfl) ?_
    refine WPl.v rfl (o_assign rfl) ?_
    refine WPl.nil ?_
    refine EX.then ?_
    refine WP.ret ?_
    refine EX.imp (Imp.frzb (E := (EWk (some b9))) (y := f) 4 5 6 rfl rfl (bok_str ⟨rfl, rfl, rfl, rfl, rfl, rfl, rfl, rfl, rfl, rfl, ⟨_, rfl, (lx rfl)⟩, ⟨_, rfl, (lx rfl)⟩, .inl rfl, trivial⟩) rfl rfl rfl) ?_
    exact EX.finM (ren [(0, 5)]) 3 b9 rfl (.inl rfl) rfl (.tmp rfl (.tmp rfl .nil)) rfl (by simp [SV.res, El.res, At.res, keys]) ⟨(lx rfl), trivial⟩ rfl (by simp) (by simp)
theorem w76NE {f : Fnd} : ∀ x ∈ ([.e (.g [ai (f.shop.pounds), ai (f.shop.tl), ai (f.shop.th), ai (f.shop.al), ai (f.shop.ah), ai (f.shop.room), ai (f.shop.tpl), ai (f.shop.tph), ai (f.shop.apl), ai (f.shop.aph), .q 0, .q 1]), .e (.a (.v (.nilFunc)))] : List SV), x.res (keys (α := Pred) [(0, PL EPig (f.shop.pigs)), (1, PL ENight (f.nights))]) := by simp [SV.res, El.res, At.res, keys]
theorem r76NE  : SV.res (keys (α := Pred) []) (.t [.a (.v (.pointer none)), .a (ai (130))]) := by simp [SV.res, El.res, At.res, keys]
set_option maxHeartbeats 4000000 in
theorem c76NE (f : Fnd) (hf : f.chk = false) (hl : f.shop.pigs.length ≤ 40) : Sig Try.prog 76 [.e (.g [ai (f.shop.pounds), ai (f.shop.tl), ai (f.shop.th), ai (f.shop.al), ai (f.shop.ah), ai (f.shop.room), ai (f.shop.tpl), ai (f.shop.tph), ai (f.shop.apl), ai (f.shop.aph), .q 0, .q 1]), .e (.a (.v (.nilFunc)))] [(0, PL EPig (f.shop.pigs)), (1, PL ENight (f.nights))] (.t [.a (.v (.pointer none)), .a (ai (130))]) [] := by
  have hch : errW f.chk = 130 := by simp [hf, errW]
  refine Sig.intro Try.func76 rfl 2 [(0, .e (.g [ai (f.shop.pounds), ai (f.shop.tl), ai (f.shop.th), ai (f.shop.al), ai (f.shop.ah), ai (f.shop.room), ai (f.shop.tpl), ai (f.shop.tph), ai (f.shop.apl), ai (f.shop.aph), .q 0, .q 1])), (1, .e (.a (.v (.nilFunc))))] rfl w76NE rfl rfl fun I w => ?_
  refine WP.seq ?_
  refine WP.region ?_
  refine WPl.l 2 3 rfl rfl rfl (o_boxg rfl) ?_
  refine WPl.v rfl (o_assign rfl) ?_
  refine WPl.v rfl (o_assign rfl) ?_
  refine WPl.nil ?_
  refine EX.then ?_
  refine WP.seq ?_
  refine WP.region ?_
  refine WPl.v rfl (o_ldpa G31 rfl rfl rfl) ?_
  refine WPl.mkmap true 12 3 4 rfl rfl rfl fun b9 => ?_
  refine WPl.v rfl (o_build B100 rfl ⟨rfl, trivial⟩ rfl rfl) ?_
  refine WPl.l 4 5 rfl rfl rfl (o_boxg rfl) ?_
  refine WPl.v rfl (o_assign rfl) ?_
  refine WPl.nil ?_
  refine EX.then ?_
  refine WP.seq ?_
  refine WP.seq ?_
  refine WP.region ?_
  refine WPl.v rfl (o_ldpa G31 rfl rfl rfl) ?_
  refine WPl.cs 5 rfl rfl rfl rfl (o_sig 5 (ren [(0, 0), (1, 1)]) (c21 f hl) e21 rfl rfl rfl w21 ⟨(lx rfl), (lx rfl), trivial⟩ r21) ?_
  refine WPl.v rfl (o_assign rfl) ?_
  refine WPl.nil ?_
  refine EX.then ?_
  refine WP.seq ?_
  refine WP.region ?_
  refine WPl.v rfl (o_move rfl) ?_
  refine WPl.v rfl (o_neq rfl rfl) ?_
  refine WPl.nil ?_
  refine EX.then ?_
  refine WP.cond rfl (fun hc1 => ?_) (fun hc1 => ?_)
  · try simp only [decide_eq_true_eq, decide_eq_false_iff_not, Bool.and_eq_true, Bool.or_eq_true, Bool.and_eq_false_iff, Bool.or_eq_false_iff, Bool.not_eq_true', Bool.not_eq_false', ne_eq, Decidable.not_not] at hc1
    refine WP.seq ?_
    refine WP.region ?_
    refine WPl.v rfl (o_move rfl) ?_
    refine WPl.v rfl (o_assign rfl) ?_
    refine WPl.v rfl (o_assign rfl) ?_
    refine WPl.nil ?_
    refine EX.then ?_
    refine WP.ret ?_
    refine EX.ret_then ?_
    rw [hch]
    exact EX.fin id (.inl rfl) rfl (.tmp rfl (.tmp rfl .nil)) rfl (by simp [SV.res, El.res, At.res, keys]) trivial (by simp) (by simp)
  · try simp only [decide_eq_true_eq, decide_eq_false_iff_not, Bool.and_eq_true, Bool.or_eq_true, Bool.and_eq_false_iff, Bool.or_eq_false_iff, Bool.not_eq_true', Bool.not_eq_false', ne_eq, Decidable.not_not] at hc1
    simp [hch] at hc1
theorem w76CE {f : Fnd} : ∀ x ∈ ([.e (.g [ai (f.shop.pounds), ai (f.shop.tl), ai (f.shop.th), ai (f.shop.al), ai (f.shop.ah), ai (f.shop.room), ai (f.shop.tpl), ai (f.shop.tph), ai (f.shop.apl), ai (f.shop.aph), .q 0, .q 1]), .e (.a (.q 2))] : List SV), x.res (keys (α := Pred) [(0, PL EPig (f.shop.pigs)), (1, PL ENight (f.nights)), (2, Pred.fn)]) := by simp [SV.res, El.res, At.res, keys]
theorem r76CE  : SV.res (keys (α := Pred) []) (.t [.a (.v (.pointer none)), .a (ai (130))]) := by simp [SV.res, El.res, At.res, keys]
set_option maxHeartbeats 4000000 in
theorem c76CE (f : Fnd) (hf : f.chk = false) (hl : f.shop.pigs.length ≤ 40) : Sig Try.prog 76 [.e (.g [ai (f.shop.pounds), ai (f.shop.tl), ai (f.shop.th), ai (f.shop.al), ai (f.shop.ah), ai (f.shop.room), ai (f.shop.tpl), ai (f.shop.tph), ai (f.shop.apl), ai (f.shop.aph), .q 0, .q 1]), .e (.a (.q 2))] [(0, PL EPig (f.shop.pigs)), (1, PL ENight (f.nights)), (2, Pred.fn)] (.t [.a (.v (.pointer none)), .a (ai (130))]) [] := by
  have hch : errW f.chk = 130 := by simp [hf, errW]
  refine Sig.intro Try.func76 rfl 3 [(0, .e (.g [ai (f.shop.pounds), ai (f.shop.tl), ai (f.shop.th), ai (f.shop.al), ai (f.shop.ah), ai (f.shop.room), ai (f.shop.tpl), ai (f.shop.tph), ai (f.shop.apl), ai (f.shop.aph), .q 0, .q 1])), (1, .e (.a (.q 2)))] rfl w76CE rfl rfl fun I w => ?_
  refine WP.seq ?_
  refine WP.region ?_
  refine WPl.l 3 4 rfl rfl rfl (o_boxg rfl) ?_
  refine WPl.v rfl (o_assign rfl) ?_
  refine WPl.v rfl (o_assign rfl) ?_
  refine WPl.nil ?_
  refine EX.then ?_
  refine WP.seq ?_
  refine WP.region ?_
  refine WPl.v rfl (o_ldpa G31 rfl rfl rfl) ?_
  refine WPl.mkmap true 12 4 5 rfl rfl rfl fun b9 => ?_
  refine WPl.v rfl (o_build B100 rfl ⟨rfl, trivial⟩ rfl rfl) ?_
  refine WPl.l 5 6 rfl rfl rfl (o_boxg rfl) ?_
  refine WPl.v rfl (o_assign rfl) ?_
  refine WPl.nil ?_
  refine EX.then ?_
  refine WP.seq ?_
  refine WP.seq ?_
  refine WP.region ?_
  refine WPl.v rfl (o_ldpa G31 rfl rfl rfl) ?_
  refine WPl.cs 6 rfl rfl rfl rfl (o_sig 6 (ren [(0, 0), (1, 1)]) (c21 f hl) e21 rfl rfl rfl w21 ⟨(lx rfl), (lx rfl), trivial⟩ r21) ?_
  refine WPl.v rfl (o_assign rfl) ?_
  refine WPl.nil ?_
  refine EX.then ?_
  refine WP.seq ?_
  refine WP.region ?_
  refine WPl.v rfl (o_move rfl) ?_
  refine WPl.v rfl (o_neq rfl rfl) ?_
  refine WPl.nil ?_
  refine EX.then ?_
  refine WP.cond rfl (fun hc1 => ?_) (fun hc1 => ?_)
  · try simp only [decide_eq_true_eq, decide_eq_false_iff_not, Bool.and_eq_true, Bool.or_eq_true, Bool.and_eq_false_iff, Bool.or_eq_false_iff, Bool.not_eq_true', Bool.not_eq_false', ne_eq, Decidable.not_not] at hc1
    refine WP.seq ?_
    refine WP.region ?_
    refine WPl.v rfl (o_move rfl) ?_
    refine WPl.v rfl (o_assign rfl) ?_
    refine WPl.v rfl (o_assign rfl) ?_
    refine WPl.nil ?_
    refine EX.then ?_
    refine WP.ret ?_
    refine EX.ret_then ?_
    rw [hch]
    exact EX.fin id (.inl rfl) rfl (.tmp rfl (.tmp rfl .nil)) rfl (by simp [SV.res, El.res, At.res, keys]) trivial (by simp) (by simp)
  · try simp only [decide_eq_true_eq, decide_eq_false_iff_not, Bool.and_eq_true, Bool.or_eq_true, Bool.and_eq_false_iff, Bool.or_eq_false_iff, Bool.not_eq_true', Bool.not_eq_false', ne_eq, Decidable.not_not] at hc1
    simp [hch] at hc1
theorem w76C {f : Fnd} {v : Bool} : ∀ x ∈ ([.e (.g [ai (f.shop.pounds), ai (f.shop.tl), ai (f.shop.th), ai (f.shop.al), ai (f.shop.ah), ai (f.shop.room), ai (f.shop.tpl), ai (f.shop.tph), ai (f.shop.apl), ai (f.shop.aph), .q 0, .q 1]), .e (.a (.q 2))] : List SV), x.res (keys (α := Pred) [(0, PL EPig (f.shop.pigs)), (1, PL ENight (f.nights)), (2, IsP f v)]) := by simp [SV.res, El.res, At.res, keys]
set_option maxHeartbeats 4000000 in
theorem c76C (f : Fnd) (v : Bool) (hf : f.chk = true) (hv : v = true) : SigM Try.prog 76 [.e (.g [ai (f.shop.pounds), ai (f.shop.tl), ai (f.shop.th), ai (f.shop.al), ai (f.shop.ah), ai (f.shop.room), ai (f.shop.tpl), ai (f.shop.tph), ai (f.shop.apl), ai (f.shop.aph), .q 0, .q 1]), .e (.a (.q 2))] [(0, PL EPig (f.shop.pigs)), (1, PL ENight (f.nights)), (2, IsP f v)] true 12 (.t [.a (.q 0), .a (ai (0))]) (fun b => [(0, PP (EWk (some b)) (f))]) := by
  have hch : errW f.chk = 0 := by simp [hf, errW]
  refine SigM.intro Try.func76 rfl 3 [(0, .e (.g [ai (f.shop.pounds), ai (f.shop.tl), ai (f.shop.th), ai (f.shop.al), ai (f.shop.ah), ai (f.shop.room), ai (f.shop.tpl), ai (f.shop.tph), ai (f.shop.apl), ai (f.shop.aph), .q 0, .q 1])), (1, .e (.a (.q 2)))] rfl w76C rfl rfl fun I w => ?_
  refine WP.seq ?_
  refine WP.region ?_
  refine WPl.l 3 4 rfl rfl rfl (o_boxg rfl) ?_
  refine WPl.v rfl (o_assign rfl) ?_
  refine WPl.v rfl (o_assign rfl) ?_
  refine WPl.nil ?_
  refine EX.then ?_
  refine WP.seq ?_
  refine WP.region ?_
  refine WPl.v rfl (o_ldpa G31 rfl rfl rfl) ?_
  refine WPl.mkmap true 12 4 5 rfl rfl rfl fun b9 => ?_
  refine WPl.v rfl (o_build B100 rfl ⟨rfl, trivial⟩ rfl rfl) ?_
  refine WPl.l 5 6 rfl rfl rfl (o_boxg rfl) ?_
  refine WPl.v rfl (o_assign rfl) ?_
  refine WPl.nil ?_
  refine EX.then ?_
  refine WP.seq ?_
  refine WP.seq ?_
  refine WP.region ?_
  refine WPl.v rfl (o_ldpa G31 rfl rfl rfl) ?_
  refine WPl.cs 6 rfl rfl rfl rfl (o_sig 6 (ren [(0, 0), (1, 1)]) (c21 f (by have := Fnd.chkB hf; omega)) e21 rfl rfl rfl w21 ⟨(lx rfl), (lx rfl), trivial⟩ r21) ?_
  refine WPl.v rfl (o_assign rfl) ?_
  refine WPl.nil ?_
  refine EX.then ?_
  refine WP.seq ?_
  refine WP.region ?_
  refine WPl.v rfl (o_move rfl) ?_
  refine WPl.v rfl (o_neq rfl rfl) ?_
  refine WPl.nil ?_
  refine EX.then ?_
  refine WP.cond rfl (fun hc1 => ?_) (fun hc1 => ?_)
  · try simp only [decide_eq_true_eq, decide_eq_false_iff_not, Bool.and_eq_true, Bool.or_eq_true, Bool.and_eq_false_iff, Bool.or_eq_false_iff, Bool.not_eq_true', Bool.not_eq_false', ne_eq, Decidable.not_not] at hc1
    simp [hch] at hc1
  · try simp only [decide_eq_true_eq, decide_eq_false_iff_not, Bool.and_eq_true, Bool.or_eq_true, Bool.and_eq_false_iff, Bool.or_eq_false_iff, Bool.not_eq_true', Bool.not_eq_false', ne_eq, Decidable.not_not] at hc1
    refine WP.skip ?_
    refine EX.then ?_
    refine WP.seq ?_
    refine WP.seq ?_
    refine WP.region ?_
    refine WPl.v rfl (o_move rfl) ?_
    refine WPl.v rfl (o_nefn Try.underlying101 rfl ((lx rfl).of FvP.fna)) ?_
    refine WPl.v rfl (o_move rfl) ?_
    refine WPl.on rfl ⟨_, _, rfl, rfl, rfl⟩ (o_move rfl) ?_
    refine WPl.on rfl ⟨_, _, rfl, rfl, rfl⟩ (o_move rfl) ?_
    refine WPl.imp (Imp.frzb (E := (EWk (some b9))) (y := f) 5 6 7 rfl rfl (bok_str ⟨rfl, rfl, rfl, rfl, rfl, rfl, rfl, rfl, rfl, rfl, ⟨_, rfl, (lx rfl)⟩, ⟨_, rfl, (lx rfl)⟩, .inl rfl, trivial⟩) rfl rfl rfl) ?_
    refine WPl.cL 8 rfl rfl rfl rfl ⟨_, _, rfl, rfl, rfl⟩ (o_callfv (svs := [.e (.a (.q 0))]) 7 (ren [(0, 6)]) rfl (Has.of (lx rfl) fun _ _ h => h ((some b9))) rfl rfl SvsOK.rf (by simp [SV.res, El.res, At.res, keys]) ⟨(lx rfl), trivial⟩ (by simp [SV.res, El.res, At.res, keys])) ?_
    refine WPl.on rfl ⟨_, _, rfl, rfl, rfl⟩ (o_not rfl) ?_
    refine WPl.v rfl (o_pickT rfl rfl) ?_
    refine WPl.nil ?_
    refine EX.then ?_
    refine WP.cond rfl (fun hc2 => ?_) (fun hc2 => ?_)
    · try simp only [decide_eq_true_eq, decide_eq_false_iff_not, Bool.and_eq_true, Bool.or_eq_true, Bool.and_eq_false_iff, Bool.or_eq_false_iff, Bool.not_eq_true', Bool.not_eq_false', ne_eq, Decidable.not_not] at hc2
      simp [hv] at hc2
    · try simp only [decide_eq_true_eq, decide_eq_false_iff_not, Bool.and_eq_true, Bool.or_eq_true, Bool.and_eq_false_iff, Bool.or_eq_false_iff, Bool.not_eq_true', Bool.not_eq_false', ne_eq, Decidable.not_not] at hc2
      refine WP.skip ?_
      refine EX.then ?_
      refine WP.seq ?_
      refine WP.region ?_
      refine WPl.v rfl (o_move rfl) ?_
      refine WPl.v rfl (o_assign rfl) ?_
      refine WPl.v rfl (o_assign rfl) ?_
      refine WPl.nil ?_
      refine EX.then ?_
      refine WP.ret ?_
      exact EX.finM (ren [(0, 6)]) 4 b9 rfl (.inl rfl) rfl (.tmp rfl (.tmp rfl .nil)) rfl (by simp [SV.res, El.res, At.res, keys]) ⟨(lx rfl), trivial⟩ rfl (by simp) (by simp)
theorem w76CF {f : Fnd} {v : Bool} : ∀ x ∈ ([.e (.g [ai (f.shop.pounds), ai (f.shop.tl), ai (f.shop.th), ai (f.shop.al), ai (f.shop.ah), ai (f.shop.room), ai (f.shop.tpl), ai (f.shop.tph), ai (f.shop.apl), ai (f.shop.aph), .q 0, .q 1]), .e (.a (.q 2))] : List SV), x.res (keys (α := Pred) [(0, PL EPig (f.shop.pigs)), (1, PL ENight (f.nights)), (2, IsP f v)]) := by simp [SV.res, El.res, At.res, keys]
theorem r76CF  : SV.res (keys (α := Pred) []) (.t [.a (.v (.pointer none)), .a (ai (1))]) := by simp [SV.res, El.res, At.res, keys]
set_option maxHeartbeats 4000000 in
theorem c76CF (f : Fnd) (v : Bool) (hf : f.chk = true) (hv : v = false) : Sig Try.prog 76 [.e (.g [ai (f.shop.pounds), ai (f.shop.tl), ai (f.shop.th), ai (f.shop.al), ai (f.shop.ah), ai (f.shop.room), ai (f.shop.tpl), ai (f.shop.tph), ai (f.shop.apl), ai (f.shop.aph), .q 0, .q 1]), .e (.a (.q 2))] [(0, PL EPig (f.shop.pigs)), (1, PL ENight (f.nights)), (2, IsP f v)] (.t [.a (.v (.pointer none)), .a (ai (1))]) [] := by
  have hch : errW f.chk = 0 := by simp [hf, errW]
  refine Sig.intro Try.func76 rfl 3 [(0, .e (.g [ai (f.shop.pounds), ai (f.shop.tl), ai (f.shop.th), ai (f.shop.al), ai (f.shop.ah), ai (f.shop.room), ai (f.shop.tpl), ai (f.shop.tph), ai (f.shop.apl), ai (f.shop.aph), .q 0, .q 1])), (1, .e (.a (.q 2)))] rfl w76CF rfl rfl fun I w => ?_
  refine WP.seq ?_
  refine WP.region ?_
  refine WPl.l 3 4 rfl rfl rfl (o_boxg rfl) ?_
  refine WPl.v rfl (o_assign rfl) ?_
  refine WPl.v rfl (o_assign rfl) ?_
  refine WPl.nil ?_
  refine EX.then ?_
  refine WP.seq ?_
  refine WP.region ?_
  refine WPl.v rfl (o_ldpa G31 rfl rfl rfl) ?_
  refine WPl.mkmap true 12 4 5 rfl rfl rfl fun b9 => ?_
  refine WPl.v rfl (o_build B100 rfl ⟨rfl, trivial⟩ rfl rfl) ?_
  refine WPl.l 5 6 rfl rfl rfl (o_boxg rfl) ?_
  refine WPl.v rfl (o_assign rfl) ?_
  refine WPl.nil ?_
  refine EX.then ?_
  refine WP.seq ?_
  refine WP.seq ?_
  refine WP.region ?_
  refine WPl.v rfl (o_ldpa G31 rfl rfl rfl) ?_
  refine WPl.cs 6 rfl rfl rfl rfl (o_sig 6 (ren [(0, 0), (1, 1)]) (c21 f (by have := Fnd.chkB hf; omega)) e21 rfl rfl rfl w21 ⟨(lx rfl), (lx rfl), trivial⟩ r21) ?_
  refine WPl.v rfl (o_assign rfl) ?_
  refine WPl.nil ?_
  refine EX.then ?_
  refine WP.seq ?_
  refine WP.region ?_
  refine WPl.v rfl (o_move rfl) ?_
  refine WPl.v rfl (o_neq rfl rfl) ?_
  refine WPl.nil ?_
  refine EX.then ?_
  refine WP.cond rfl (fun hc1 => ?_) (fun hc1 => ?_)
  · try simp only [decide_eq_true_eq, decide_eq_false_iff_not, Bool.and_eq_true, Bool.or_eq_true, Bool.and_eq_false_iff, Bool.or_eq_false_iff, Bool.not_eq_true', Bool.not_eq_false', ne_eq, Decidable.not_not] at hc1
    simp [hch] at hc1
  · try simp only [decide_eq_true_eq, decide_eq_false_iff_not, Bool.and_eq_true, Bool.or_eq_true, Bool.and_eq_false_iff, Bool.or_eq_false_iff, Bool.not_eq_true', Bool.not_eq_false', ne_eq, Decidable.not_not] at hc1
    refine WP.skip ?_
    refine EX.then ?_
    refine WP.seq ?_
    refine WP.seq ?_
    refine WP.region ?_
    refine WPl.v rfl (o_move rfl) ?_
    refine WPl.v rfl (o_nefn Try.underlying101 rfl ((lx rfl).of FvP.fna)) ?_
    refine WPl.v rfl (o_move rfl) ?_
    refine WPl.on rfl ⟨_, _, rfl, rfl, rfl⟩ (o_move rfl) ?_
    refine WPl.on rfl ⟨_, _, rfl, rfl, rfl⟩ (o_move rfl) ?_
    refine WPl.imp (Imp.frzb (E := (EWk (some b9))) (y := f) 5 6 7 rfl rfl (bok_str ⟨rfl, rfl, rfl, rfl, rfl, rfl, rfl, rfl, rfl, rfl, ⟨_, rfl, (lx rfl)⟩, ⟨_, rfl, (lx rfl)⟩, .inl rfl, trivial⟩) rfl rfl rfl) ?_
    refine WPl.cL 8 rfl rfl rfl rfl ⟨_, _, rfl, rfl, rfl⟩ (o_callfv (svs := [.e (.a (.q 0))]) 7 (ren [(0, 6)]) rfl (Has.of (lx rfl) fun _ _ h => h ((some b9))) rfl rfl SvsOK.rf (by simp [SV.res, El.res, At.res, keys]) ⟨(lx rfl), trivial⟩ (by simp [SV.res, El.res, At.res, keys])) ?_
    refine WPl.on rfl ⟨_, _, rfl, rfl, rfl⟩ (o_not rfl) ?_
    refine WPl.v rfl (o_pickT rfl rfl) ?_
    refine WPl.nil ?_
    refine EX.then ?_
    refine WP.cond rfl (fun hc2 => ?_) (fun hc2 => ?_)
    · try simp only [decide_eq_true_eq, decide_eq_false_iff_not, Bool.and_eq_true, Bool.or_eq_true, Bool.and_eq_false_iff, Bool.or_eq_false_iff, Bool.not_eq_true', Bool.not_eq_false', ne_eq, Decidable.not_not] at hc2
      refine WP.seq ?_
      refine WP.region ?_
      refine WPl.v rfl (o_assign rfl) ?_
      refine WPl.v rfl (o_assign rfl) ?_
      refine WPl.nil ?_
      refine EX.then ?_
      refine WP.ret ?_
      refine EX.ret_then ?_
      exact EX.fin id (.inl rfl) rfl (.tmp rfl (.tmp rfl .nil)) rfl r76CF trivial (by simp) (by simp)
    · try simp only [decide_eq_true_eq, decide_eq_false_iff_not, Bool.and_eq_true, Bool.or_eq_true, Bool.and_eq_false_iff, Bool.or_eq_false_iff, Bool.not_eq_true', Bool.not_eq_false', ne_eq, Decidable.not_not] at hc2
      simp [hv] at hc2
theorem w87 {f : Fnd} {r : Option Nat} {plan : List (List Int)} : ∀ x ∈ ([.e (.a (.q 0)), .e (.a (.q 1))] : List SV), x.res (keys (α := Pred) [(0, PP (EWk r) (f)), (1, PP (EP.box (PL (EP.sl EP.int) (plan))) ())]) := by simp [SV.res, El.res, At.res, keys]
theorem r87 {f : Fnd} {plan : List (List Int)} : SV.res (keys (α := Pred) []) (.b (f.wPlan plan)) := by simp [SV.res, El.res, At.res, keys]
set_option maxHeartbeats 4000000 in
theorem c87 (f : Fnd) (r : Option Nat) (plan : List (List Int)) (hf : f.chk = true) : Sig Try.prog 87 [.e (.a (.q 0)), .e (.a (.q 1))] [(0, PP (EWk r) (f)), (1, PP (EP.box (PL (EP.sl EP.int) (plan))) ())] (.b (f.wPlan plan)) [] := by
  refine Sig.intro Try.func87 rfl 2 [(0, .e (.a (.q 0))), (1, .e (.a (.q 1)))] rfl w87 rfl rfl fun I w => ?_
  refine WP.seq ?_
  refine WP.region ?_
  refine WPl.v rfl (o_assign rfl) ?_
  refine WPl.nil ?_
  refine EX.then ?_
  refine WP.seq ?_
  refine WP.region ?_
  refine WPl.v rfl (o_move rfl) ?_
  refine WPl.x 2 3 rfl rfl rfl (o_ldqx S32 rfl (lx rfl) boxx) ?_
  refine WPl.cs 3 rfl rfl rfl rfl (o_sig 3 (ren [(0, 0), (1, 2)]) (c78 f r plan hf) e78 rfl rfl rfl w78 ⟨(lx rfl), (lx rfl), trivial⟩ r78) ?_
  refine WPl.v rfl (o_assign rfl) ?_
  refine WPl.nil ?_
  refine EX.then ?_
  refine WP.ret ?_
  exact EX.fin id (.inl rfl) rfl (.tmp rfl .nil) rfl r87 trivial (by simp) (by simp)
theorem w93 {f : Fnd} {r : Option Nat} {plan : List (List Int)} : ∀ x ∈ ([.e (.a (.q 0)), .e (.a (.q 1))] : List SV), x.res (keys (α := Pred) [(0, PP (EWk r) (f)), (1, PP (EP.box (PL (EP.sl EP.int) (plan))) ())]) := by simp [SV.res, El.res, At.res, keys]
theorem r93 {f : Fnd} {plan : List (List Int)} : SV.res (keys (α := Pred) []) (.b (f.wPlan plan)) := by simp [SV.res, El.res, At.res, keys]
set_option maxHeartbeats 4000000 in
theorem c93 (f : Fnd) (r : Option Nat) (plan : List (List Int)) (hf : f.chk = true) : Sig Try.prog 93 [.e (.a (.q 0)), .e (.a (.q 1))] [(0, PP (EWk r) (f)), (1, PP (EP.box (PL (EP.sl EP.int) (plan))) ())] (.b (f.wPlan plan)) [] := by
  refine Sig.intro Try.func93 rfl 2 [(0, .e (.a (.q 0))), (1, .e (.a (.q 1)))] rfl w93 rfl rfl fun I w => ?_
  refine WP.seq ?_
  refine WP.region ?_
  refine WPl.v rfl (o_assign rfl) ?_
  refine WPl.nil ?_
  refine EX.then ?_
  refine WP.seq ?_
  refine WP.region ?_
  refine WPl.v rfl (o_move rfl) ?_
  refine WPl.x 2 3 rfl rfl rfl (o_ldqx S32 rfl (lx rfl) boxx) ?_
  refine WPl.cs 3 rfl rfl rfl rfl (o_sig 3 (ren [(0, 0), (1, 2)]) (c78 f r plan hf) e78 rfl rfl rfl w78 ⟨(lx rfl), (lx rfl), trivial⟩ r78) ?_
  refine WPl.v rfl (o_assign rfl) ?_
  refine WPl.nil ?_
  refine EX.then ?_
  refine WP.ret ?_
  exact EX.fin id (.inl rfl) rfl (.tmp rfl .nil) rfl r93 trivial (by simp) (by simp)
theorem w136 {lo hi n low high : Int} : ∀ x ∈ ([.e (.g [ai (lo), ai (hi)]), .i (n), .i (low), .i (high)] : List SV), x.res (keys (α := Pred) []) := by simp [SV.res, El.res, At.res, keys]
theorem r136 {lo hi n low high : Int} : SV.res (keys (α := Pred) []) (.e (.g [ai (cutL lo hi n low), ai (cutH (cutL lo hi n low) hi n high)])) := by simp [SV.res, El.res, At.res, keys]
set_option maxHeartbeats 4000000 in
theorem c136 (lo hi n low high : Int) (h1 : SB lo hi 100000) (h2 : SB n n 100000000) : Sig Try.prog 136 [.e (.g [ai (lo), ai (hi)]), .i (n), .i (low), .i (high)] [] (.e (.g [ai (cutL lo hi n low), ai (cutH (cutL lo hi n low) hi n high)])) [] := by
  unfold SB at h1 h2
  refine Sig.intro Try.func136 rfl 0 [(0, .e (.g [ai (lo), ai (hi)])), (1, .i (n)), (2, .i (low)), (3, .i (high))] rfl w136 rfl rfl fun I w => ?_
  refine WP.seq ?_
  refine WP.region ?_
  refine WPl.l 0 1 rfl rfl rfl (o_boxg rfl) ?_
  refine WPl.l 1 2 rfl rfl rfl (o_alloc Z23) ?_
  refine WPl.nil ?_
  refine EX.then ?_
  refine WP.seq ?_
  refine WP.block ?_
  refine WP.loop (Gh := Nat) (fun i => ⟨2, [(1, .i (n)), (2, .i (low)), (3, .i (high)), (4, .e (.a (.p 0 (0)))), (8, .e (.a (.p 1 (0))))], [], [(0, .blk [ai (lo + (i : Int)), ai (hi)] 23), (1, .blk [ai (0), ai (0)] 23)], [], []⟩) (fun i => i ≤ (hi - lo + 1).toNat ∧ cutL lo hi n low = cutLK hi n low ((hi - lo + 1).toNat - i) (lo + (i : Int))) (fun i => (hi - lo + 1).toNat - i) (0) id ?_ (LeR.of ⟨rfl, rfl, rfl, rfl, rfl, trivial⟩ trivial ⟨(congrArg (fun z => some (Ent.blk z 23)) (List.cons_eq_cons.2 ⟨(congrArg (fun z => ai z) (show (lo) = ((fun i => lo + (i : Int)) 0) from by simp)), (List.cons_eq_cons.2 ⟨(Eq.refl (ai (hi))), (Eq.refl [])⟩)⟩)), rfl, trivial⟩ rfl rfl rfl rfl rfl) ?_
  · exact ⟨by omega, by simp [cutL]⟩
  intro i hφ
  obtain ⟨hi1, hi2⟩ := hφ
  refine WP.seq ?_
  refine WP.seq ?_
  refine WP.region ?_
  refine WPl.v rfl (o_fldp F23_0 rfl) ?_
  refine WPl.v rfl (o_ldp S3 rfl rfl rfl) ?_
  refine WPl.v rfl (o_fldp F23_1 rfl) ?_
  refine WPl.v rfl (o_ldp S3 rfl rfl rfl) ?_
  refine WPl.v rfl (o_leq rfl rfl) ?_
  refine WPl.v rfl (o_move rfl) ?_
  refine WPl.bit 2 3 (decide ((lo + (i : Int)) ≤ hi)) rfl rfl ?_
  refine WPl.gv 2 rfl rfl (.plain rfl Iff.rfl rfl) (fun hb => o_fldp F23_0 rfl) ?_
  refine WPl.gv 2 rfl rfl (.plain rfl Iff.rfl rfl) (fun hb => o_ldp S3 rfl rfl rfl) ?_
  refine WPl.gv 2 rfl rfl (.plain rfl Iff.rfl rfl) (fun hb => o_move rfl) ?_
  refine WPl.gv 2 rfl rfl (.plain rfl Iff.rfl rfl) (fun hb => o_add rfl rfl (by first | omega | (simp; omega)) (by first | omega | (simp; omega))) ?_
  refine WPl.gv 2 rfl rfl (.plain rfl Iff.rfl rfl) (fun hb => o_mul rfl rfl (by first | omega | (simp; omega)) (by first | omega | (simp; omega))) ?_
  refine WPl.gv 2 rfl rfl (.plain rfl Iff.rfl rfl) (fun hb => o_move rfl) ?_
  refine WPl.gv 2 rfl rfl (.plain rfl Iff.rfl rfl) (fun hb => o_lss rfl rfl) ?_
  refine WPl.v rfl (o_and rfl rfl rfl id) ?_
  refine WPl.nil ?_
  refine EX.then ?_
  refine WP.cond rfl (fun hc1 => ?_) (fun hc1 => ?_)
  · try simp only [decide_eq_true_eq, decide_eq_false_iff_not, Bool.and_eq_true, Bool.or_eq_true, Bool.and_eq_false_iff, Bool.or_eq_false_iff, Bool.not_eq_true', Bool.not_eq_false', ne_eq, Decidable.not_not] at hc1
    refine WP.skip ?_
    refine EX.then ?_
    refine WP.block ?_
    refine WP.region ?_
    refine WPl.v rfl (o_fldp F23_0 rfl) ?_
    refine WPl.v rfl (o_ldp S3 rfl rfl rfl) ?_
    refine WPl.v rfl (o_add rfl rfl (by first | omega | (simp; omega)) (by first | omega | (simp; omega))) ?_
    refine WPl.v rfl (o_fldp F23_0 rfl) ?_
    refine WPl.s1 (o_sta S3 rfl rfl rfl rfl rfl) ?_
    refine WPl.nil ?_
    refine EX.blk ?_
    refine EX.again (i + 1) id (by exact ⟨by omega, by rw [hi2, show (hi - lo + 1).toNat - i = ((hi - lo + 1).toNat - (i + 1)) + 1 by omega, cutLK, if_pos (by omega)]; congr 1; omega⟩) (by omega) (LeR.of ⟨rfl, rfl, rfl, rfl, rfl, trivial⟩ trivial ⟨(congrArg (fun z => some (Ent.blk z 23)) (List.cons_eq_cons.2 ⟨(congrArg (fun z => ai z) (show ((lo + (i : Int)) + 1) = ((fun i => lo + (i : Int)) (i + 1)) from by show lo + (i : Int) + 1 = lo + ((i + 1 : Nat) : Int); omega)), (List.cons_eq_cons.2 ⟨(Eq.refl (ai (hi))), (Eq.refl [])⟩)⟩)), rfl, trivial⟩ rfl rfl rfl rfl rfl)
  · try simp only [decide_eq_true_eq, decide_eq_false_iff_not, Bool.and_eq_true, Bool.or_eq_true, Bool.and_eq_false_iff, Bool.or_eq_false_iff, Bool.not_eq_true', Bool.not_eq_false', ne_eq, Decidable.not_not] at hc1
    have hL : cutL lo hi n low = lo + (i : Int) := by rw [hi2]; exact cutLK_stop (by omega) _
    refine WP.exit ?_
    refine EX.exit_then ?_
    refine EX.exit_then ?_
    refine EX.exit_blk ?_
    refine EX.then ?_
    refine WP.seq ?_
    refine WP.block ?_
    refine WP.loop (Gh := Nat) (fun j => ⟨3, [(1, .i (n)), (3, .i (high)), (4, .e (.a (.p 0 (0)))), (8, .e (.a (.p 1 (0))))], [], [(0, .blk [ai (lo + (i : Int)), ai (hi - (j : Int))] 23), (1, .blk [ai (0), ai (0)] 23)], [], []⟩) (fun j => j ≤ (hi - (lo + (i : Int)) + 1).toNat ∧ cutH (lo + (i : Int)) hi n high = cutHK (lo + (i : Int)) n high ((hi - (lo + (i : Int)) + 1).toNat - j) (hi - (j : Int))) (fun j => (hi - (lo + (i : Int)) + 1).toNat - j) (0) id ?_ (LeR.of ⟨rfl, rfl, rfl, rfl, trivial⟩ trivial ⟨(congrArg (fun z => some (Ent.blk z 23)) (List.cons_eq_cons.2 ⟨(Eq.refl (ai (lo + (i : Int)))), (List.cons_eq_cons.2 ⟨(congrArg (fun z => ai z) (show (hi) = ((fun j => hi - (j : Int)) 0) from by simp)), (Eq.refl [])⟩)⟩)), rfl, trivial⟩ rfl rfl rfl rfl rfl) ?_
    · exact ⟨by omega, by simp [cutH]⟩
    intro j hφ
    obtain ⟨hj1, hj2⟩ := hφ
    refine WP.seq ?_
    refine WP.seq ?_
    refine WP.region ?_
    refine WPl.v rfl (o_fldp F23_0 rfl) ?_
    refine WPl.v rfl (o_ldp S3 rfl rfl rfl) ?_
    refine WPl.v rfl (o_fldp F23_1 rfl) ?_
    refine WPl.v rfl (o_ldp S3 rfl rfl rfl) ?_
    refine WPl.v rfl (o_leq rfl rfl) ?_
    refine WPl.v rfl (o_move rfl) ?_
    refine WPl.bit 3 4 (decide ((lo + (i : Int)) ≤ (hi - (j : Int)))) rfl rfl ?_
    refine WPl.gv 3 rfl rfl (.plain rfl Iff.rfl rfl) (fun hb => o_fldp F23_1 rfl) ?_
    refine WPl.gv 3 rfl rfl (.plain rfl Iff.rfl rfl) (fun hb => o_ldp S3 rfl rfl rfl) ?_
    refine WPl.gv 3 rfl rfl (.plain rfl Iff.rfl rfl) (fun hb => o_move rfl) ?_
    refine WPl.gv 3 rfl rfl (.plain rfl Iff.rfl rfl) (fun hb => o_add rfl rfl (by first | omega | (simp; omega)) (by first | omega | (simp; omega))) ?_
    refine WPl.gv 3 rfl rfl (.plain rfl Iff.rfl rfl) (fun hb => o_mul rfl rfl (by first | omega | (simp; omega)) (by first | omega | (simp; omega))) ?_
    refine WPl.gv 3 rfl rfl (.plain rfl Iff.rfl rfl) (fun hb => o_move rfl) ?_
    refine WPl.gv 3 rfl rfl (.plain rfl Iff.rfl rfl) (fun hb => o_gtr rfl rfl) ?_
    refine WPl.v rfl (o_and rfl rfl rfl id) ?_
    refine WPl.nil ?_
    refine EX.then ?_
    refine WP.cond rfl (fun hc2 => ?_) (fun hc2 => ?_)
    · try simp only [decide_eq_true_eq, decide_eq_false_iff_not, Bool.and_eq_true, Bool.or_eq_true, Bool.and_eq_false_iff, Bool.or_eq_false_iff, Bool.not_eq_true', Bool.not_eq_false', ne_eq, Decidable.not_not] at hc2
      refine WP.skip ?_
      refine EX.then ?_
      refine WP.block ?_
      refine WP.region ?_
      refine WPl.v rfl (o_fldp F23_1 rfl) ?_
      refine WPl.v rfl (o_ldp S3 rfl rfl rfl) ?_
      refine WPl.v rfl (o_sub rfl rfl (by first | omega | (simp; omega)) (by first | omega | (simp; omega))) ?_
      refine WPl.v rfl (o_fldp F23_1 rfl) ?_
      refine WPl.s1 (o_sta S3 rfl rfl rfl rfl rfl) ?_
      refine WPl.nil ?_
      refine EX.blk ?_
      refine EX.again (j + 1) id (by exact ⟨by omega, by rw [hj2, show (hi - (lo + (i : Int)) + 1).toNat - j = ((hi - (lo + (i : Int)) + 1).toNat - (j + 1)) + 1 by omega, cutHK, if_pos (by omega)]; congr 1; omega⟩) (by omega) (LeR.of ⟨rfl, rfl, rfl, rfl, trivial⟩ trivial ⟨(congrArg (fun z => some (Ent.blk z 23)) (List.cons_eq_cons.2 ⟨(Eq.refl (ai (lo + (i : Int)))), (List.cons_eq_cons.2 ⟨(congrArg (fun z => ai z) (show ((hi - (j : Int)) - 1) = ((fun j => hi - (j : Int)) (j + 1)) from by show hi - (j : Int) - 1 = hi - ((j + 1 : Nat) : Int); omega)), (Eq.refl [])⟩)⟩)), rfl, trivial⟩ rfl rfl rfl rfl rfl)
    · try simp only [decide_eq_true_eq, decide_eq_false_iff_not, Bool.and_eq_true, Bool.or_eq_true, Bool.and_eq_false_iff, Bool.or_eq_false_iff, Bool.not_eq_true', Bool.not_eq_false', ne_eq, Decidable.not_not] at hc2
      have hH : cutH (lo + (i : Int)) hi n high = hi - (j : Int) := by rw [hj2]; exact cutHK_stop (by omega) _
      refine WP.exit ?_
      refine EX.exit_then ?_
      refine EX.exit_then ?_
      refine EX.exit_blk ?_
      refine EX.then ?_
      refine WP.seq ?_
      refine WP.region ?_
      refine WPl.v rfl (o_ldpa G23 rfl rfl rfl) ?_
      refine WPl.s1 (o_stag G23 rfl rfl rfl ⟨rfl, rfl, trivial⟩ rfl rfl) ?_
      refine WPl.nil ?_
      refine EX.then ?_
      refine WP.ret ?_
      rw [hL, hH]
      exact EX.fin id (.inl rfl) rfl (.cellg G23 rfl rfl rfl (.nil)) rfl (by simp [SV.res, El.res, At.res, keys]) trivial (by simp) (by simp)
theorem w90 {f : Fnd} {r : Option Nat} {plan : List (List Int)} {night : Int} {tl th al ah : Int} {gone : Pt} : ∀ x ∈ ([.e (.a (.q 0)), .e (.a (.q 1)), .i (night), .e (.g [ai (tl), ai (th)]), .e (.g [ai (al), ai (ah)]), .e (.g [ai (gone.pounds), ai (gone.tl), ai (gone.th), ai (gone.al), ai (gone.ah), ai (gone.dl), ai (gone.dh)])] : List SV), x.res (keys (α := Pred) [(0, PP (EWk r) (f)), (1, PL (EP.sl EP.int) (plan))]) := by simp [SV.res, El.res, At.res, keys]
theorem r90 {f : Fnd} {plan : List (List Int)} {night : Int} {n : Nat} {tl th al ah : Int} {gone : Pt} : SV.res (keys (α := Pred) []) (.b (f.canP plan n night tl th al ah gone)) := by simp [SV.res, El.res, At.res, keys]
set_option maxHeartbeats 4000000 in
theorem c90 (f : Fnd) (r : Option Nat) (plan : List (List Int)) (night : Int) (n : Nat) (tl th al ah : Int) (gone : Pt) (hf : f.chk = true) (hp : PlanB f plan) (hnt : night + n = f.nights.length) (hn0 : 0 ≤ night) (hg : PtB gone (1000 + 400018 * night)) (ht : SB tl th (1000 + 2 * night)) (ha : SB al ah (1000 + 2 * night)) : Sig Try.prog 90 [.e (.a (.q 0)), .e (.a (.q 1)), .i (night), .e (.g [ai (tl), ai (th)]), .e (.g [ai (al), ai (ah)]), .e (.g [ai (gone.pounds), ai (gone.tl), ai (gone.th), ai (gone.al), ai (gone.ah), ai (gone.dl), ai (gone.dh)])] [(0, PP (EWk r) (f)), (1, PL (EP.sl EP.int) (plan))] (.b (f.canP plan n night tl th al ah gone)) [] := by
  have hpg := Shop.pigsOK (Fnd.shopOK hf)
  have hn := Fnd.nightsOK hf
  have hn4 := hn.2
  have htb := tl_bnd (Fnd.shopOK hf)
  have hpl := hp.1
  refine Sig.intro Try.func90 rfl 2 [(0, .e (.a (.q 0))), (1, .e (.a (.q 1))), (2, .i (night)), (3, .e (.g [ai (tl), ai (th)])), (4, .e (.g [ai (al), ai (ah)])), (5, .e (.g [ai (gone.pounds), ai (gone.tl), ai (gone.th), ai (gone.al), ai (gone.ah), ai (gone.dl), ai (gone.dh)]))] rfl w90 rfl rfl fun I w => ?_
  refine WP.seq ?_
  refine WP.region ?_
  refine WPl.l 2 3 rfl rfl rfl (o_boxg rfl) ?_
  refine WPl.l 3 4 rfl rfl rfl (o_boxg rfl) ?_
  refine WPl.l 4 5 rfl rfl rfl (o_boxg rfl) ?_
  refine WPl.v rfl (o_assign rfl) ?_
  refine WPl.nil ?_
  refine EX.then ?_
  refine WP.seq ?_
  refine WP.seq ?_
  refine WP.region ?_
  refine WPl.v rfl (o_fldp F23_0 rfl) ?_
  refine WPl.v rfl (o_ldp S3 rfl rfl rfl) ?_
  refine WPl.v rfl (o_fldp F23_1 rfl) ?_
  refine WPl.v rfl (o_ldp S3 rfl rfl rfl) ?_
  refine WPl.v rfl (o_gtr rfl rfl) ?_
  refine WPl.v rfl (o_move rfl) ?_
  refine WPl.bit 5 6 (!(decide (th < tl))) rfl rfl ?_
  refine WPl.gv 5 rfl rfl (.plain rfl (by simp) rfl) (fun hb => o_fldp F23_0 rfl) ?_
  refine WPl.gv 5 rfl rfl (.plain rfl (by simp) rfl) (fun hb => o_ldp S3 rfl rfl rfl) ?_
  refine WPl.gv 5 rfl rfl (.plain rfl (by simp) rfl) (fun hb => o_fldp F23_1 rfl) ?_
  refine WPl.gv 5 rfl rfl (.plain rfl (by simp) rfl) (fun hb => o_ldp S3 rfl rfl rfl) ?_
  refine WPl.gv 5 rfl rfl (.plain rfl (by simp) rfl) (fun hb => o_gtr rfl rfl) ?_
  refine WPl.v rfl (o_or rfl rfl rfl (by first | (simp; done) | simp_all)) ?_
  refine WPl.nil ?_
  refine EX.then ?_
  refine WP.cond rfl (fun hc1 => ?_) (fun hc1 => ?_)
  · try simp only [decide_eq_true_eq, decide_eq_false_iff_not, Bool.and_eq_true, Bool.or_eq_true, Bool.and_eq_false_iff, Bool.or_eq_false_iff, Bool.not_eq_true', Bool.not_eq_false', ne_eq, Decidable.not_not] at hc1
    refine WP.seq ?_
    refine WP.region ?_
    refine WPl.v rfl (o_assign rfl) ?_
    refine WPl.nil ?_
    refine EX.then ?_
    refine WP.ret ?_
    refine EX.ret_then ?_
    rw [show f.canP plan n night tl th al ah gone = false from by have hs1 : (decide (th < tl) || decide (ah < al)) = true := (by simpa using hc1); cases n <;> simp only [Fnd.canP, hs1] <;> rfl]
    exact EX.fin id (.inl rfl) rfl (.tmp rfl .nil) rfl (by simp [SV.res, El.res, At.res, keys]) trivial (by simp) (by simp)
  · try simp only [decide_eq_true_eq, decide_eq_false_iff_not, Bool.and_eq_true, Bool.or_eq_true, Bool.and_eq_false_iff, Bool.or_eq_false_iff, Bool.not_eq_true', Bool.not_eq_false', ne_eq, Decidable.not_not] at hc1
    have hs1 : (decide (th < tl) || decide (ah < al)) = false := by simpa using hc1
    refine WP.skip ?_
    refine EX.then ?_
    refine WP.seq ?_
    refine WP.seq ?_
    refine WP.region ?_
    refine WPl.v rfl (o_move rfl) ?_
    refine WPl.v rfl (o_move rfl) ?_
    refine WPl.v rfl (o_nilq rfl (lx rfl)) ?_
    refine WPl.v rfl (o_fldq F100_0 rfl (lx rfl)) ?_
    refine WPl.v rfl (o_flde F31_1 rfl (lx rfl)) ?_
    refine WPl.x 6 7 rfl rfl rfl (o_ldex S29 rfl (lx rfl) (strS rfl)) ?_
    refine WPl.v rfl (o_lenq L29 rfl (lx rfl)) ?_
    refine WPl.v rfl (o_eql rfl rfl) ?_
    refine WPl.nil ?_
    refine EX.then ?_
    refine WP.cond rfl (fun hc2 => ?_) (fun hc2 => ?_)
    · try simp only [decide_eq_true_eq, decide_eq_false_iff_not, Bool.and_eq_true, Bool.or_eq_true, Bool.and_eq_false_iff, Bool.or_eq_false_iff, Bool.not_eq_true', Bool.not_eq_false', ne_eq, Decidable.not_not] at hc2
      obtain rfl : n = 0 := by omega
      refine WP.seq ?_
      refine WP.region ?_
      refine WPl.v rfl (o_assign rfl) ?_
      refine WPl.nil ?_
      refine EX.then ?_
      refine WP.ret ?_
      refine EX.ret_then ?_
      rw [show f.canP plan 0 night tl th al ah gone = true from by simp only [Fnd.canP, hs1]; rfl]
      exact EX.fin id (.inl rfl) rfl (.tmp rfl .nil) rfl (by simp [SV.res, El.res, At.res, keys]) trivial (by simp) (by simp)
    · try simp only [decide_eq_true_eq, decide_eq_false_iff_not, Bool.and_eq_true, Bool.or_eq_true, Bool.and_eq_false_iff, Bool.or_eq_false_iff, Bool.not_eq_true', Bool.not_eq_false', ne_eq, Decidable.not_not] at hc2
      obtain ⟨k, rfl⟩ : ∃ k, n = k + 1 := ⟨n - 1, by omega⟩
      have hrow := hp.2 night.toNat (by omega)
      rw [show ((night.toNat : Nat) : Int) = night by omega] at hrow
      have hnb := Night.bnds (hn.at (show night.toNat < f.nights.length by omega))
      rw [show ((night.toNat : Nat) : Int) = night by omega] at hnb
      have hgb : PtB (gone.addL f.shop.pigs (nth plan night)) (1000 + 400018 * night + 400000) := addTo_bnd hg hpg (by rw [hrow.1]; exact Nat.le_refl _) (bnd_mono hrow.2 (by omega)) (Nat.le_refl _)
      have hgb0 := hgb
      unfold PtB at hgb0
      have m0 := mulB (a := (gone.addL f.shop.pigs (nth plan night)).pounds) (A := 100000000) (b := f.shop.tpl) (B := 1000) (by omega) (by omega) (by omega) (by omega) (by omega)
      have m1 := mulB (a := (gone.addL f.shop.pigs (nth plan night)).pounds) (A := 100000000) (b := f.shop.tph) (B := 1000) (by omega) (by omega) (by omega) (by omega) (by omega)
      have m2 := mulB (a := (gone.addL f.shop.pigs (nth plan night)).pounds) (A := 100000000) (b := f.shop.apl) (B := 1000) (by omega) (by omega) (by omega) (by omega) (by omega)
      have m3 := mulB (a := (gone.addL f.shop.pigs (nth plan night)).pounds) (A := 100000000) (b := f.shop.aph) (B := 1000) (by omega) (by omega) (by omega) (by omega) (by omega)
      have ht2 := cut_SB (n := (gone.addL f.shop.pigs (nth plan night)).tl) (low := (gone.addL f.shop.pigs (nth plan night)).pounds * f.shop.tpl) (high := (gone.addL f.shop.pigs (nth plan night)).pounds * f.shop.tph) ht
      have ha2 := cut_SB (n := (gone.addL f.shop.pigs (nth plan night)).al) (low := (gone.addL f.shop.pigs (nth plan night)).pounds * f.shop.apl) (high := (gone.addL f.shop.pigs (nth plan night)).pounds * f.shop.aph) ha
      refine WP.skip ?_
      refine EX.then ?_
      refine WP.seq ?_
      refine WP.draw (nf := 9) [⟨[37, 38, 39, 40, 41], [7, 8], [], [], []⟩, ⟨[36, 38, 39, 40, 41], [7, 8], [], [], []⟩, ⟨[36, 37, 39], [], [], [], []⟩, ⟨[36, 37, 38], [], [], [], []⟩, ⟨[36, 37], [], [7], [7], [2, 3]⟩, ⟨[36, 37], [], [8], [8], [2, 3, 4]⟩, ⟨[], [], [], [], [0, 1, 2, 3, 4, 5]⟩, ⟨[], [], [], [4], [0, 1, 2, 3, 4, 5, 6]⟩] (by kernel_rfl) (by kernel_rfl) ?_
      refine DRQ.v rfl rfl rfl (o_move rfl) ?_
      refine DRQ.v rfl rfl rfl (o_ldpa G105 rfl rfl rfl) ?_
      refine DRQ.v rfl rfl rfl (o_move rfl) ?_
      refine DRQ.v rfl rfl rfl (o_move rfl) ?_
      refine DRQ.x 7 rfl rfl rfl rfl (o_idx L32 rfl (lx rfl) rfl (by first | omega | (simp; omega)) (by first | omega | (simp; omega))) ?_
      refine DRQ.x 8 rfl rfl rfl rfl (o_ldqx S44 rfl (lx rfl) slx) ?_
      refine DRQ.cs rfl rfl rfl rfl (o_sig 9 (ren [(0, 0), (1, 8)]) (c129 f r gone (nth plan night) (1000 + 400018 * night) hg (by omega) hpg (by rw [hrow.1]; exact Nat.le_refl _) (bnd_mono hrow.2 (by omega))) e129 rfl rfl rfl w129 ⟨(lx rfl), (lx rfl), trivial⟩ r129) ?_
      refine DRQ.s 4 rfl rfl rfl (o_stag G105 rfl rfl rfl ⟨rfl, rfl, rfl, rfl, rfl, rfl, rfl, trivial⟩ rfl rfl) ?_
      refine DRQ.nil' ?_
      refine EX.then ?_
      refine WP.seq ?_
      refine WP.region ?_
      refine WPl.v rfl (o_fldp F105_0 rfl) ?_
      refine WPl.v rfl (o_ldp S3 rfl rfl rfl) ?_
      refine WPl.v rfl (o_assign rfl) ?_
      refine WPl.nil ?_
      refine EX.then ?_
      refine WP.seq ?_
      refine WP.draw (nf := 9) [⟨[46, 47, 48, 49, 50, 51, 52, 53, 54, 55, 56, 57, 58, 59, 60, 61, 62, 63, 64, 65, 66], [], [], [], []⟩, ⟨[45, 49, 50, 51, 52, 53, 54, 55, 56, 57, 58, 59, 60, 61, 62, 63, 64, 65, 66], [], [], [], []⟩, ⟨[45, 49, 50, 51, 52, 53, 54, 55, 56, 57, 58, 59, 60, 61, 62, 63, 64, 65, 66], [], [], [], [1]⟩, ⟨[45, 49, 50, 51, 52, 53, 54, 55, 56, 57, 58, 59, 60, 61, 62, 63, 64, 65, 66], [], [], [], [1, 2]⟩, ⟨[45, 46, 47, 48, 50, 51, 52, 53, 54, 55, 56, 58, 59, 60, 61, 62, 63, 64, 65, 66], [], [], [], []⟩, ⟨[45, 46, 47, 48, 49, 58, 59, 60, 61, 62, 63, 64, 65, 66], [], [], [], []⟩, ⟨[45, 46, 47, 48, 49, 58, 59, 60, 61, 62, 63, 64, 65, 66], [], [], [], [5]⟩, ⟨[45, 46, 47, 48, 49, 58, 59, 60, 61, 62, 63, 64, 65, 66], [], [], [], [5, 6]⟩, ⟨[45, 46, 47, 48, 49, 58, 59, 60, 61, 62, 63, 64, 65, 66], [], [], [], [5, 6, 7]⟩, ⟨[45, 46, 47, 48, 49, 58, 59, 60, 61, 62, 63, 64, 65, 66], [], [], [], [5, 6, 7, 8]⟩, ⟨[45, 46, 47, 48, 49, 58, 59, 60, 61, 62, 63, 64, 65, 66], [], [], [], [5, 6, 7, 8, 9]⟩, ⟨[45, 46, 47, 48, 49, 58, 59, 60, 61, 62, 63, 64, 65, 66], [], [], [], [5, 6, 7, 8, 9, 10]⟩, ⟨[45, 46, 47, 48, 58, 59, 60, 61, 62, 63, 64, 65, 66], [], [], [], [4, 5, 6, 7, 8, 9, 10, 11]⟩, ⟨[45, 46, 47, 48, 49, 50, 51, 52, 53, 54, 55, 56, 57, 59, 60, 61, 62, 63, 64, 65], [], [], [], []⟩, ⟨[45, 46, 47, 48, 49, 50, 51, 52, 53, 54, 55, 56, 57, 58], [], [], [], []⟩, ⟨[45, 46, 47, 48, 49, 50, 51, 52, 53, 54, 55, 56, 57, 58], [], [], [], [14]⟩, ⟨[45, 46, 47, 48, 49, 50, 51, 52, 53, 54, 55, 56, 57, 58], [], [], [], [14, 15]⟩, ⟨[45, 46, 47, 48, 49, 50, 51, 52, 53, 54, 55, 56, 57, 58], [], [], [], [14, 15, 16]⟩, ⟨[45, 46, 47, 48, 49, 50, 51, 52, 53, 54, 55, 56, 57, 58], [], [], [], [14, 15, 16, 17]⟩, ⟨[45, 46, 47, 48, 49, 50, 51, 52, 53, 54, 55, 56, 57, 58], [], [], [], [14, 15, 16, 17, 18]⟩, ⟨[45, 46, 47, 48, 49, 50, 51, 52, 53, 54, 55, 56, 57, 58], [], [], [], [14, 15, 16, 17, 18, 19]⟩, ⟨[45, 46, 47, 48, 49, 50, 51, 52, 53, 54, 55, 56, 57], [], [], [], [13, 14, 15, 16, 17, 18, 19, 20]⟩, ⟨[], [], [], [], [0, 1, 2, 3, 4, 5, 6, 7, 8, 9, 10, 11, 12, 13, 14, 15, 16, 17, 18, 19, 20, 21]⟩, ⟨[], [], [], [2], [0, 1, 2, 3, 4, 5, 6, 7, 8, 9, 10, 11, 12, 13, 14, 15, 16, 17, 18, 19, 20, 21, 22]⟩] (by kernel_rfl) (by kernel_rfl) ?_
      refine DRQ.v rfl rfl rfl (o_ldpa G23 rfl rfl rfl) ?_
      refine DRQ.v rfl rfl rfl (o_fldp F105_1 rfl) ?_
      refine DRQ.v rfl rfl rfl (o_fldp F23_0 rfl) ?_
      refine DRQ.v rfl rfl rfl (o_ldp S3 rfl rfl rfl) ?_
      refine DRQ.v rfl rfl rfl (o_move rfl) ?_
      refine DRQ.v rfl rfl rfl (o_move rfl) ?_
      refine DRQ.v rfl rfl rfl (o_nilq rfl (lx rfl)) ?_
      refine DRQ.v rfl rfl rfl (o_fldq F100_0 rfl (lx rfl)) ?_
      refine DRQ.v rfl rfl rfl (o_flde F31_0 rfl (lx rfl)) ?_
      refine DRQ.v rfl rfl rfl (o_flde F28_2 rfl (lx rfl)) ?_
      refine DRQ.v rfl rfl rfl (o_flde F23_0 rfl (lx rfl)) ?_
      refine DRQ.v rfl rfl rfl (o_lde S3 rfl (lx rfl) (strI rfl)) ?_
      refine DRQ.v rfl rfl rfl (o_mul rfl rfl (by first | omega | (simp; omega)) (by first | omega | (simp; omega))) ?_
      refine DRQ.v rfl rfl rfl (o_move rfl) ?_
      refine DRQ.v rfl rfl rfl (o_move rfl) ?_
      refine DRQ.v rfl rfl rfl (o_nilq rfl (lx rfl)) ?_
      refine DRQ.v rfl rfl rfl (o_fldq F100_0 rfl (lx rfl)) ?_
      refine DRQ.v rfl rfl rfl (o_flde F31_0 rfl (lx rfl)) ?_
      refine DRQ.v rfl rfl rfl (o_flde F28_2 rfl (lx rfl)) ?_
      refine DRQ.v rfl rfl rfl (o_flde F23_1 rfl (lx rfl)) ?_
      refine DRQ.v rfl rfl rfl (o_lde S3 rfl (lx rfl) (strI rfl)) ?_
      refine DRQ.v rfl rfl rfl (o_mul rfl rfl (by first | omega | (simp; omega)) (by first | omega | (simp; omega))) ?_
      refine DRQ.cs rfl rfl rfl rfl (o_sig 9 id (c136 tl th ((gone.addL f.shop.pigs (nth plan night)).tl) (((gone.addL f.shop.pigs (nth plan night)).pounds) * f.shop.tpl) (((gone.addL f.shop.pigs (nth plan night)).pounds) * f.shop.tph) (by unfold SB at *; omega) (by unfold SB; omega)) e136 rfl rfl rfl w136 trivial r136) ?_
      refine DRQ.s 2 rfl rfl rfl (o_stag G23 rfl rfl rfl ⟨rfl, rfl, trivial⟩ rfl rfl) ?_
      refine DRQ.nil' ?_
      refine EX.then ?_
      refine WP.seq ?_
      refine WP.draw (nf := 9) [⟨[69, 70, 71, 72, 73, 74, 75, 76, 77, 78, 79, 80, 81, 82, 83, 84, 85, 86, 87, 88, 89], [], [], [], []⟩, ⟨[68, 72, 73, 74, 75, 76, 77, 78, 79, 80, 81, 82, 83, 84, 85, 86, 87, 88, 89], [], [], [], []⟩, ⟨[68, 72, 73, 74, 75, 76, 77, 78, 79, 80, 81, 82, 83, 84, 85, 86, 87, 88, 89], [], [], [], [1]⟩, ⟨[68, 72, 73, 74, 75, 76, 77, 78, 79, 80, 81, 82, 83, 84, 85, 86, 87, 88, 89], [], [], [], [1, 2]⟩, ⟨[68, 69, 70, 71, 73, 74, 75, 76, 77, 78, 79, 81, 82, 83, 84, 85, 86, 87, 88, 89], [], [], [], []⟩, ⟨[68, 69, 70, 71, 72, 81, 82, 83, 84, 85, 86, 87, 88, 89], [], [], [], []⟩, ⟨[68, 69, 70, 71, 72, 81, 82, 83, 84, 85, 86, 87, 88, 89], [], [], [], [5]⟩, ⟨[68, 69, 70, 71, 72, 81, 82, 83, 84, 85, 86, 87, 88, 89], [], [], [], [5, 6]⟩, ⟨[68, 69, 70, 71, 72, 81, 82, 83, 84, 85, 86, 87, 88, 89], [], [], [], [5, 6, 7]⟩, ⟨[68, 69, 70, 71, 72, 81, 82, 83, 84, 85, 86, 87, 88, 89], [], [], [], [5, 6, 7, 8]⟩, ⟨[68, 69, 70, 71, 72, 81, 82, 83, 84, 85, 86, 87, 88, 89], [], [], [], [5, 6, 7, 8, 9]⟩, ⟨[68, 69, 70, 71, 72, 81, 82, 83, 84, 85, 86, 87, 88, 89], [], [], [], [5, 6, 7, 8, 9, 10]⟩, ⟨[68, 69, 70, 71, 81, 82, 83, 84, 85, 86, 87, 88, 89], [], [], [], [4, 5, 6, 7, 8, 9, 10, 11]⟩, ⟨[68, 69, 70, 71, 72, 73, 74, 75, 76, 77, 78, 79, 80, 82, 83, 84, 85, 86, 87, 88], [], [], [], []⟩, ⟨[68, 69, 70, 71, 72, 73, 74, 75, 76, 77, 78, 79, 80, 81], [], [], [], []⟩, ⟨[68, 69, 70, 71, 72, 73, 74, 75, 76, 77, 78, 79, 80, 81], [], [], [], [14]⟩, ⟨[68, 69, 70, 71, 72, 73, 74, 75, 76, 77, 78, 79, 80, 81], [], [], [], [14, 15]⟩, ⟨[68, 69, 70, 71, 72, 73, 74, 75, 76, 77, 78, 79, 80, 81], [], [], [], [14, 15, 16]⟩, ⟨[68, 69, 70, 71, 72, 73, 74, 75, 76, 77, 78, 79, 80, 81], [], [], [], [14, 15, 16, 17]⟩, ⟨[68, 69, 70, 71, 72, 73, 74, 75, 76, 77, 78, 79, 80, 81], [], [], [], [14, 15, 16, 17, 18]⟩, ⟨[68, 69, 70, 71, 72, 73, 74, 75, 76, 77, 78, 79, 80, 81], [], [], [], [14, 15, 16, 17, 18, 19]⟩, ⟨[68, 69, 70, 71, 72, 73, 74, 75, 76, 77, 78, 79, 80], [], [], [], [13, 14, 15, 16, 17, 18, 19, 20]⟩, ⟨[], [], [], [], [0, 1, 2, 3, 4, 5, 6, 7, 8, 9, 10, 11, 12, 13, 14, 15, 16, 17, 18, 19, 20, 21]⟩, ⟨[], [], [], [3], [0, 1, 2, 3, 4, 5, 6, 7, 8, 9, 10, 11, 12, 13, 14, 15, 16, 17, 18, 19, 20, 21, 22]⟩] (by kernel_rfl) (by kernel_rfl) ?_
      refine DRQ.v rfl rfl rfl (o_ldpa G23 rfl rfl rfl) ?_
      refine DRQ.v rfl rfl rfl (o_fldp F105_2 rfl) ?_
      refine DRQ.v rfl rfl rfl (o_fldp F23_0 rfl) ?_
      refine DRQ.v rfl rfl rfl (o_ldp S3 rfl rfl rfl) ?_
      refine DRQ.v rfl rfl rfl (o_move rfl) ?_
      refine DRQ.v rfl rfl rfl (o_move rfl) ?_
      refine DRQ.v rfl rfl rfl (o_nilq rfl (lx rfl)) ?_
      refine DRQ.v rfl rfl rfl (o_fldq F100_0 rfl (lx rfl)) ?_
      refine DRQ.v rfl rfl rfl (o_flde F31_0 rfl (lx rfl)) ?_
      refine DRQ.v rfl rfl rfl (o_flde F28_3 rfl (lx rfl)) ?_
      refine DRQ.v rfl rfl rfl (o_flde F23_0 rfl (lx rfl)) ?_
      refine DRQ.v rfl rfl rfl (o_lde S3 rfl (lx rfl) (strI rfl)) ?_
      refine DRQ.v rfl rfl rfl (o_mul rfl rfl (by first | omega | (simp; omega)) (by first | omega | (simp; omega))) ?_
      refine DRQ.v rfl rfl rfl (o_move rfl) ?_
      refine DRQ.v rfl rfl rfl (o_move rfl) ?_
      refine DRQ.v rfl rfl rfl (o_nilq rfl (lx rfl)) ?_
      refine DRQ.v rfl rfl rfl (o_fldq F100_0 rfl (lx rfl)) ?_
      refine DRQ.v rfl rfl rfl (o_flde F31_0 rfl (lx rfl)) ?_
      refine DRQ.v rfl rfl rfl (o_flde F28_3 rfl (lx rfl)) ?_
      refine DRQ.v rfl rfl rfl (o_flde F23_1 rfl (lx rfl)) ?_
      refine DRQ.v rfl rfl rfl (o_lde S3 rfl (lx rfl) (strI rfl)) ?_
      refine DRQ.v rfl rfl rfl (o_mul rfl rfl (by first | omega | (simp; omega)) (by first | omega | (simp; omega))) ?_
      refine DRQ.cs rfl rfl rfl rfl (o_sig 9 id (c136 al ah ((gone.addL f.shop.pigs (nth plan night)).al) (((gone.addL f.shop.pigs (nth plan night)).pounds) * f.shop.apl) (((gone.addL f.shop.pigs (nth plan night)).pounds) * f.shop.aph) (by unfold SB at *; omega) (by unfold SB; omega)) e136 rfl rfl rfl w136 trivial r136) ?_
      refine DRQ.s 3 rfl rfl rfl (o_stag G23 rfl rfl rfl ⟨rfl, rfl, trivial⟩ rfl rfl) ?_
      refine DRQ.nil' ?_
      refine EX.then ?_
      refine WP.seq ?_
      refine WP.seq ?_
      refine WP.region ?_
      refine WPl.v rfl (o_move rfl) ?_
      refine WPl.v rfl (o_nilq rfl (lx rfl)) ?_
      refine WPl.v rfl (o_fldq F100_0 rfl (lx rfl)) ?_
      refine WPl.v rfl (o_flde F31_1 rfl (lx rfl)) ?_
      refine WPl.x 9 10 rfl rfl rfl (o_ldex S29 rfl (lx rfl) (strS rfl)) ?_
      refine WPl.v rfl (o_move rfl) ?_
      refine WPl.x 10 11 rfl rfl rfl (o_idx L29 rfl (lx rfl) rfl (by first | omega | (simp; omega)) (by first | omega | (simp; omega))) ?_
      refine WPl.v rfl (o_fldq F75_0 rfl (lx rfl)) ?_
      refine WPl.v rfl (o_flde F23_0 rfl (lx rfl)) ?_
      refine WPl.v rfl (o_lde S3 rfl (lx rfl) (strI rfl)) ?_
      refine WPl.v rfl (o_assign rfl) ?_
      refine WPl.nil ?_
      refine EX.then ?_
      refine WP.block ?_
      refine WP.loop (Gh := Nat) (fun i => ⟨11, [(0, .e (.a (.q 0))), (1, .e (.a (.q 1))), (2, .i (night)), (9, .e (.a (.p 2 (0)))), (10, .e (.a (.p 3 (0)))), (11, .e (.a (.p 4 (0)))), (12, .b (false)), (14, .i ((nth f.nights night).lo + (i : Int)))], [(0, PP (EWk r) (f)), (1, PL (EP.sl EP.int) (plan))], [(2, .blk [ai (cutL tl th ((gone.addL f.shop.pigs (nth plan night)).tl) (((gone.addL f.shop.pigs (nth plan night)).pounds) * f.shop.tpl)), ai (cutH (cutL tl th ((gone.addL f.shop.pigs (nth plan night)).tl) (((gone.addL f.shop.pigs (nth plan night)).pounds) * f.shop.tpl)) th ((gone.addL f.shop.pigs (nth plan night)).tl) (((gone.addL f.shop.pigs (nth plan night)).pounds) * f.shop.tph))] 23), (3, .blk [ai (cutL al ah ((gone.addL f.shop.pigs (nth plan night)).al) (((gone.addL f.shop.pigs (nth plan night)).pounds) * f.shop.apl)), ai (cutH (cutL al ah ((gone.addL f.shop.pigs (nth plan night)).al) (((gone.addL f.shop.pigs (nth plan night)).pounds) * f.shop.apl)) ah ((gone.addL f.shop.pigs (nth plan night)).al) (((gone.addL f.shop.pigs (nth plan night)).pounds) * f.shop.aph))] 23), (4, .blk [ai ((gone.addL f.shop.pigs (nth plan night)).pounds), ai ((gone.addL f.shop.pigs (nth plan night)).tl), ai ((gone.addL f.shop.pigs (nth plan night)).th), ai ((gone.addL f.shop.pigs (nth plan night)).al), ai ((gone.addL f.shop.pigs (nth plan night)).ah), ai ((gone.addL f.shop.pigs (nth plan night)).dl), ai ((gone.addL f.shop.pigs (nth plan night)).dh)] 105)], [], []⟩) (fun i => i ≤ ((nth f.nights night).hi - (nth f.nights night).lo + 1).toNat ∧ allI (fun i => !f.canP plan k (night + 1) (cutL tl th (gone.addL f.shop.pigs (nth plan night)).tl ((gone.addL f.shop.pigs (nth plan night)).pounds * f.shop.tpl)) (cutH (cutL tl th (gone.addL f.shop.pigs (nth plan night)).tl ((gone.addL f.shop.pigs (nth plan night)).pounds * f.shop.tpl)) th (gone.addL f.shop.pigs (nth plan night)).tl ((gone.addL f.shop.pigs (nth plan night)).pounds * f.shop.tph)) (cutL al ah (gone.addL f.shop.pigs (nth plan night)).al ((gone.addL f.shop.pigs (nth plan night)).pounds * f.shop.apl)) (cutH (cutL al ah (gone.addL f.shop.pigs (nth plan night)).al ((gone.addL f.shop.pigs (nth plan night)).pounds * f.shop.apl)) ah (gone.addL f.shop.pigs (nth plan night)).al ((gone.addL f.shop.pigs (nth plan night)).pounds * f.shop.aph)) ((gone.addL f.shop.pigs (nth plan night)).drop ((nth f.nights night).lo + (i : Int)))) i = true) (fun i => ((nth f.nights night).hi - (nth f.nights night).lo + 1).toNat - i) (0) id ?_ (LeR.of ⟨rfl, rfl, rfl, rfl, rfl, rfl, rfl, (congrArg (fun z => some (SV.i z)) (show ((nth f.nights night).lo) = ((fun i => (nth f.nights night).lo + (i : Int)) 0) from by simp)), trivial⟩ ⟨(lx rfl), (lx rfl), trivial⟩ ⟨rfl, rfl, rfl, trivial⟩ rfl rfl rfl rfl rfl) ?_
      · exact ⟨by omega, rfl⟩
      intro i hφ
      obtain ⟨hi1, hi2⟩ := hφ
      refine WP.seq ?_
      refine WP.seq ?_
      refine WP.region ?_
      refine WPl.v rfl (o_move rfl) ?_
      refine WPl.v rfl (o_move rfl) ?_
      refine WPl.v rfl (o_nilq rfl (lx rfl)) ?_
      refine WPl.v rfl (o_fldq F100_0 rfl (lx rfl)) ?_
      refine WPl.v rfl (o_flde F31_1 rfl (lx rfl)) ?_
      refine WPl.x 11 12 rfl rfl rfl (o_ldex S29 rfl (lx rfl) (strS rfl)) ?_
      refine WPl.v rfl (o_move rfl) ?_
      refine WPl.x 12 13 rfl rfl rfl (o_idx L29 rfl (lx rfl) rfl (by first | omega | (simp; omega)) (by first | omega | (simp; omega))) ?_
      refine WPl.v rfl (o_fldq F75_0 rfl (lx rfl)) ?_
      refine WPl.v rfl (o_flde F23_1 rfl (lx rfl)) ?_
      refine WPl.v rfl (o_lde S3 rfl (lx rfl) (strI rfl)) ?_
      refine WPl.v rfl (o_leq rfl rfl) ?_
      refine WPl.nil ?_
      refine EX.then ?_
      refine WP.cond rfl (fun hc3 => ?_) (fun hc3 => ?_)
      · try simp only [decide_eq_true_eq, decide_eq_false_iff_not, Bool.and_eq_true, Bool.or_eq_true, Bool.and_eq_false_iff, Bool.or_eq_false_iff, Bool.not_eq_true', Bool.not_eq_false', ne_eq, Decidable.not_not] at hc3
        refine WP.skip ?_
        refine EX.then ?_
        refine WP.seq ?_
        refine WP.block ?_
        refine WP.seq ?_
        refine WP.region ?_
        refine WPl.v rfl (o_ldpa G105 rfl rfl rfl) ?_
        refine WPl.l 13 14 rfl rfl rfl (o_alloc Z105) ?_
        refine WPl.s1 (o_stag G105 rfl rfl rfl ⟨rfl, rfl, rfl, rfl, rfl, rfl, rfl, trivial⟩ rfl rfl) ?_
        refine WPl.nil ?_
        refine EX.then ?_
        refine WP.seq ?_
        refine WP.region ?_
        refine WPl.v rfl (o_fldp F105_0 rfl) ?_
        refine WPl.v rfl (o_ldp S3 rfl rfl rfl) ?_
        refine WPl.v rfl (o_move rfl) ?_
        refine WPl.v rfl (o_sub rfl rfl (by first | omega | (simp; omega)) (by first | omega | (simp; omega))) ?_
        refine WPl.v rfl (o_fldp F105_0 rfl) ?_
        refine WPl.s1 (o_sta S3 rfl rfl rfl rfl rfl) ?_
        refine WPl.nil ?_
        refine EX.then ?_
        refine WP.seq ?_
        refine WP.region ?_
        refine WPl.v rfl (o_fldp F105_1 rfl) ?_
        refine WPl.v rfl (o_ldpg G23 rfl rfl rfl) ?_
        refine WPl.v rfl (o_move rfl) ?_
        refine WPl.v rfl (o_neg rfl (by first | omega | (simp; omega)) (by first | omega | (simp; omega))) ?_
        refine WPl.cs 14 rfl rfl rfl rfl (o_sig 14 id (c137 ((gone.addL f.shop.pigs (nth plan night)).tl) ((gone.addL f.shop.pigs (nth plan night)).th) (-((nth f.nights night).lo + (i : Int))) (by omega) (by omega) (by omega)) e137 rfl rfl rfl w137 trivial r137) ?_
        refine WPl.v rfl (o_fldp F105_1 rfl) ?_
        refine WPl.s1 (o_stag G23 rfl rfl rfl ⟨rfl, rfl, trivial⟩ rfl rfl) ?_
        refine WPl.nil ?_
        refine EX.then ?_
        refine WP.seq ?_
        refine WP.region ?_
        refine WPl.v rfl (o_move rfl) ?_
        refine WPl.v rfl (o_move rfl) ?_
        refine WPl.v rfl (o_move rfl) ?_
        refine WPl.v rfl (o_add rfl rfl (by first | omega | (simp; omega)) (by first | omega | (simp; omega))) ?_
        refine WPl.v rfl (o_ldpa G23 rfl rfl rfl) ?_
        refine WPl.v rfl (o_ldpa G23 rfl rfl rfl) ?_
        refine WPl.v rfl (o_ldpa G105 rfl rfl rfl) ?_
        refine WPl.cs 14 rfl rfl rfl rfl (o_sig 14 (ren [(0, 0), (1, 1)]) (c90 f r plan (night + 1) k (cutL tl th ((gone.addL f.shop.pigs (nth plan night)).tl) (((gone.addL f.shop.pigs (nth plan night)).pounds) * f.shop.tpl)) (cutH (cutL tl th ((gone.addL f.shop.pigs (nth plan night)).tl) (((gone.addL f.shop.pigs (nth plan night)).pounds) * f.shop.tpl)) th ((gone.addL f.shop.pigs (nth plan night)).tl) (((gone.addL f.shop.pigs (nth plan night)).pounds) * f.shop.tph)) (cutL al ah ((gone.addL f.shop.pigs (nth plan night)).al) (((gone.addL f.shop.pigs (nth plan night)).pounds) * f.shop.apl)) (cutH (cutL al ah ((gone.addL f.shop.pigs (nth plan night)).al) (((gone.addL f.shop.pigs (nth plan night)).pounds) * f.shop.apl)) ah ((gone.addL f.shop.pigs (nth plan night)).al) (((gone.addL f.shop.pigs (nth plan night)).pounds) * f.shop.aph)) ((gone.addL f.shop.pigs (nth plan night)).drop ((nth f.nights night).lo + (i : Int))) hf hp (by omega) (by omega) (by unfold PtB Pt.drop; simp only []; omega) (by unfold SB at *; omega) (by unfold SB at *; omega)) e90 rfl rfl rfl w90 ⟨(lx rfl), (lx rfl), trivial⟩ r90) ?_
        refine WPl.nil ?_
        refine EX.then ?_
        refine WP.cond rfl (fun hc4 => ?_) (fun hc4 => ?_)
        · try simp only [decide_eq_true_eq, decide_eq_false_iff_not, Bool.and_eq_true, Bool.or_eq_true, Bool.and_eq_false_iff, Bool.or_eq_false_iff, Bool.not_eq_true', Bool.not_eq_false', ne_eq, Decidable.not_not] at hc4
          refine WP.seq ?_
          refine WP.region ?_
          refine WPl.v rfl (o_assign rfl) ?_
          refine WPl.nil ?_
          refine EX.then ?_
          refine WP.ret ?_
          refine EX.ret_blk ?_
          refine EX.ret_then ?_
          refine EX.ret_then ?_
          refine EX.ret_blk ?_
          refine EX.ret_then ?_
          rw [show f.canP plan (k + 1) night tl th al ah gone = true from by simp only [Fnd.canP, hs1]; rw [not_allI (show i < ((nth f.nights night).hi - (nth f.nights night).lo + 1).toNat by omega) (by simpa using hc4)]; rfl]
          exact EX.fin id (.inl rfl) rfl (.tmp rfl .nil) rfl (by simp [SV.res, El.res, At.res, keys]) trivial (by simp) (by simp)
        · try simp only [decide_eq_true_eq, decide_eq_false_iff_not, Bool.and_eq_true, Bool.or_eq_true, Bool.and_eq_false_iff, Bool.or_eq_false_iff, Bool.not_eq_true', Bool.not_eq_false', ne_eq, Decidable.not_not] at hc4
          refine WP.skip ?_
          refine EX.blk ?_
          refine EX.then ?_
          refine WP.region ?_
          refine WPl.v rfl (o_move rfl) ?_
          refine WPl.v rfl (o_add rfl rfl (by first | omega | (simp; omega)) (by first | omega | (simp; omega))) ?_
          refine WPl.v rfl (o_assign rfl) ?_
          refine WPl.nil ?_
          refine EX.again (i + 1) id (by exact ⟨by omega, by simp only [allI, hi2, Bool.true_and]; simpa using hc4⟩) (by omega) (LeR.of ⟨rfl, rfl, rfl, rfl, rfl, rfl, rfl, (congrArg (fun z => some (SV.i z)) (show (((nth f.nights night).lo + (i : Int)) + 1) = ((fun i => (nth f.nights night).lo + (i : Int)) (i + 1)) from by show (nth f.nights night).lo + (i : Int) + 1 = (nth f.nights night).lo + ((i + 1 : Nat) : Int); omega)), trivial⟩ ⟨(lx rfl), (lx rfl), trivial⟩ ⟨rfl, rfl, rfl, trivial⟩ rfl rfl rfl rfl rfl)
      · try simp only [decide_eq_true_eq, decide_eq_false_iff_not, Bool.and_eq_true, Bool.or_eq_true, Bool.and_eq_false_iff, Bool.or_eq_false_iff, Bool.not_eq_true', Bool.not_eq_false', ne_eq, Decidable.not_not] at hc3
        refine WP.exit ?_
        refine EX.exit_then ?_
        refine EX.exit_then ?_
        refine EX.exit_blk ?_
        refine EX.then ?_
        refine WP.seq ?_
        refine WP.region ?_
        refine WPl.v rfl (o_assign rfl) ?_
        refine WPl.nil ?_
        refine EX.then ?_
        refine WP.ret ?_
        have he : i = ((nth f.nights night).hi - (nth f.nights night).lo + 1).toNat := by omega
        subst he
        rw [show f.canP plan (k + 1) night tl th al ah gone = false from by simp only [Fnd.canP, hs1]; rw [hi2]; rfl]
        exact EX.fin id (.inl rfl) rfl (.tmp rfl .nil) rfl (by simp [SV.res, El.res, At.res, keys]) trivial (by simp) (by simp)
termination_by n
decreasing_by all_goals omega
end Go.Flong
