/- Walks (printed by gen.py off the specs). -/
import Derived.Test.YtglbnodjcngefaaAW2
import Derived.Test.YtglbnodjcngefaaProg
set_option linter.unusedSimpArgs false
set_option linter.unusedVariables false
namespace Go.Flong
open Go Go.Eng Go.Proofs
theorem e17 : Enters' Try.prog 17 := Try.call17
theorem G75 : TyG Try.prog 75 3 := ⟨Try.isAgg75, Try.sizeOf75⟩
theorem Z75 : Zero Try.prog 75 [ai (0), ai (0), ai (0)] := .mk Try.zeroValue75 rfl rfl
theorem e54 : Enters' Try.prog 54 := Try.call54
theorem w70O {s : Shop} : ∀ x ∈ ([.e (.g [ai (s.pounds), ai (s.tl), ai (s.th), ai (s.al), ai (s.ah), ai (s.room), ai (s.tpl), ai (s.tph), ai (s.apl), ai (s.aph), .q 0])] : List SV), x.res (keys (α := Pred) [(0, PL EPig (s.pigs))]) := by simp [SV.res, El.res, At.res, keys]
theorem r70O {s : Shop} : SV.res (keys (α := Pred) [(0, Pred.top)]) (.e (.g [ai (s.pounds), ai (s.tl), ai (s.th), ai (s.al), ai (s.ah), ai (s.room), ai (s.tpl), ai (s.tph), ai (s.apl), ai (s.aph), .q 0])) := by simp [SV.res, El.res, At.res, keys]
set_option maxHeartbeats 4000000 in
theorem c70O (s : Shop) (hl : s.pigs.length ≤ 40) : SigO Try.prog 70 [.e (.g [ai (s.pounds), ai (s.tl), ai (s.th), ai (s.al), ai (s.ah), ai (s.room), ai (s.tpl), ai (s.tph), ai (s.apl), ai (s.aph), .q 0])] [(0, PL EPig (s.pigs))] (.e (.g [ai (s.pounds), ai (s.tl), ai (s.th), ai (s.al), ai (s.ah), ai (s.room), ai (s.tpl), ai (s.tph), ai (s.apl), ai (s.aph), .q 0])) [(0, Pred.top)] [(0, .own 78 EPig.size ([] ++ s.pigs).length (RP EPig ([] ++ s.pigs)))] := by
  refine SigO.intro Try.func70 rfl 1 [(0, .e (.g [ai (s.pounds), ai (s.tl), ai (s.th), ai (s.al), ai (s.ah), ai (s.room), ai (s.tpl), ai (s.tph), ai (s.apl), ai (s.aph), .q 0]))] rfl w70O rfl rfl fun I w => ?_
  refine WP.seq ?_
  refine WP.region ?_
  refine WPl.l 1 2 rfl rfl rfl (o_boxg rfl) ?_
  refine WPl.l 2 3 rfl rfl rfl (o_alloc Z28) ?_
  refine WPl.nil ?_
  refine EX.then ?_
  refine WP.seq ?_
  refine WP.region ?_
  refine WPl.v rfl (o_ldpa G28 rfl rfl rfl) ?_
  refine WPl.l 3 4 rfl rfl rfl (o_alloc Z28) ?_
  refine WPl.s1 (o_stag G28 rfl rfl rfl ⟨rfl, rfl, rfl, rfl, rfl, rfl, rfl, rfl, rfl, rfl, (.inl ⟨_, (lx rfl), PL.one⟩), trivial⟩ rfl rfl) ?_
  refine WPl.nil ?_
  refine EX.then ?_
  refine WP.seq ?_
  refine WP.region ?_
  refine WPl.l 4 5 rfl rfl rfl (o_bsl (E := EPig) (l := []) R26 rfl rfl (.nil) rfl rfl) ?_
  refine WPl.v rfl (o_fldp F28_4 rfl) ?_
  refine WPl.v rfl (o_ldp S26 rfl rfl rfl) ?_
  refine WPl.u1 (k := 5) (m := 6) rfl rfl rfl (o_apps R26 EP.str_one rfl rfl rfl (lx rfl) (by first | omega | (simp; omega) | (simp at *; omega)) (by first | omega | (simp; omega) | (simp at *; omega))) ?_
  refine WPl.v rfl (o_fldp F28_4 rfl) ?_
  refine WPl.s1 (o_sta S26 rfl rfl rfl (.inr ⟨_, _, _, _, rfl⟩) rfl) ?_
  refine WPl.nil ?_
  refine EX.then ?_
  refine WP.seq ?_
  refine WP.region ?_
  refine WPl.v rfl (o_ldpa G28 rfl rfl rfl) ?_
  refine WPl.s1 (o_stag G28 rfl rfl rfl ⟨rfl, rfl, rfl, rfl, rfl, rfl, rfl, rfl, rfl, rfl, (.inr ⟨_, _, _, _, rfl⟩), trivial⟩ rfl rfl) ?_
  refine WPl.nil ?_
  refine EX.then ?_
  refine WP.ret ?_
  refine EX.imp (Imp.topX 5 rfl) ?_
  exact EX.finO (ren [(0, 5)]) rfl (.inl rfl) rfl (.cellg G28 rfl rfl rfl (.nil)) rfl r70O ⟨lx rfl, trivial⟩ ⟨rfl, trivial⟩ rfl rfl (by simp) (by simp)
theorem w17O {f : Fnd} : ∀ x ∈ ([.e (.g [ai (f.shop.pounds), ai (f.shop.tl), ai (f.shop.th), ai (f.shop.al), ai (f.shop.ah), ai (f.shop.room), ai (f.shop.tpl), ai (f.shop.tph), ai (f.shop.apl), ai (f.shop.aph), .q 0, .q 1])] : List SV), x.res (keys (α := Pred) [(0, PL EPig (f.shop.pigs)), (1, PL ENight (f.nights))]) := by simp [SV.res, El.res, At.res, keys]
theorem r17O {f : Fnd} : SV.res (keys (α := Pred) [(0, Pred.top), (1, Pred.top)]) (.e (.g [ai (f.shop.pounds), ai (f.shop.tl), ai (f.shop.th), ai (f.shop.al), ai (f.shop.ah), ai (f.shop.room), ai (f.shop.tpl), ai (f.shop.tph), ai (f.shop.apl), ai (f.shop.aph), .q 0, .q 1])) := by simp [SV.res, El.res, At.res, keys]
set_option maxHeartbeats 4000000 in
theorem c17O (f : Fnd) (hl : f.shop.pigs.length ≤ 40) (hn : f.nights.length ≤ 40) : SigO Try.prog 17 [.e (.g [ai (f.shop.pounds), ai (f.shop.tl), ai (f.shop.th), ai (f.shop.al), ai (f.shop.ah), ai (f.shop.room), ai (f.shop.tpl), ai (f.shop.tph), ai (f.shop.apl), ai (f.shop.aph), .q 0, .q 1])] [(0, PL EPig (f.shop.pigs)), (1, PL ENight (f.nights))] (.e (.g [ai (f.shop.pounds), ai (f.shop.tl), ai (f.shop.th), ai (f.shop.al), ai (f.shop.ah), ai (f.shop.room), ai (f.shop.tpl), ai (f.shop.tph), ai (f.shop.apl), ai (f.shop.aph), .q 0, .q 1])) [(0, Pred.top), (1, Pred.top)] [(0, .own 78 EPig.size ([] ++ f.shop.pigs).length (RP EPig ([] ++ f.shop.pigs))), (1, .own 75 ENight.size ([] ++ f.nights).length (RP ENight ([] ++ f.nights)))] := by
  refine SigO.intro Try.func17 rfl 2 [(0, .e (.g [ai (f.shop.pounds), ai (f.shop.tl), ai (f.shop.th), ai (f.shop.al), ai (f.shop.ah), ai (f.shop.room), ai (f.shop.tpl), ai (f.shop.tph), ai (f.shop.apl), ai (f.shop.aph), .q 0, .q 1]))] rfl w17O rfl rfl fun I w => ?_
  refine WP.seq ?_
  refine WP.region ?_
  refine WPl.l 2 3 rfl rfl rfl (o_boxg rfl) ?_
  refine WPl.l 3 4 rfl rfl rfl (o_alloc Z31) ?_
  refine WPl.nil ?_
  refine EX.then ?_
  refine WP.seq ?_
  refine WP.draw (nf := 7) [⟨[6, 7, 8], [5], [], [], []⟩, ⟨[6, 7, 8], [5], [], [], [0]⟩, ⟨[6, 7, 8], [5], [4], [4, 4], [0, 1]⟩, ⟨[3, 4, 5, 7, 8], [4], [5], [5], []⟩, ⟨[3, 4, 5, 6], [4, 5], [], [], []⟩, ⟨[3, 4, 5, 6], [4, 5], [], [], [4]⟩, ⟨[], [], [6], [6, 5], [0, 1, 2, 3, 4, 5]⟩, ⟨[], [], [], [], [0, 1, 2, 3, 4, 5, 6]⟩, ⟨[], [], [], [3], [0, 1, 2, 3, 4, 5, 6, 7]⟩] (by kernel_rfl) (by kernel_rfl) ?_
  refine DRQ.v rfl rfl rfl (o_fldp F31_0 rfl) ?_
  refine DRQ.v rfl rfl rfl (o_ldpg G28 rfl rfl rfl) ?_
  refine DRQ.cL rfl rfl rfl rfl (o_sigo 4 (ren [(0, 0)]) (c70O f.shop (by omega)) e70 rfl rfl SvsOK.rf w70O ⟨(lx rfl), trivial⟩ r70O rfl rfl) ?_
  refine DRQ.l 5 rfl rfl rfl rfl (o_bsl (E := ENight) (l := []) R29 rfl rfl (.nil) rfl rfl) ?_
  refine DRQ.v rfl rfl rfl (o_fldp F31_1 rfl) ?_
  refine DRQ.v rfl rfl rfl (o_ldp S29 rfl rfl rfl) ?_
  refine DRQ.l2 6 5 rfl rfl rfl rfl (o_apps R29 EP.str_one rfl rfl rfl (lx rfl) (by first | omega | (simp; omega) | (simp at *; omega)) (by first | omega | (simp; omega) | (simp at *; omega))) ?_
  refine DRQ.v rfl rfl rfl (o_build B31 rfl ⟨(.inr ⟨_, _, _, _, rfl⟩), trivial⟩ rfl rfl) ?_
  refine DRQ.s 3 rfl rfl rfl (o_stag G31 rfl rfl rfl ⟨rfl, rfl, rfl, rfl, rfl, rfl, rfl, rfl, rfl, rfl, (.inr ⟨_, _, _, _, rfl⟩), (.inr ⟨_, _, _, _, rfl⟩), trivial⟩ rfl rfl) ?_
  refine DRQ.nil' ?_
  refine EX.then ?_
  refine WP.ret ?_
  refine EX.imp (Imp.topX 6 rfl) ?_
  exact EX.finO (ren [(0, 4), (1, 6)]) rfl (.inl rfl) rfl (.cellg G31 rfl rfl rfl (.nil)) rfl r17O ⟨lx rfl, lx rfl, trivial⟩ ⟨rfl, rfl, trivial⟩ rfl rfl (by simp) (by simp)
theorem w64 {f : Fnd} {i : Int} : ∀ x ∈ ([.e (.g [ai (f.shop.pounds), ai (f.shop.tl), ai (f.shop.th), ai (f.shop.al), ai (f.shop.ah), ai (f.shop.room), ai (f.shop.tpl), ai (f.shop.tph), ai (f.shop.apl), ai (f.shop.aph), .q 0, .q 1]), .i (i)] : List SV), x.res (keys (α := Pred) [(0, PL EPig (f.shop.pigs)), (1, PL ENight (f.nights))]) := by simp [SV.res, El.res, At.res, keys]
theorem r64 {f : Fnd} {i : Int} : SV.res (keys (α := Pred) [(0, PL EPig ((f.tested i).shop.pigs)), (1, PL ENight ((f.tested i).nights))]) (.e (.g [ai ((f.tested i).shop.pounds), ai ((f.tested i).shop.tl), ai ((f.tested i).shop.th), ai ((f.tested i).shop.al), ai ((f.tested i).shop.ah), ai ((f.tested i).shop.room), ai ((f.tested i).shop.tpl), ai ((f.tested i).shop.tph), ai ((f.tested i).shop.apl), ai ((f.tested i).shop.aph), .q 0, .q 1])) := by simp [SV.res, El.res, At.res, keys]
set_option maxHeartbeats 4000000 in
theorem c64 (f : Fnd) (i : Int) (hf : f.chk = true) (hi : 0 ≤ i ∧ i < f.nights.length) : Sig Try.prog 64 [.e (.g [ai (f.shop.pounds), ai (f.shop.tl), ai (f.shop.th), ai (f.shop.al), ai (f.shop.ah), ai (f.shop.room), ai (f.shop.tpl), ai (f.shop.tph), ai (f.shop.apl), ai (f.shop.aph), .q 0, .q 1]), .i (i)] [(0, PL EPig (f.shop.pigs)), (1, PL ENight (f.nights))] (.e (.g [ai ((f.tested i).shop.pounds), ai ((f.tested i).shop.tl), ai ((f.tested i).shop.th), ai ((f.tested i).shop.al), ai ((f.tested i).shop.ah), ai ((f.tested i).shop.room), ai ((f.tested i).shop.tpl), ai ((f.tested i).shop.tph), ai ((f.tested i).shop.apl), ai ((f.tested i).shop.aph), .q 0, .q 1])) [(0, PL EPig ((f.tested i).shop.pigs)), (1, PL ENight ((f.tested i).nights))] := by
  have hcb := Fnd.chkB hf
  refine Sig.intro Try.func64 rfl 2 [(0, .e (.g [ai (f.shop.pounds), ai (f.shop.tl), ai (f.shop.th), ai (f.shop.al), ai (f.shop.ah), ai (f.shop.room), ai (f.shop.tpl), ai (f.shop.tph), ai (f.shop.apl), ai (f.shop.aph), .q 0, .q 1])), (1, .i (i))] rfl w64 rfl rfl fun I w => ?_
  refine WP.seq ?_
  refine WP.region ?_
  refine WPl.l 2 3 rfl rfl rfl (o_boxg rfl) ?_
  refine WPl.l 3 4 rfl rfl rfl (o_alloc Z31) ?_
  refine WPl.nil ?_
  refine EX.then ?_
  refine WP.seq ?_
  refine WP.region ?_
  refine WPl.v rfl (o_ldpa G31 rfl rfl rfl) ?_
  refine WPl.cL 6 rfl rfl rfl rfl rfl (o_sigo 4 (ren [(0, 0), (1, 1)]) (c17O f (by omega) (by omega)) e17 rfl rfl SvsOK.rf w17O ⟨(lx rfl), (lx rfl), trivial⟩ r17O rfl rfl) ?_
  refine WPl.l 6 7 rfl rfl rfl (o_alloc Z31) ?_
  refine WPl.s1 (o_stag G31 rfl rfl rfl ⟨rfl, rfl, rfl, rfl, rfl, rfl, rfl, rfl, rfl, rfl, (.inr ⟨_, _, _, _, rfl⟩), (.inr ⟨_, _, _, _, rfl⟩), trivial⟩ rfl rfl) ?_
  refine WPl.nil ?_
  refine EX.then ?_
  refine WP.seq ?_
  refine WP.region ?_
  refine WPl.v rfl (o_fldp F31_1 rfl) ?_
  refine WPl.v rfl (o_ldp S29 rfl rfl rfl) ?_
  refine WPl.v rfl (o_move rfl) ?_
  refine WPl.v rfl (o_idxo L29 rfl rfl rfl (by first | omega | (simp; omega)) (by first | omega | (simp; omega))) ?_
  refine WPl.v rfl (o_ldoG G75 rfl rfl rfl rfl (by first | omega | (simp; omega)) (by first | omega | (simp; omega)) (strG rfl) rfl rfl) ?_
  refine WPl.l 7 8 rfl rfl rfl (o_alloc Z75) ?_
  refine WPl.s1 (o_stag G75 rfl rfl rfl ⟨rfl, rfl, rfl, trivial⟩ rfl rfl) ?_
  refine WPl.nil ?_
  refine EX.then ?_
  refine WP.seq ?_
  refine WP.region ?_
  refine WPl.v rfl (o_fldp F75_1 rfl) ?_
  refine WPl.s1 (o_sta S3 rfl rfl rfl rfl rfl) ?_
  refine WPl.nil ?_
  refine EX.then ?_
  refine WP.seq ?_
  refine WP.region ?_
  refine WPl.v rfl (o_fldp F31_1 rfl) ?_
  refine WPl.v rfl (o_ldp S29 rfl rfl rfl) ?_
  refine WPl.v rfl (o_move rfl) ?_
  refine WPl.v rfl (o_ldpa G75 rfl rfl rfl) ?_
  refine WPl.v rfl (o_idxo L29 rfl rfl rfl (by first | omega | (simp; omega)) (by first | omega | (simp; omega))) ?_
  refine WPl.s1 (o_steE2 (z := ({ nth f.nights i with test := 1 } : Night)) Try.sizeOf75 rfl rfl rfl ⟨rfl, rfl, rfl, trivial⟩ (eok_str ⟨rfl, rfl, rfl, trivial⟩) rfl rfl rfl (by first | omega | (simp; omega)) (by first | omega | (simp; omega))) ?_
  refine WPl.nil ?_
  refine EX.then ?_
  refine WP.seq ?_
  refine WP.region ?_
  refine WPl.v rfl (o_ldpa G31 rfl rfl rfl) ?_
  refine WPl.s1 (o_stag G31 rfl rfl rfl ⟨rfl, rfl, rfl, rfl, rfl, rfl, rfl, rfl, rfl, rfl, (.inr ⟨_, _, _, _, rfl⟩), (.inr ⟨_, _, _, _, rfl⟩), trivial⟩ rfl rfl) ?_
  refine WPl.nil ?_
  refine EX.then ?_
  refine WP.ret ?_
  refine EX.imp (Imp.frz (E := EPig) (l := [] ++ f.shop.pigs) 4 rfl rfl) ?_
  refine EX.imp (Imp.frz (E := ENight) (l := lset ([] ++ f.nights) i ({ nth f.nights i with test := 1 } : Night)) 5 rfl rfl) ?_
  exact EX.fin (ren [(0, 4), (1, 5)]) (.inl rfl) rfl (.cellg G31 rfl rfl rfl (.nil)) rfl r64 ⟨(lx rfl), (lx rfl), trivial⟩ (by simp) (by simp)
theorem w20 {f : Fnd} {plan : List (List Int)} {night : Int} : ∀ x ∈ ([.e (.g [ai (f.shop.pounds), ai (f.shop.tl), ai (f.shop.th), ai (f.shop.al), ai (f.shop.ah), ai (f.shop.room), ai (f.shop.tpl), ai (f.shop.tph), ai (f.shop.apl), ai (f.shop.aph), .q 0, .q 1]), .e (.a (.q 2)), .i (night)] : List SV), x.res (keys (α := Pred) [(0, PL EPig (f.shop.pigs)), (1, PL ENight (f.nights)), (2, PL (EP.sl EP.int) (plan))]) := by simp [SV.res, El.res, At.res, keys]
theorem r20 {f : Fnd} {plan : List (List Int)} {night : Int} : SV.res (keys (α := Pred) []) (.t [.g [ai (nth (f.potV plan night) 0), ai (nth (f.potV plan night) 1)], .g [ai (nth (f.potV plan night) 2), ai (nth (f.potV plan night) 3)], .g [ai (nth (f.potV plan night) 4), ai (nth (f.potV plan night) 5)], .a (ai (f.potE plan night))]) := by simp [SV.res, El.res, At.res, keys]
set_option maxHeartbeats 4000000 in
theorem c20 (f : Fnd) (plan : List (List Int)) (night : Int) (hl : f.nights.length ≤ 40) : Sig Try.prog 20 [.e (.g [ai (f.shop.pounds), ai (f.shop.tl), ai (f.shop.th), ai (f.shop.al), ai (f.shop.ah), ai (f.shop.room), ai (f.shop.tpl), ai (f.shop.tph), ai (f.shop.apl), ai (f.shop.aph), .q 0, .q 1]), .e (.a (.q 2)), .i (night)] [(0, PL EPig (f.shop.pigs)), (1, PL ENight (f.nights)), (2, PL (EP.sl EP.int) (plan))] (.t [.g [ai (nth (f.potV plan night) 0), ai (nth (f.potV plan night) 1)], .g [ai (nth (f.potV plan night) 2), ai (nth (f.potV plan night) 3)], .g [ai (nth (f.potV plan night) 4), ai (nth (f.potV plan night) 5)], .a (ai (f.potE plan night))]) [] := by
  refine Sig.intro Try.func20 rfl 3 [(0, .e (.g [ai (f.shop.pounds), ai (f.shop.tl), ai (f.shop.th), ai (f.shop.al), ai (f.shop.ah), ai (f.shop.room), ai (f.shop.tpl), ai (f.shop.tph), ai (f.shop.apl), ai (f.shop.aph), .q 0, .q 1])), (1, .e (.a (.q 2))), (2, .i (night))] rfl w20 rfl rfl fun I w => ?_
  refine WP.seq ?_
  refine WP.region ?_
  refine WPl.l 3 4 rfl rfl rfl (o_boxg rfl) ?_
  refine WPl.l 4 5 rfl rfl rfl (o_alloc Z23) ?_
  refine WPl.l 5 6 rfl rfl rfl (o_alloc Z23) ?_
  refine WPl.l 6 7 rfl rfl rfl (o_alloc Z23) ?_
  refine WPl.v rfl (o_assign rfl) ?_
  refine WPl.nil ?_
  refine EX.then ?_
  refine WP.seq ?_
  refine WP.seq ?_
  refine WP.region ?_
  refine WPl.v rfl (o_ldpa G31 rfl rfl rfl) ?_
  refine WPl.v rfl (o_move rfl) ?_
  refine WPl.cs 7 rfl rfl rfl rfl (o_sig 7 (ren [(0, 0), (1, 1), (2, 2)]) (c81 f plan) e81 rfl rfl rfl w81 ⟨(lx rfl), (lx rfl), (lx rfl), trivial⟩ r81) ?_
  refine WPl.v rfl (o_assign rfl) ?_
  refine WPl.nil ?_
  refine EX.then ?_
  refine WP.seq ?_
  refine WP.region ?_
  refine WPl.v rfl (o_move rfl) ?_
  refine WPl.v rfl (o_neq rfl rfl) ?_
  refine WPl.nil ?_
  refine EX.then ?_
  refine WP.cond rfl (fun hc1 => ?_) (fun hc1 => ?_)
  · try simp only [decide_eq_true_eq, decide_eq_false_iff_not, Bool.and_eq_true, Bool.or_eq_true, Bool.and_eq_false_iff, Bool.or_eq_false_iff, Bool.not_eq_true', Bool.not_eq_false', ne_eq, Decidable.not_not] at hc1
    refine WP.seq ?_
    refine WP.region ?_
    refine WPl.v rfl (o_build B23 rfl trivial rfl rfl) ?_
    refine WPl.v rfl (o_build B23 rfl trivial rfl rfl) ?_
    refine WPl.v rfl (o_build B23 rfl trivial rfl rfl) ?_
    refine WPl.v rfl (o_move rfl) ?_
    refine WPl.s1 (o_stag G23 rfl rfl rfl ⟨rfl, rfl, trivial⟩ rfl rfl) ?_
    refine WPl.s1 (o_stag G23 rfl rfl rfl ⟨rfl, rfl, trivial⟩ rfl rfl) ?_
    refine WPl.s1 (o_stag G23 rfl rfl rfl ⟨rfl, rfl, trivial⟩ rfl rfl) ?_
    refine WPl.v rfl (o_assign rfl) ?_
    refine WPl.nil ?_
    refine EX.then ?_
    refine WP.ret ?_
    refine EX.ret_then ?_
    rw [show f.potE plan night = f.openE plan from by simp [Fnd.potE, hc1], show f.potV plan night = [0, 0, 0, 0, 0, 0] from by simp [Fnd.potV, Fnd.potE, hc1]]
    exact EX.fin id (.inl rfl) rfl (.cellg G23 rfl rfl rfl (.cellg G23 rfl rfl rfl (.cellg G23 rfl rfl rfl (.tmp rfl .nil)))) rfl (by simp [SV.res, El.res, At.res, keys]) trivial (by simp) (by simp)
  · try simp only [decide_eq_true_eq, decide_eq_false_iff_not, Bool.and_eq_true, Bool.or_eq_true, Bool.and_eq_false_iff, Bool.or_eq_false_iff, Bool.not_eq_true', Bool.not_eq_false', ne_eq, Decidable.not_not] at hc1
    have h0 : f.openE plan = 0 := by simpa using hc1
    refine WP.skip ?_
    refine EX.then ?_
    refine WP.seq ?_
    refine WP.seq ?_
    refine WP.region ?_
    refine WPl.v rfl (o_ldpa G31 rfl rfl rfl) ?_
    refine WPl.v rfl (o_move rfl) ?_
    refine WPl.cs 7 rfl rfl rfl rfl (o_sig 7 (ren [(0, 0), (1, 1)]) (c54 f night (by omega)) e54 rfl rfl rfl w54 ⟨(lx rfl), (lx rfl), trivial⟩ r54) ?_
    refine WPl.v rfl (o_not rfl) ?_
    refine WPl.nil ?_
    refine EX.then ?_
    refine WP.cond rfl (fun hc2 => ?_) (fun hc2 => ?_)
    · try simp only [decide_eq_true_eq, decide_eq_false_iff_not, Bool.and_eq_true, Bool.or_eq_true, Bool.and_eq_false_iff, Bool.or_eq_false_iff, Bool.not_eq_true', Bool.not_eq_false', ne_eq, Decidable.not_not] at hc2
      refine WP.seq ?_
      refine WP.region ?_
      refine WPl.v rfl (o_build B23 rfl trivial rfl rfl) ?_
      refine WPl.v rfl (o_build B23 rfl trivial rfl rfl) ?_
      refine WPl.v rfl (o_build B23 rfl trivial rfl rfl) ?_
      refine WPl.s1 (o_stag G23 rfl rfl rfl ⟨rfl, rfl, trivial⟩ rfl rfl) ?_
      refine WPl.s1 (o_stag G23 rfl rfl rfl ⟨rfl, rfl, trivial⟩ rfl rfl) ?_
      refine WPl.s1 (o_stag G23 rfl rfl rfl ⟨rfl, rfl, trivial⟩ rfl rfl) ?_
      refine WPl.v rfl (o_assign rfl) ?_
      refine WPl.nil ?_
      refine EX.then ?_
      refine WP.ret ?_
      refine EX.ret_then ?_
      have h2 : f.potE plan night = 1 := by have : within night 0 ((f.nights.length : Int) - 1) = false := (by simpa using hc2); simp [Fnd.potE, h0, this]
      rw [h2, show f.potV plan night = [0, 0, 0, 0, 0, 0] from by simp [Fnd.potV, h2]]
      exact EX.fin id (.inl rfl) rfl (.cellg G23 rfl rfl rfl (.cellg G23 rfl rfl rfl (.cellg G23 rfl rfl rfl (.tmp rfl .nil)))) rfl (by simp [SV.res, El.res, At.res, keys]) trivial (by simp) (by simp)
    · try simp only [decide_eq_true_eq, decide_eq_false_iff_not, Bool.and_eq_true, Bool.or_eq_true, Bool.and_eq_false_iff, Bool.or_eq_false_iff, Bool.not_eq_true', Bool.not_eq_false', ne_eq, Decidable.not_not] at hc2
      have h1 := Fnd.openE_eq h0
      have hf := h1.1
      have hp := Fnd.planB h1.1 h1.2
      have hwn : within night 0 ((f.nights.length : Int) - 1) = true := by simpa using hc2
      have hwn2 : 0 ≤ night ∧ night ≤ (f.nights.length : Int) - 1 := by simpa [within] using hwn
      have hs := Fnd.shopOK hf
      have hn := Fnd.nightsOK hf
      have hn4 := hn.2
      have hpg := Shop.pigsOK hs
      have hp4 := hpg.2
      have htb := tl_bnd hs
      have hlh := lohi_bnd hn night.toNat (by omega)
      have hhi := Fnd.hi_le hf (i := night.toNat) (by omega)
      obtain ⟨hpl, hpb⟩ := hp
      have hub := upTo_bnd (by omega) hpb
      have hul := upTo_len f.shop.pigs.length plan
      have hs0 := sumOf_bnd (f := Pig.pounds) (add := upTo f.shop.pigs.length plan (night + 1).toNat) hpg (by rw [hul]; exact Nat.le_refl _) (fun j hj => by have := hub (night + 1).toNat (by omega) j hj; omega) (fun p h => by have := Pig.bnds h; omega)
      have hs1 := sumOf_bnd (f := Pig.tin) (add := upTo f.shop.pigs.length plan (night + 1).toNat) hpg (by rw [hul]; exact Nat.le_refl _) (fun j hj => by have := hub (night + 1).toNat (by omega) j hj; omega) (fun p h => by have := Pig.bnds h; omega)
      have hs2 := sumOf_bnd (f := Pig.ant) (add := upTo f.shop.pigs.length plan (night + 1).toNat) hpg (by rw [hul]; exact Nat.le_refl _) (fun j hj => by have := hub (night + 1).toNat (by omega) j hj; omega) (fun p h => by have := Pig.bnds h; omega)
      refine WP.skip ?_
      refine EX.then ?_
      refine WP.seq ?_
      refine WP.draw (nf := 10) [⟨[34, 35, 37, 38, 40, 41, 42, 12, 13], [8, 9], [], [], []⟩, ⟨[33, 35, 37, 38, 40, 41, 42, 12, 13], [8, 9], [], [], []⟩, ⟨[33, 34, 37, 38, 40, 41, 42, 12, 13], [8, 9], [], [], []⟩, ⟨[37, 38, 40, 41, 42, 12, 13], [8, 9], [7], [7], [0, 1, 2]⟩, ⟨[33, 34, 35, 36, 38, 40, 41, 42, 12, 13], [7, 8, 9], [], [], []⟩, ⟨[33, 34, 35, 36, 37, 40, 41, 42, 12, 13], [7, 8, 9], [], [], []⟩, ⟨[40, 41, 42, 12, 13], [8, 9], [], [], [0, 1, 2, 3, 4, 5]⟩, ⟨[33, 34, 35, 36, 37, 38, 39, 12, 13, 11], [7, 8, 9], [], [], []⟩, ⟨[33, 34, 35, 36, 37, 38, 39, 12, 13, 11], [7, 8, 9], [], [], [7]⟩, ⟨[33, 34, 35, 36, 37, 38, 39, 12, 13, 11], [7, 8, 9], [], [], [7, 8]⟩, ⟨[33, 34, 35, 36, 37, 38, 39, 40, 41, 42, 13], [7, 9], [8], [8], []⟩, ⟨[33, 34, 35, 36, 37, 38, 39, 40, 41, 42, 12], [7, 8], [9], [9], []⟩, ⟨[40, 41, 42], [], [], [], [0, 1, 2, 3, 4, 5, 6, 10, 11]⟩, ⟨[40, 41, 42], [], [], [8], [0, 1, 2, 3, 4, 5, 6, 10, 11, 12]⟩, ⟨[], [], [], [9], [0, 1, 2, 3, 4, 5, 6, 7, 8, 9, 10, 11, 12, 13]⟩] (by kernel_rfl) (by kernel_rfl) ?_
      refine DRQ.v rfl rfl rfl (o_ldpa G31 rfl rfl rfl) ?_
      refine DRQ.v rfl rfl rfl (o_move rfl) ?_
      refine DRQ.v rfl rfl rfl (o_move rfl) ?_
      refine DRQ.cs rfl rfl rfl rfl (o_sig 7 (ren [(0, 0), (1, 1), (2, 2)]) (c82 f plan night (by omega) (by omega) (by omega) (fun i hi => ⟨(hpb i hi).1, fun j hj => by have := (hpb i hi).2 j hj; omega⟩)) e82 rfl rfl rfl w82 ⟨(lx rfl), (lx rfl), (lx rfl), trivial⟩ r82) ?_
      refine DRQ.v rfl rfl rfl (o_ldpa G31 rfl rfl rfl) ?_
      refine DRQ.v rfl rfl rfl (o_move rfl) ?_
      refine DRQ.cs rfl rfl rfl rfl (o_sig 8 (ren [(0, 0), (1, 1)]) (c83 f night hn (by omega)) e83 rfl rfl rfl w83 ⟨(lx rfl), (lx rfl), trivial⟩ r83) ?_
      refine DRQ.v rfl rfl rfl (o_fldp F31_0 rfl) ?_
      refine DRQ.v rfl rfl rfl (o_fldp F28_0 rfl) ?_
      refine DRQ.v rfl rfl rfl (o_ldpg G25 rfl rfl rfl) ?_
      refine DRQ.l 8 rfl rfl rfl rfl (o_alloc Z23) ?_
      refine DRQ.l 9 rfl rfl rfl rfl (o_alloc Z25) ?_
      refine DRQ.v rfl rfl rfl (o_assign rfl) ?_
      refine DRQ.s 8 rfl rfl rfl (o_stag G23 rfl rfl rfl ⟨rfl, rfl, trivial⟩ rfl rfl) ?_
      refine DRQ.s 9 rfl rfl rfl (o_stag G25 rfl rfl rfl ⟨rfl, rfl, rfl, rfl, rfl, trivial⟩ rfl rfl) ?_
      refine DRQ.nil' ?_
      refine EX.then ?_
      refine WP.seq ?_
      refine WP.draw (nf := 10) [⟨[45, 46, 47, 48, 50, 51, 52, 53, 54, 55, 56, 57], [], [], [], []⟩, ⟨[45, 46, 47, 48, 50, 51, 52, 53, 54, 55, 56, 57], [], [], [], [0]⟩, ⟨[43, 44, 47, 50, 51, 52, 54, 55, 56], [], [], [], []⟩, ⟨[43, 44, 47, 50, 51, 52, 54, 55, 56], [], [], [], [2]⟩, ⟨[43, 44, 45, 46, 50, 51, 52, 54, 55, 56], [], [], [], []⟩, ⟨[43, 44, 50, 51, 52, 54, 55, 56], [], [], [], [2, 3, 4]⟩, ⟨[50, 51, 52, 53, 54, 55, 56, 57], [], [], [], [0, 1, 2, 3, 4, 5]⟩, ⟨[43, 44, 45, 46, 47, 48, 49, 52, 54, 55, 56], [], [], [], []⟩, ⟨[43, 44, 45, 46, 47, 48, 49, 52, 54, 55, 56], [], [], [], [7]⟩, ⟨[43, 44, 45, 46, 47, 48, 49, 50, 51, 54, 55, 56], [], [], [], []⟩, ⟨[43, 44, 49, 54, 55, 56], [], [], [], [2, 3, 4, 5, 7, 8, 9]⟩, ⟨[43, 44, 45, 46, 47, 48, 49, 50, 51, 52, 53, 56], [], [], [], []⟩, ⟨[43, 44, 45, 46, 47, 48, 49, 50, 51, 52, 53, 56], [], [], [], [11]⟩, ⟨[43, 44, 45, 46, 47, 48, 49, 50, 51, 52, 53, 54, 55], [], [], [], []⟩, ⟨[43, 44, 49], [], [], [], [2, 3, 4, 5, 7, 8, 9, 10, 11, 12, 13]⟩, ⟨[], [], [], [], [0, 1, 2, 3, 4, 5, 6, 7, 8, 9, 10, 11, 12, 13, 14]⟩, ⟨[], [], [], [], [0, 1, 2, 3, 4, 5, 6, 7, 8, 9, 10, 11, 12, 13, 14, 15]⟩, ⟨[], [], [], [], [0, 1, 2, 3, 4, 5, 6, 7, 8, 9, 10, 11, 12, 13, 14, 15, 16]⟩] (by kernel_rfl) (by kernel_rfl) ?_
      refine DRQ.v rfl rfl rfl (o_fldp F25_0 rfl) ?_
      refine DRQ.v rfl rfl rfl (o_ldp S3 rfl rfl rfl) ?_
      refine DRQ.v rfl rfl rfl (o_fldp F31_0 rfl) ?_
      refine DRQ.v rfl rfl rfl (o_ldpg G28 rfl rfl rfl) ?_
      refine DRQ.v rfl rfl rfl (o_move rfl) ?_
      refine DRQ.cs rfl rfl rfl rfl (o_sig 10 (ren [(0, 0), (1, 7)]) (c38 f.shop (upTo f.shop.pigs.length plan (night + 1).toNat) hpg (fun j hj => by have := hub (night + 1).toNat (by omega) j hj; omega) (by rw [hul]; exact Nat.le_refl _)) e38 rfl rfl rfl w38 ⟨(lx rfl), (lx rfl), trivial⟩ r38) ?_
      refine DRQ.v rfl rfl rfl (o_add rfl rfl (by first | omega | (simp; omega)) (by first | omega | (simp; omega))) ?_
      refine DRQ.v rfl rfl rfl (o_fldp F31_0 rfl) ?_
      refine DRQ.v rfl rfl rfl (o_ldpg G28 rfl rfl rfl) ?_
      refine DRQ.v rfl rfl rfl (o_move rfl) ?_
      refine DRQ.cs rfl rfl rfl rfl (o_sig 10 (ren [(0, 0), (1, 7)]) (c39 f.shop (upTo f.shop.pigs.length plan (night + 1).toNat) hpg (fun j hj => by have := hub (night + 1).toNat (by omega) j hj; omega) (by rw [hul]; exact Nat.le_refl _)) e39 rfl rfl rfl w39 ⟨(lx rfl), (lx rfl), trivial⟩ r39) ?_
      refine DRQ.v rfl rfl rfl (o_fldp F31_0 rfl) ?_
      refine DRQ.v rfl rfl rfl (o_ldpg G28 rfl rfl rfl) ?_
      refine DRQ.v rfl rfl rfl (o_move rfl) ?_
      refine DRQ.cs rfl rfl rfl rfl (o_sig 10 (ren [(0, 0), (1, 7)]) (c40 f.shop (upTo f.shop.pigs.length plan (night + 1).toNat) hpg (fun j hj => by have := hub (night + 1).toNat (by omega) j hj; omega) (by rw [hul]; exact Nat.le_refl _)) e40 rfl rfl rfl w40 ⟨(lx rfl), (lx rfl), trivial⟩ r40) ?_
      refine DRQ.v rfl rfl rfl (o_assign rfl) ?_
      refine DRQ.v rfl rfl rfl (o_assign rfl) ?_
      refine DRQ.v rfl rfl rfl (o_assign rfl) ?_
      refine DRQ.nil' ?_
      refine EX.then ?_
      refine WP.seq ?_
      refine WP.draw (nf := 10) [⟨[59, 60, 62, 63, 64, 65, 67, 68, 69, 70, 71, 72, 73, 74, 75, 76, 77, 78, 79, 80, 81, 82, 83, 84, 85, 86, 87, 88, 89, 90, 91, 92, 93, 94], [], [], [], []⟩, ⟨[58, 62, 63, 64, 65, 67, 68, 69, 70, 71, 72, 73, 74, 75, 76, 77, 78, 79, 80, 81, 82, 83, 84, 85, 86, 87, 88, 89, 90, 91, 92, 93, 94], [], [], [], []⟩, ⟨[58, 62, 63, 64, 65, 67, 68, 69, 70, 71, 72, 73, 74, 75, 76, 77, 78, 79, 80, 81, 82, 83, 84, 85, 86, 87, 88, 89, 90, 91, 92, 93, 94], [], [], [], [1]⟩, ⟨[62, 63, 64, 65, 67, 68, 69, 70, 71, 72, 73, 74, 75, 76, 77, 78, 79, 80, 81, 82, 83, 84, 85, 86, 87, 88, 89, 90, 91, 92, 93, 94], [], [], [], [0, 1, 2]⟩, ⟨[58, 59, 60, 61, 63, 64, 67, 68, 69, 70, 71, 72, 73, 74, 75, 76, 77, 78, 79, 80, 81, 82, 83, 84, 85, 86, 87, 88, 89, 90, 91, 92, 93, 94], [], [], [], []⟩, ⟨[58, 59, 60, 61, 62, 67, 68, 69, 70, 71, 72, 73, 74, 75, 76, 77, 78, 79, 80, 81, 82, 83, 84, 85, 86, 87, 88, 89, 90, 91, 92, 93, 94], [], [], [], []⟩, ⟨[58, 59, 60, 61, 62, 67, 68, 69, 70, 71, 72, 73, 74, 75, 76, 77, 78, 79, 80, 81, 82, 83, 84, 85, 86, 87, 88, 89, 90, 91, 92, 93, 94], [], [], [], [5]⟩, ⟨[58, 59, 60, 61, 67, 68, 69, 70, 71, 72, 73, 74, 75, 76, 77, 78, 79, 80, 81, 82, 83, 84, 85, 86, 87, 88, 89, 90, 91, 92, 93, 94], [], [], [], [4, 5, 6]⟩, ⟨[67, 68, 69, 70, 71, 72, 73, 74, 75, 76, 77, 78, 79, 80, 81, 82, 83, 84, 85, 86, 87, 88, 89, 90, 91, 92, 93, 94], [], [], [], [0, 1, 2, 3, 4, 5, 6, 7]⟩, ⟨[58, 59, 60, 61, 62, 63, 64, 65, 66, 70, 72, 73, 75, 76, 77, 78, 79, 80, 81, 82, 84, 85, 86, 87, 88, 89, 90, 91, 92, 93, 94], [4], [], [], []⟩, ⟨[58, 59, 60, 61, 62, 63, 64, 65, 66, 70, 72, 73, 75, 76, 77, 78, 79, 80, 81, 82, 84, 85, 86, 87, 88, 89, 90, 91, 92, 93, 94], [4], [], [], [9]⟩, ⟨[58, 59, 60, 61, 62, 63, 64, 65, 66, 70, 72, 73, 75, 76, 77, 78, 79, 80, 81, 82, 84, 85, 86, 87, 88, 89, 90, 91, 92, 93, 94], [4], [], [], [9, 10]⟩, ⟨[58, 59, 60, 61, 62, 63, 64, 65, 66, 67, 68, 69, 72, 73, 75, 76, 77, 78, 79, 80, 81, 82, 84, 85, 86, 87, 88, 89, 90, 91, 92, 93, 94], [4], [], [], []⟩, ⟨[58, 59, 60, 61, 62, 63, 64, 65, 66, 72, 73, 75, 76, 77, 78, 79, 80, 81, 82, 84, 85, 86, 87, 88, 89, 90, 91, 92, 93, 94], [4], [], [], [9, 10, 11, 12]⟩, ⟨[58, 59, 60, 61, 62, 63, 64, 65, 66, 67, 68, 69, 70, 71, 75, 76, 77, 78, 79, 80, 81, 82, 84, 85, 86, 87, 88, 89, 90, 91, 92, 93, 94], [4], [], [], []⟩, ⟨[58, 59, 60, 61, 62, 63, 64, 65, 66, 67, 68, 69, 70, 71, 75, 76, 77, 78, 79, 80, 81, 82, 84, 85, 86, 87, 88, 89, 90, 91, 92, 93, 94], [4], [], [], [14]⟩, ⟨[58, 59, 60, 61, 62, 63, 64, 65, 66, 75, 76, 77, 78, 79, 80, 81, 82, 84, 85, 86, 87, 88, 89, 90, 91, 92, 93, 94], [4], [], [], [9, 10, 11, 12, 13, 14, 15]⟩, ⟨[58, 59, 60, 61, 62, 63, 64, 65, 66, 67, 68, 69, 70, 71, 72, 73, 74, 78, 80, 81, 84, 85, 86, 87, 88, 89, 90, 91, 92, 93, 94], [4], [], [], []⟩, ⟨[58, 59, 60, 61, 62, 63, 64, 65, 66, 67, 68, 69, 70, 71, 72, 73, 74, 78, 80, 81, 84, 85, 86, 87, 88, 89, 90, 91, 92, 93, 94], [4], [], [], [17]⟩, ⟨[58, 59, 60, 61, 62, 63, 64, 65, 66, 67, 68, 69, 70, 71, 72, 73, 74, 78, 80, 81, 84, 85, 86, 87, 88, 89, 90, 91, 92, 93, 94], [4], [], [], [17, 18]⟩, ⟨[58, 59, 60, 61, 62, 63, 64, 65, 66, 67, 68, 69, 70, 71, 72, 73, 74, 75, 76, 77, 80, 81, 84, 85, 86, 87, 88, 89, 90, 91, 92, 93, 94], [4], [], [], []⟩, ⟨[58, 59, 60, 61, 62, 63, 64, 65, 66, 67, 68, 69, 70, 71, 72, 73, 74, 80, 81, 84, 85, 86, 87, 88, 89, 90, 91, 92, 93, 94], [4], [], [], [17, 18, 19, 20]⟩, ⟨[58, 59, 60, 61, 62, 63, 64, 65, 66, 67, 68, 69, 70, 71, 72, 73, 74, 75, 76, 77, 78, 79, 84, 85, 86, 87, 88, 89, 90, 91, 92, 93, 94], [4], [], [], []⟩, ⟨[58, 59, 60, 61, 62, 63, 64, 65, 66, 67, 68, 69, 70, 71, 72, 73, 74, 75, 76, 77, 78, 79, 84, 85, 86, 87, 88, 89, 90, 91, 92, 93, 94], [4], [], [], [22]⟩, ⟨[58, 59, 60, 61, 62, 63, 64, 65, 66, 67, 68, 69, 70, 71, 72, 73, 74, 84, 85, 86, 87, 88, 89, 90, 91, 92, 93, 94], [4], [], [], [17, 18, 19, 20, 21, 22, 23]⟩, ⟨[58, 59, 60, 61, 62, 63, 64, 65, 66, 84, 85, 86, 87, 88, 89, 90, 91, 92, 93, 94], [4], [], [], [9, 10, 11, 12, 13, 14, 15, 16, 17, 18, 19, 20, 21, 22, 23, 24]⟩, ⟨[58, 59, 60, 61, 62, 63, 64, 65, 66, 67, 68, 69, 70, 71, 72, 73, 74, 75, 76, 77, 78, 79, 80, 81, 82, 83, 87, 89, 90, 91, 92, 93], [4, 5], [], [], []⟩, ⟨[58, 59, 60, 61, 62, 63, 64, 65, 66, 67, 68, 69, 70, 71, 72, 73, 74, 75, 76, 77, 78, 79, 80, 81, 82, 83, 87, 89, 90, 91, 92, 93], [4, 5], [], [], [26]⟩, ⟨[58, 59, 60, 61, 62, 63, 64, 65, 66, 67, 68, 69, 70, 71, 72, 73, 74, 75, 76, 77, 78, 79, 80, 81, 82, 83, 87, 89, 90, 91, 92, 93], [4, 5], [], [], [26, 27]⟩, ⟨[58, 59, 60, 61, 62, 63, 64, 65, 66, 67, 68, 69, 70, 71, 72, 73, 74, 75, 76, 77, 78, 79, 80, 81, 82, 83, 84, 85, 86, 89, 90, 91, 92, 93], [4, 5], [], [], []⟩, ⟨[58, 59, 60, 61, 62, 63, 64, 65, 66, 67, 68, 69, 70, 71, 72, 73, 74, 75, 76, 77, 78, 79, 80, 81, 82, 83, 89, 90, 91, 92, 93], [4, 5], [], [], [26, 27, 28, 29]⟩, ⟨[58, 59, 60, 61, 62, 63, 64, 65, 66, 67, 68, 69, 70, 71, 72, 73, 74, 75, 76, 77, 78, 79, 80, 81, 82, 83, 84, 85, 86, 87, 88, 92], [4, 5], [], [], []⟩, ⟨[58, 59, 60, 61, 62, 63, 64, 65, 66, 67, 68, 69, 70, 71, 72, 73, 74, 75, 76, 77, 78, 79, 80, 81, 82, 83, 84, 85, 86, 87, 88, 92], [4, 5], [], [], [31]⟩, ⟨[58, 59, 60, 61, 62, 63, 64, 65, 66, 67, 68, 69, 70, 71, 72, 73, 74, 75, 76, 77, 78, 79, 80, 81, 82, 83, 84, 85, 86, 87, 88, 92], [4, 5], [], [], [31, 32]⟩, ⟨[58, 59, 60, 61, 62, 63, 64, 65, 66, 67, 68, 69, 70, 71, 72, 73, 74, 75, 76, 77, 78, 79, 80, 81, 82, 83, 84, 85, 86, 87, 88, 89, 90, 91], [4, 5], [], [], []⟩, ⟨[58, 59, 60, 61, 62, 63, 64, 65, 66, 67, 68, 69, 70, 71, 72, 73, 74, 75, 76, 77, 78, 79, 80, 81, 82, 83, 84, 85, 86, 87, 88], [4, 5], [], [], [31, 32, 33, 34]⟩, ⟨[58, 59, 60, 61, 62, 63, 64, 65, 66, 67, 68, 69, 70, 71, 72, 73, 74, 75, 76, 77, 78, 79, 80, 81, 82, 83], [4, 5], [], [], [26, 27, 28, 29, 30, 31, 32, 33, 34, 35]⟩, ⟨[67, 68, 69, 70, 71, 72, 73, 74, 75, 76, 77, 78, 79, 80, 81, 82, 83, 84, 85, 86, 87, 88, 89, 90, 91, 92, 93, 94], [], [], [4], [0, 1, 2, 3, 4, 5, 6, 7, 8]⟩, ⟨[84, 85, 86, 87, 88, 89, 90, 91, 92, 93, 94], [], [], [5], [0, 1, 2, 3, 4, 5, 6, 7, 8, 9, 10, 11, 12, 13, 14, 15, 16, 17, 18, 19, 20, 21, 22, 23, 24, 25, 37]⟩, ⟨[], [], [], [6], [0, 1, 2, 3, 4, 5, 6, 7, 8, 9, 10, 11, 12, 13, 14, 15, 16, 17, 18, 19, 20, 21, 22, 23, 24, 25, 26, 27, 28, 29, 30, 31, 32, 33, 34, 35, 36, 37, 38]⟩, ⟨[], [], [], [], [0, 1, 2, 3, 4, 5, 6, 7, 8, 9, 10, 11, 12, 13, 14, 15, 16, 17, 18, 19, 20, 21, 22, 23, 24, 25, 26, 27, 28, 29, 30, 31, 32, 33, 34, 35, 36, 37, 38, 39]⟩] (by kernel_rfl) (by kernel_rfl) ?_
      refine DRQ.v rfl rfl rfl (o_move rfl) ?_
      refine DRQ.v rfl rfl rfl (o_fldp F23_1 rfl) ?_
      refine DRQ.v rfl rfl rfl (o_ldp S3 rfl rfl rfl) ?_
      refine DRQ.v rfl rfl rfl (o_sub rfl rfl (by first | omega | (simp; omega)) (by first | omega | (simp; omega))) ?_
      refine DRQ.v rfl rfl rfl (o_move rfl) ?_
      refine DRQ.v rfl rfl rfl (o_fldp F23_0 rfl) ?_
      refine DRQ.v rfl rfl rfl (o_ldp S3 rfl rfl rfl) ?_
      refine DRQ.v rfl rfl rfl (o_sub rfl rfl (by first | omega | (simp; omega)) (by first | omega | (simp; omega))) ?_
      refine DRQ.v rfl rfl rfl (o_build B23 rfl ⟨rfl, rfl, trivial⟩ rfl rfl) ?_
      refine DRQ.v rfl rfl rfl (o_fldp F25_1 rfl) ?_
      refine DRQ.v rfl rfl rfl (o_fldp F23_0 rfl) ?_
      refine DRQ.v rfl rfl rfl (o_ldp S3 rfl rfl rfl) ?_
      refine DRQ.v rfl rfl rfl (o_move rfl) ?_
      refine DRQ.v rfl rfl rfl (o_add rfl rfl (by first | omega | (simp; omega)) (by first | omega | (simp; omega))) ?_
      refine DRQ.v rfl rfl rfl (o_fldp F23_1 rfl) ?_
      refine DRQ.v rfl rfl rfl (o_ldp S3 rfl rfl rfl) ?_
      refine DRQ.v rfl rfl rfl (o_sub rfl rfl (by first | omega | (simp; omega)) (by first | omega | (simp; omega))) ?_
      refine DRQ.v rfl rfl rfl (o_fldp F25_1 rfl) ?_
      refine DRQ.v rfl rfl rfl (o_fldp F23_1 rfl) ?_
      refine DRQ.v rfl rfl rfl (o_ldp S3 rfl rfl rfl) ?_
      refine DRQ.v rfl rfl rfl (o_move rfl) ?_
      refine DRQ.v rfl rfl rfl (o_add rfl rfl (by first | omega | (simp; omega)) (by first | omega | (simp; omega))) ?_
      refine DRQ.v rfl rfl rfl (o_fldp F23_0 rfl) ?_
      refine DRQ.v rfl rfl rfl (o_ldp S3 rfl rfl rfl) ?_
      refine DRQ.v rfl rfl rfl (o_sub rfl rfl (by first | omega | (simp; omega)) (by first | omega | (simp; omega))) ?_
      refine DRQ.v rfl rfl rfl (o_build B23 rfl ⟨rfl, rfl, trivial⟩ rfl rfl) ?_
      refine DRQ.v rfl rfl rfl (o_fldp F25_2 rfl) ?_
      refine DRQ.v rfl rfl rfl (o_fldp F23_0 rfl) ?_
      refine DRQ.v rfl rfl rfl (o_ldp S3 rfl rfl rfl) ?_
      refine DRQ.v rfl rfl rfl (o_move rfl) ?_
      refine DRQ.v rfl rfl rfl (o_add rfl rfl (by first | omega | (simp; omega)) (by first | omega | (simp; omega))) ?_
      refine DRQ.v rfl rfl rfl (o_fldp F25_2 rfl) ?_
      refine DRQ.v rfl rfl rfl (o_fldp F23_1 rfl) ?_
      refine DRQ.v rfl rfl rfl (o_ldp S3 rfl rfl rfl) ?_
      refine DRQ.v rfl rfl rfl (o_move rfl) ?_
      refine DRQ.v rfl rfl rfl (o_add rfl rfl (by first | omega | (simp; omega)) (by first | omega | (simp; omega))) ?_
      refine DRQ.v rfl rfl rfl (o_build B23 rfl ⟨rfl, rfl, trivial⟩ rfl rfl) ?_
      refine DRQ.s 4 rfl rfl rfl (o_stag G23 rfl rfl rfl ⟨rfl, rfl, trivial⟩ rfl rfl) ?_
      refine DRQ.s 5 rfl rfl rfl (o_stag G23 rfl rfl rfl ⟨rfl, rfl, trivial⟩ rfl rfl) ?_
      refine DRQ.s 6 rfl rfl rfl (o_stag G23 rfl rfl rfl ⟨rfl, rfl, trivial⟩ rfl rfl) ?_
      refine DRQ.v rfl rfl rfl (o_assign rfl) ?_
      refine DRQ.nil' ?_
      refine EX.then ?_
      refine WP.ret ?_
      have h2 : f.potE plan night = 0 := by simp [Fnd.potE, h0, hwn]
      rw [h2, show f.potV plan night = f.potL plan night from by simp [Fnd.potV, h2]]
      exact EX.fin id (.inl rfl) rfl (.cellg G23 rfl rfl rfl (.cellg G23 rfl rfl rfl (.cellg G23 rfl rfl rfl (.tmp rfl .nil)))) rfl (by simp [SV.res, El.res, At.res, keys]) trivial (by simp) (by simp)
end Go.Flong
