/- Walks (printed by gen.py off the specs). -/
import Derived.Test.YtglbnodjcngefaaHWa
import Derived.Test.YtglbnodjcngefaaProg
set_option linter.unusedSimpArgs false
set_option linter.unusedVariables false
namespace Go.Flong
open Go Go.Eng Go.Proofs
theorem e17 : Enters' Try.prog 17 := Try.call17
theorem G75 : TyG Try.prog 75 3 := ⟨Try.isAgg75, Try.sizeOf75⟩
theorem Z75 : Zero Try.prog 75 [ai (0), ai (0), ai (0)] := .mk Try.zeroValue75 rfl rfl
theorem w70O {s : Shop} : ∀ x ∈ ([.e (.g [ai (s.pounds), ai (s.tl), ai (s.th), ai (s.al), ai (s.ah), ai (s.room), ai (s.tpl), ai (s.tph), ai (s.apl), ai (s.aph), .q 0])] : List SV), x.res (keys (α := Pred) [(0, PL EPig (s.pigs))]) := by simp [SV.res, El.res, At.res, keys]
theorem r70O {s : Shop} : SV.res (keys (α := Pred) [(0, Pred.top)]) (.e (.g [ai (s.pounds), ai (s.tl), ai (s.th), ai (s.al), ai (s.ah), ai (s.room), ai (s.tpl), ai (s.tph), ai (s.apl), ai (s.aph), .q 0])) := by simp [SV.res, El.res, At.res, keys]
set_option maxHeartbeats 4000000 in
theorem c70O (s : Shop) (hl : s.pigs.length ≤ 40) : SigO Try.prog 70 [.e (.g [ai (s.pounds), ai (s.tl), ai (s.th), ai (s.al), ai (s.ah), ai (s.room), ai (s.tpl), ai (s.tph), ai (s.apl), ai (s.aph), .q 0])] [(0, PL EPig (s.pigs))] (.e (.g [ai (s.pounds), ai (s.tl), ai (s.th), ai (s.al), ai (s.ah), ai (s.room), ai (s.tpl), ai (s.tph), ai (s.apl), ai (s.aph), .q 0])) [(0, Pred.top)] [(0, .own 78 EPig.size ([] ++ s.pigs).length (RP EPig ([] ++ s.pigs)))] := by
  refine SigO.intro Try.func70 rfl 1 [(0, .e (.g [ai (s.pounds), ai (s.tl), ai (s.th), ai (s.al), ai (s.ah), ai (s.room), ai (s.tpl), ai (s.tph), ai (s.apl), ai (s.aph), .q 0]))] rfl w70O rfl rfl fun I w => ?_
  refine WP.seq ?_
  refine WP.region ?_
  refine WPl.l 1 2 rfl rfl rfl (o_boxg rfl) ?_
  refine WPl.l 2 3 rfl rfl rfl (o_alloc Z28) ?_
  refine WPl.nil ?_
  refine EX.then ?_
  refine WP.seq ?_
  refine WP.region ?_
  refine WPl.v rfl (o_ldpa G28 rfl rfl rfl) ?_
  refine WPl.l 3 4 rfl rfl rfl (o_alloc Z28) ?_
  refine WPl.s1 (o_stag G28 rfl rfl rfl ⟨rfl, rfl, rfl, rfl, rfl, rfl, rfl, rfl, rfl, rfl, (.inl ⟨_, (lx rfl), PL.one⟩), trivial⟩ rfl rfl) ?_
  refine WPl.nil ?_
  refine EX.then ?_
  refine WP.seq ?_
  refine WP.region ?_
  refine WPl.l 4 5 rfl rfl rfl (o_bsl (E := EPig) (l := []) R26 rfl rfl (.nil) rfl rfl) ?_
  refine WPl.v rfl (o_fldp F28_4 rfl) ?_
  refine WPl.v rfl (o_ldp S26 rfl rfl rfl) ?_
  refine WPl.u1 (k := 5) (m := 6) rfl rfl rfl (o_apps R26 EP.str_one rfl rfl rfl (lx rfl) (by first | omega | (simp; omega) | (simp at *; omega)) (by first | omega | (simp; omega) | (simp at *; omega))) ?_
  refine WPl.v rfl (o_fldp F28_4 rfl) ?_
  refine WPl.s1 (o_sta S26 rfl rfl rfl (.inr ⟨_, _, _, _, rfl⟩) rfl) ?_
  refine WPl.nil ?_
  refine EX.then ?_
  refine WP.seq ?_
  refine WP.region ?_
  refine WPl.v rfl (o_ldpa G28 rfl rfl rfl) ?_
  refine WPl.s1 (o_stag G28 rfl rfl rfl ⟨rfl, rfl, rfl, rfl, rfl, rfl, rfl, rfl, rfl, rfl, (.inr ⟨_, _, _, _, rfl⟩), trivial⟩ rfl rfl) ?_
  refine WPl.nil ?_
  refine EX.then ?_
  refine WP.ret ?_
  refine EX.imp (Imp.topX 5 rfl) ?_
  exact EX.finO (ren [(0, 5)]) rfl (.inl rfl) rfl (.cellg G28 rfl rfl rfl (.nil)) rfl r70O ⟨lx rfl, trivial⟩ ⟨rfl, trivial⟩ rfl rfl (by simp) (by simp)
theorem w17O {f : Fnd} : ∀ x ∈ ([.e (.g [ai (f.shop.pounds), ai (f.shop.tl), ai (f.shop.th), ai (f.shop.al), ai (f.shop.ah), ai (f.shop.room), ai (f.shop.tpl), ai (f.shop.tph), ai (f.shop.apl), ai (f.shop.aph), .q 0, .q 1])] : List SV), x.res (keys (α := Pred) [(0, PL EPig (f.shop.pigs)), (1, PL ENight (f.nights))]) := by simp [SV.res, El.res, At.res, keys]
theorem r17O {f : Fnd} : SV.res (keys (α := Pred) [(0, Pred.top), (1, Pred.top)]) (.e (.g [ai (f.shop.pounds), ai (f.shop.tl), ai (f.shop.th), ai (f.shop.al), ai (f.shop.ah), ai (f.shop.room), ai (f.shop.tpl), ai (f.shop.tph), ai (f.shop.apl), ai (f.shop.aph), .q 0, .q 1])) := by simp [SV.res, El.res, At.res, keys]
set_option maxHeartbeats 4000000 in
theorem c17O (f : Fnd) (hl : f.shop.pigs.length ≤ 40) (hn : f.nights.length ≤ 40) : SigO Try.prog 17 [.e (.g [ai (f.shop.pounds), ai (f.shop.tl), ai (f.shop.th), ai (f.shop.al), ai (f.shop.ah), ai (f.shop.room), ai (f.shop.tpl), ai (f.shop.tph), ai (f.shop.apl), ai (f.shop.aph), .q 0, .q 1])] [(0, PL EPig (f.shop.pigs)), (1, PL ENight (f.nights))] (.e (.g [ai (f.shop.pounds), ai (f.shop.tl), ai (f.shop.th), ai (f.shop.al), ai (f.shop.ah), ai (f.shop.room), ai (f.shop.tpl), ai (f.shop.tph), ai (f.shop.apl), ai (f.shop.aph), .q 0, .q 1])) [(0, Pred.top), (1, Pred.top)] [(0, .own 78 EPig.size ([] ++ f.shop.pigs).length (RP EPig ([] ++ f.shop.pigs))), (1, .own 75 ENight.size ([] ++ f.nights).length (RP ENight ([] ++ f.nights)))] := by
  refine SigO.intro Try.func17 rfl 2 [(0, .e (.g [ai (f.shop.pounds), ai (f.shop.tl), ai (f.shop.th), ai (f.shop.al), ai (f.shop.ah), ai (f.shop.room), ai (f.shop.tpl), ai (f.shop.tph), ai (f.shop.apl), ai (f.shop.aph), .q 0, .q 1]))] rfl w17O rfl rfl fun I w => ?_
  refine WP.seq ?_
  refine WP.region ?_
  refine WPl.l 2 3 rfl rfl rfl (o_boxg rfl) ?_
  refine WPl.l 3 4 rfl rfl rfl (o_alloc Z31) ?_
  refine WPl.nil ?_
  refine EX.then ?_
  refine WP.seq ?_
  refine WP.draw (nf := 7) [⟨[6, 7, 8], [5], [], [], []⟩, ⟨[6, 7, 8], [5], [], [], [0]⟩, ⟨[6, 7, 8], [5], [4], [4, 4], [0, 1]⟩, ⟨[3, 4, 5, 7, 8], [4], [5], [5], []⟩, ⟨[3, 4, 5, 6], [4, 5], [], [], []⟩, ⟨[3, 4, 5, 6], [4, 5], [], [], [4]⟩, ⟨[], [], [6], [6, 5], [0, 1, 2, 3, 4, 5]⟩, ⟨[], [], [], [], [0, 1, 2, 3, 4, 5, 6]⟩, ⟨[], [], [], [3], [0, 1, 2, 3, 4, 5, 6, 7]⟩] (by kernel_rfl) (by kernel_rfl) ?_
  refine DRQ.v rfl rfl rfl (o_fldp F31_0 rfl) ?_
  refine DRQ.v rfl rfl rfl (o_ldpg G28 rfl rfl rfl) ?_
  refine DRQ.cL rfl rfl rfl rfl (o_sigo 4 (ren [(0, 0)]) (c70O f.shop (by omega)) e70 rfl rfl SvsOK.rf w70O ⟨(lx rfl), trivial⟩ r70O rfl rfl) ?_
  refine DRQ.l 5 rfl rfl rfl rfl (o_bsl (E := ENight) (l := []) R29 rfl rfl (.nil) rfl rfl) ?_
  refine DRQ.v rfl rfl rfl (o_fldp F31_1 rfl) ?_
  refine DRQ.v rfl rfl rfl (o_ldp S29 rfl rfl rfl) ?_
  refine DRQ.l2 6 5 rfl rfl rfl rfl (o_apps R29 EP.str_one rfl rfl rfl (lx rfl) (by first | omega | (simp; omega) | (simp at *; omega)) (by first | omega | (simp; omega) | (simp at *; omega))) ?_
  refine DRQ.v rfl rfl rfl (o_build B31 rfl ⟨(.inr ⟨_, _, _, _, rfl⟩), trivial⟩ rfl rfl) ?_
  refine DRQ.s 3 rfl rfl rfl (o_stag G31 rfl rfl rfl ⟨rfl, rfl, rfl, rfl, rfl, rfl, rfl, rfl, rfl, rfl, (.inr ⟨_, _, _, _, rfl⟩), (.inr ⟨_, _, _, _, rfl⟩), trivial⟩ rfl rfl) ?_
  refine DRQ.nil' ?_
  refine EX.then ?_
  refine WP.ret ?_
  refine EX.imp (Imp.topX 6 rfl) ?_
  exact EX.finO (ren [(0, 4), (1, 6)]) rfl (.inl rfl) rfl (.cellg G31 rfl rfl rfl (.nil)) rfl r17O ⟨lx rfl, lx rfl, trivial⟩ ⟨rfl, rfl, trivial⟩ rfl rfl (by simp) (by simp)
theorem w64 {f : Fnd} {i : Int} : ∀ x ∈ ([.e (.g [ai (f.shop.pounds), ai (f.shop.tl), ai (f.shop.th), ai (f.shop.al), ai (f.shop.ah), ai (f.shop.room), ai (f.shop.tpl), ai (f.shop.tph), ai (f.shop.apl), ai (f.shop.aph), .q 0, .q 1]), .i (i)] : List SV), x.res (keys (α := Pred) [(0, PL EPig (f.shop.pigs)), (1, PL ENight (f.nights))]) := by simp [SV.res, El.res, At.res, keys]
theorem r64 {f : Fnd} {i : Int} : SV.res (keys (α := Pred) [(0, PL EPig ((f.tested i).shop.pigs)), (1, PL ENight ((f.tested i).nights))]) (.e (.g [ai ((f.tested i).shop.pounds), ai ((f.tested i).shop.tl), ai ((f.tested i).shop.th), ai ((f.tested i).shop.al), ai ((f.tested i).shop.ah), ai ((f.tested i).shop.room), ai ((f.tested i).shop.tpl), ai ((f.tested i).shop.tph), ai ((f.tested i).shop.apl), ai ((f.tested i).shop.aph), .q 0, .q 1])) := by simp [SV.res, El.res, At.res, keys]
set_option maxHeartbeats 4000000 in
theorem c64 (f : Fnd) (i : Int) (hf : f.chk = true) (hi : 0 ≤ i ∧ i < f.nights.length) : Sig Try.prog 64 [.e (.g [ai (f.shop.pounds), ai (f.shop.tl), ai (f.shop.th), ai (f.shop.al), ai (f.shop.ah), ai (f.shop.room), ai (f.shop.tpl), ai (f.shop.tph), ai (f.shop.apl), ai (f.shop.aph), .q 0, .q 1]), .i (i)] [(0, PL EPig (f.shop.pigs)), (1, PL ENight (f.nights))] (.e (.g [ai ((f.tested i).shop.pounds), ai ((f.tested i).shop.tl), ai ((f.tested i).shop.th), ai ((f.tested i).shop.al), ai ((f.tested i).shop.ah), ai ((f.tested i).shop.room), ai ((f.tested i).shop.tpl), ai ((f.tested i).shop.tph), ai ((f.tested i).shop.apl), ai ((f.tested i).shop.aph), .q 0, .q 1])) [(0, PL EPig ((f.tested i).shop.pigs)), (1, PL ENight ((f.tested i).nights))] := by
  have hcb := Fnd.chkB hf
  refine Sig.intro Try.func64 rfl 2 [(0, .e (.g [ai (f.shop.pounds), ai (f.shop.tl), ai (f.shop.th), ai (f.shop.al), ai (f.shop.ah), ai (f.shop.room), ai (f.shop.tpl), ai (f.shop.tph), ai (f.shop.apl), ai (f.shop.aph), .q 0, .q 1])), (1, .i (i))] rfl w64 rfl rfl fun I w => ?_
  refine WP.seq ?_
  refine WP.region ?_
  refine WPl.l 2 3 rfl rfl rfl (o_boxg rfl) ?_
  refine WPl.l 3 4 rfl rfl rfl (o_alloc Z31) ?_
  refine WPl.nil ?_
  refine EX.then ?_
  refine WP.seq ?_
  refine WP.region ?_
  refine WPl.v rfl (o_ldpa G31 rfl rfl rfl) ?_
  refine WPl.cL 6 rfl rfl rfl rfl rfl (o_sigo 4 (ren [(0, 0), (1, 1)]) (c17O f (by omega) (by omega)) e17 rfl rfl SvsOK.rf w17O ⟨(lx rfl), (lx rfl), trivial⟩ r17O rfl rfl) ?_
  refine WPl.l 6 7 rfl rfl rfl (o_alloc Z31) ?_
  refine WPl.s1 (o_stag G31 rfl rfl rfl ⟨rfl, rfl, rfl, rfl, rfl, rfl, rfl, rfl, rfl, rfl, (.inr ⟨_, _, _, _, rfl⟩), (.inr ⟨_, _, _, _, rfl⟩), trivial⟩ rfl rfl) ?_
  refine WPl.nil ?_
  refine EX.then ?_
  refine WP.seq ?_
  refine WP.region ?_
  refine WPl.v rfl (o_fldp F31_1 rfl) ?_
  refine WPl.v rfl (o_ldp S29 rfl rfl rfl) ?_
  refine WPl.v rfl (o_move rfl) ?_
  refine WPl.v rfl (o_idxo L29 rfl rfl rfl (by first | omega | (simp; omega)) (by first | omega | (simp; omega))) ?_
  refine WPl.v rfl (o_ldoG G75 rfl rfl rfl rfl (by first | omega | (simp; omega)) (by first | omega | (simp; omega)) (strG rfl) rfl rfl) ?_
  refine WPl.l 7 8 rfl rfl rfl (o_alloc Z75) ?_
  refine WPl.s1 (o_stag G75 rfl rfl rfl ⟨rfl, rfl, rfl, trivial⟩ rfl rfl) ?_
  refine WPl.nil ?_
  refine EX.then ?_
  refine WP.seq ?_
  refine WP.region ?_
  refine WPl.v rfl (o_fldp F75_1 rfl) ?_
  refine WPl.s1 (o_sta S3 rfl rfl rfl rfl rfl) ?_
  refine WPl.nil ?_
  refine EX.then ?_
  refine WP.seq ?_
  refine WP.region ?_
  refine WPl.v rfl (o_fldp F31_1 rfl) ?_
  refine WPl.v rfl (o_ldp S29 rfl rfl rfl) ?_
  refine WPl.v rfl (o_move rfl) ?_
  refine WPl.v rfl (o_ldpa G75 rfl rfl rfl) ?_
  refine WPl.v rfl (o_idxo L29 rfl rfl rfl (by first | omega | (simp; omega)) (by first | omega | (simp; omega))) ?_
  refine WPl.s1 (o_steE2 (z := ({ nth f.nights i with test := 1 } : Night)) Try.sizeOf75 rfl rfl rfl ⟨rfl, rfl, rfl, trivial⟩ (eok_str ⟨rfl, rfl, rfl, trivial⟩) rfl rfl rfl (by first | omega | (simp; omega)) (by first | omega | (simp; omega))) ?_
  refine WPl.nil ?_
  refine EX.then ?_
  refine WP.seq ?_
  refine WP.region ?_
  refine WPl.v rfl (o_ldpa G31 rfl rfl rfl) ?_
  refine WPl.s1 (o_stag G31 rfl rfl rfl ⟨rfl, rfl, rfl, rfl, rfl, rfl, rfl, rfl, rfl, rfl, (.inr ⟨_, _, _, _, rfl⟩), (.inr ⟨_, _, _, _, rfl⟩), trivial⟩ rfl rfl) ?_
  refine WPl.nil ?_
  refine EX.then ?_
  refine WP.ret ?_
  refine EX.imp (Imp.frz (E := EPig) (l := [] ++ f.shop.pigs) 4 rfl rfl) ?_
  refine EX.imp (Imp.frz (E := ENight) (l := lset ([] ++ f.nights) i ({ nth f.nights i with test := 1 } : Night)) 5 rfl rfl) ?_
  exact EX.fin (ren [(0, 4), (1, 5)]) (.inl rfl) rfl (.cellg G31 rfl rfl rfl (.nil)) rfl r64 ⟨(lx rfl), (lx rfl), trivial⟩ (by simp) (by simp)
end Go.Flong
