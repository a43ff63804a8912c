/- Part 5 of the texts behind the claim: KP6 KP7 KL1 KO1. -/
import Derived.Test.YtglbnodjcngefaaZK4
set_option linter.unusedSimpArgs false
set_option linter.unusedVariables false
namespace Go.Flong
open Go Go.Eng Go.Proofs
theorem Z3 : Zero Try.prog 3 [ai (0)] := .mk Try.zeroValue3 rfl rfl
theorem Z32 : Zero Try.prog 32 [.v (.slice none 0 0)] := .mk Try.zeroValue32 rfl rfl
theorem e140 : Enters' Try.prog 140 := Try.call140
theorem e141 : Enters' Try.prog 141 := Try.call141
theorem S124 : TyS Try.prog 124 := ⟨Try.isAgg124, Try.sizeOf124⟩
theorem e103 : Enters' Try.prog 103 := Try.call103
abbrev OfP (g : Int → List Int → Int) : Pred := Pred.all fun (x : Int × BL) => FvP Try.prog [.i (x.1), .e (.a (.q 0))] [(0, PL EP.int (x.2.1))] (.i (g x.1 x.2.1)) []
theorem e142 : Enters' Try.prog 142 := Try.call142
theorem e102 : Enters' Try.prog 102 := Try.call102
theorem e101 : Enters' Try.prog 101 := Try.call101
theorem w142 {l : List Int} : ∀ x ∈ ([.e (.a (.q 0))] : List SV), x.res (keys (α := Pred) [(0, PL EP.int (l))]) := by simp [SV.res, El.res, At.res, keys]
theorem r142 {l : List Int} : SV.res (keys (α := Pred) [(0, PL EP.int (l))]) (.e (.a (.q 0))) := by simp [SV.res, El.res, At.res, keys]
set_option maxHeartbeats 4000000 in
theorem c142 (l : List Int) (h : l.length ≤ 1000) : SigF Try.prog 142 [.e (.a (.q 0))] [(0, PL EP.int (l))] (.e (.a (.q 0))) [(0, PL EP.int (l))] := by
  refine SigF.intro Try.func142 rfl 1 [(0, .e (.a (.q 0)))] rfl w142 rfl rfl fun I w => ?_
  refine WP.seq ?_
  refine WP.region ?_
  refine WPl.v rfl (o_assign rfl) ?_
  refine WPl.nil ?_
  refine EX.then ?_
  refine WP.seq ?_
  refine WP.seq ?_
  refine WP.region ?_
  refine WPl.v rfl (o_move rfl) ?_
  refine WPl.eqnil Try.underlying44 rfl rfl (lx rfl) fun bn4 hbn4 => ?_
  refine WPl.nil ?_
  refine EX.then ?_
  refine WP.cond rfl (fun hc1 => ?_) (fun hc1 => ?_)
  · try simp only [decide_eq_true_eq, decide_eq_false_iff_not, Bool.and_eq_true, Bool.or_eq_true, Bool.and_eq_false_iff, Bool.or_eq_false_iff, Bool.not_eq_true', Bool.not_eq_false', ne_eq, Decidable.not_not] at hc1
    obtain rfl : l = [] := hbn4 hc1
    refine WP.seq ?_
    refine WP.region ?_
    refine WPl.v rfl (o_assign rfl) ?_
    refine WPl.nil ?_
    refine EX.then ?_
    refine WP.ret ?_
    refine EX.ret_then ?_
    refine EX.imp (Imp.nam 1 2 (.slice none 0 0) (R := (Pred.from w.heap.size (PL EP.int [])).and (Pred.is (.slice none 0 0))) (fun _ => ⟨pl_nil, rfl⟩) rfl rfl) ?_
    refine EX.imp (Imp.swF 2 1 rfl (lxr rfl)) ?_
    exact EX.fin (ren [(0, 1)]) (.inl rfl) rfl (.tmp rfl .nil) rfl (by simp [SV.res, El.res, At.res, keys]) ⟨lxl rfl, trivial⟩ (by simp) (by simp)
  · try simp only [decide_eq_true_eq, decide_eq_false_iff_not, Bool.and_eq_true, Bool.or_eq_true, Bool.and_eq_false_iff, Bool.or_eq_false_iff, Bool.not_eq_true', Bool.not_eq_false', ne_eq, Decidable.not_not] at hc1
    refine WP.skip ?_
    refine EX.then ?_
    refine WP.seq ?_
    refine WP.region ?_
    refine WPl.l 1 2 rfl rfl rfl (o_bsl (E := EP.int) (l := []) R44 rfl rfl (.nil) rfl rfl) ?_
    refine WPl.v rfl (o_move rfl) ?_
    refine WPl.u1 (k := 2) (m := 3) rfl rfl rfl (o_apps R44 EP.int_one rfl rfl rfl (lx rfl) (by first | omega | (simp; omega) | (simp at *; omega)) (by first | omega | (simp; omega) | (simp at *; omega))) ?_
    refine WPl.v rfl (o_assign rfl) ?_
    refine WPl.nil ?_
    refine EX.then ?_
    refine WP.ret ?_
    refine EX.imp (Imp.frzf (E := EP.int) (l := [] ++ l) 2 EP.fix_free rfl rfl) ?_
    exact EX.fin (ren [(0, 2)]) (.inl rfl) rfl (.tmp rfl .nil) rfl (by simp [SV.res, El.res, At.res, keys]) ⟨(lx rfl), trivial⟩ (by simp) (by simp)
theorem w102 {a : Int} {l : List Int} : ∀ x ∈ ([.i (a), .e (.a (.q 0))] : List SV), x.res (keys (α := Pred) [(0, PL EP.int (l))]) := by simp [SV.res, El.res, At.res, keys]
theorem r102 {a : Int} {l : List Int} : SV.res (keys (α := Pred) []) (.i (costG a l)) := by simp [SV.res, El.res, At.res, keys]
set_option maxHeartbeats 4000000 in
theorem c102 (a : Int) (l : List Int)  : Sig Try.prog 102 [.i (a), .e (.a (.q 0))] [(0, PL EP.int (l))] (.i (costG a l)) [] := by
  refine Sig.intro Try.func102 rfl 1 [(0, .i (a)), (1, .e (.a (.q 0)))] rfl w102 rfl rfl fun I w => ?_
  refine WP.seq ?_
  refine WP.region ?_
  refine WPl.v rfl (o_assign rfl) ?_
  refine WPl.nil ?_
  refine EX.then ?_
  refine WP.seq ?_
  refine WP.region ?_
  refine WPl.v rfl (o_move rfl) ?_
  refine WPl.v rfl (o_assign rfl) ?_
  refine WPl.nil ?_
  refine EX.then ?_
  refine WP.ret ?_
  exact EX.fin id (.inl rfl) rfl (.tmp rfl .nil) rfl r102 trivial (by simp) (by simp)
theorem w103 {f : Fnd} {r : Option Nat} {g : Int → List Int → Int} {night : Int} {p : Pt} {left : List Int} : ∀ x ∈ ([.e (.a (.q 0)), .i (night), .e (.g [ai (p.pounds), ai (p.tl), ai (p.th), ai (p.al), ai (p.ah), ai (p.dl), ai (p.dh)]), .e (.g [ai (nth left 0), ai (nth left 1), ai (nth left 2), ai (nth left 3)]), .e (.a (.q 1))] : List SV), x.res (keys (α := Pred) [(0, PP (EWk r) (f)), (1, OfP g)]) := by simp [SV.res, El.res, At.res, keys]
theorem r103 {f : Fnd} {g : Int → List Int → Int} {n : Nat} {night : Int} {p : Pt} {left : List Int} : SV.res (keys (α := Pred) [(0, PL (EP.sl EP.int) ((f.bestW g n night p left).2.1))]) (.t [.a (ai ((f.bestW g n night p left).1)), .a (.q 0), .a (.v (.bool ((f.bestW g n night p left).2.2)))]) := by simp [SV.res, El.res, At.res, keys]
set_option maxHeartbeats 4000000 in
theorem c103 (f : Fnd) (r : Option Nat) (g : Int → List Int → Int) (n : Nat) (night : Int) (p : Pt) (left : List Int) (hf : f.chk = true) (hg : OfB g) (hnt : night + n = f.nights.length) (hn0 : 0 ≤ night) (hp : PtB p (1000 + 400018 * night)) (hl : bnd4 left) : Sig Try.prog 103 [.e (.a (.q 0)), .i (night), .e (.g [ai (p.pounds), ai (p.tl), ai (p.th), ai (p.al), ai (p.ah), ai (p.dl), ai (p.dh)]), .e (.g [ai (nth left 0), ai (nth left 1), ai (nth left 2), ai (nth left 3)]), .e (.a (.q 1))] [(0, PP (EWk r) (f)), (1, OfP g)] (.t [.a (ai ((f.bestW g n night p left).1)), .a (.q 0), .a (.v (.bool ((f.bestW g n night p left).2.2)))]) [(0, PL (EP.sl EP.int) ((f.bestW g n night p left).2.1))] := by
  have hpg := Shop.pigsOK (Fnd.shopOK hf)
  have hp4 := hpg.2
  have hn := Fnd.nightsOK hf
  have hn4 := hn.2
  refine Sig.intro Try.func103 rfl 2 [(0, .e (.a (.q 0))), (1, .i (night)), (2, .e (.g [ai (p.pounds), ai (p.tl), ai (p.th), ai (p.al), ai (p.ah), ai (p.dl), ai (p.dh)])), (3, .e (.g [ai (nth left 0), ai (nth left 1), ai (nth left 2), ai (nth left 3)])), (4, .e (.a (.q 1)))] rfl w103 rfl rfl fun I w => ?_
  refine WP.seq ?_
  refine WP.region ?_
  refine WPl.l 2 3 rfl rfl rfl (o_boxa rfl (.inl ⟨_, (lx rfl), PP.one⟩)) ?_
  refine WPl.l 3 4 rfl rfl rfl (o_boxa rfl rfl) ?_
  refine WPl.l 4 5 rfl rfl rfl (o_boxg rfl) ?_
  refine WPl.l 5 6 rfl rfl rfl (o_boxg rfl) ?_
  refine WPl.l 6 7 rfl rfl rfl (o_boxa rfl (.inl ⟨_, (lx rfl), FvP.onea⟩)) ?_
  refine WPl.l 7 8 rfl rfl rfl (o_alloc Z3) ?_
  refine WPl.l 8 9 rfl rfl rfl (o_alloc Z32) ?_
  refine WPl.l 9 10 rfl rfl rfl (o_alloc Z4) ?_
  refine WPl.nil ?_
  refine EX.then ?_
  refine WP.seq ?_
  refine WP.seq ?_
  refine WP.draw (nf := 11) [⟨[21, 22, 23, 24, 25, 26], [10], [], [], []⟩, ⟨[20], [], [], [], []⟩, ⟨[20], [], [], [], [1]⟩, ⟨[20], [], [], [], [1, 2]⟩, ⟨[20], [], [], [], [1, 2, 3]⟩, ⟨[20], [], [10], [10], [1, 2, 3, 4]⟩, ⟨[20], [], [], [], [1, 2, 3, 4, 5]⟩, ⟨[], [], [], [], [0, 1, 2, 3, 4, 5, 6]⟩] (by kernel_rfl) (by kernel_rfl) ?_
  refine DRQ.v rfl rfl rfl (o_ldp S3 rfl rfl rfl) ?_
  refine DRQ.v rfl rfl rfl (o_ldp S95 rfl rfl rfl) ?_
  refine DRQ.v rfl rfl rfl (o_nilq rfl (lx rfl)) ?_
  refine DRQ.v rfl rfl rfl (o_fldq F100_0 rfl (lx rfl)) ?_
  refine DRQ.v rfl rfl rfl (o_flde F31_1 rfl (lx rfl)) ?_
  refine DRQ.x 10 rfl rfl rfl rfl (o_ldex S29 rfl (lx rfl) (strS rfl)) ?_
  refine DRQ.v rfl rfl rfl (o_lenq L29 rfl (lx rfl)) ?_
  refine DRQ.v rfl rfl rfl (o_eql rfl rfl) ?_
  refine DRQ.nil' ?_
  refine EX.then ?_
  refine WP.cond rfl (fun hc1 => ?_) (fun hc1 => ?_)
  · try simp only [decide_eq_true_eq, decide_eq_false_iff_not, Bool.and_eq_true, Bool.or_eq_true, Bool.and_eq_false_iff, Bool.or_eq_false_iff, Bool.not_eq_true', Bool.not_eq_false', ne_eq, Decidable.not_not] at hc1
    obtain rfl : n = 0 := by omega
    refine WP.seq ?_
    refine WP.region ?_
    refine WPl.s1 (o_sta S3 rfl rfl rfl rfl rfl) ?_
    refine WPl.s1 (o_sta S32 rfl rfl rfl rfl rfl) ?_
    refine WPl.s1 (o_sta S4 rfl rfl rfl rfl rfl) ?_
    refine WPl.nil ?_
    refine EX.then ?_
    refine WP.ret ?_
    refine EX.ret_then ?_
    refine EX.imp (Imp.nam 11 12 (.slice none 0 0) (R := PN (EP.sl EP.int)) pn_ok rfl rfl) ?_
    refine EX.imp (Imp.swL 8 0 11 rfl rfl (lxr rfl)) ?_
    exact EX.fin (ren [(0, 11)]) (.inl rfl) rfl (.cell1 S3 rfl rfl (.cell1 S32 rfl rfl (.cell1 S4 rfl rfl (.nil)))) rfl r103 ⟨lxl rfl, trivial⟩ (by simp) (by simp)
  · try simp only [decide_eq_true_eq, decide_eq_false_iff_not, Bool.and_eq_true, Bool.or_eq_true, Bool.and_eq_false_iff, Bool.or_eq_false_iff, Bool.not_eq_true', Bool.not_eq_false', ne_eq, Decidable.not_not] at hc1
    obtain ⟨k, rfl⟩ : ∃ k, n = k + 1 := ⟨n - 1, by omega⟩
    have hnc := hn.at (show night.toNat < f.nights.length by omega)
    rw [show ((night.toNat : Nat) : Int) = night by omega] at hnc
    refine WP.skip ?_
    refine EX.then ?_
    refine WP.seq ?_
    refine WP.seq ?_
    refine WP.region ?_
    refine WPl.v rfl (o_ldp S95 rfl rfl rfl) ?_
    refine WPl.v rfl (o_ldpa G105 rfl rfl rfl) ?_
    refine WPl.v rfl (o_ldpa G110 rfl rfl rfl) ?_
    refine WPl.cs 12 rfl rfl rfl rfl (o_sig 11 (ren [(0, 0)]) (c140 f r p left (1000 + 400018 * night) hf hp (by omega) hl) e140 rfl rfl rfl w140 ⟨(lx rfl), trivial⟩ r140) ?_
    refine WPl.nil ?_
    refine EX.then ?_
    refine WP.block ?_
    refine WP.leR (S' := ⟨12, [(5, .e (.a (.p 2 (0)))), (6, .e (.a (.p 3 (0)))), (8, .e (.a (.p 5 (0)))), (9, .e (.a (.p 6 (0)))), (10, .e (.a (.p 7 (0)))), (11, .e (.a (.p 8 (0)))), (12, .e (.a (.p 9 (0)))), (31, .e (.a (.q 11)))], [(0, PP (EWk r) (f)), (1, OfP g), (11, ItP Try.prog (f.chItems p left))], [(2, .blk [.q 0] 95), (3, .blk [ai (night)] 3), (5, .blk [ai (nth left 0), ai (nth left 1), ai (nth left 2), ai (nth left 3)] 110), (6, .blk [.q 1] 124), (7, .blk [ai (0)] 3), (8, .blk [.v (.slice none 0 0)] 32), (9, .blk [.v (.bool (false))] 4)], [], []⟩) id (LeR.of ⟨rfl, rfl, rfl, rfl, rfl, rfl, rfl, rfl, trivial⟩ ⟨(lx rfl), (lx rfl), (lx rfl), trivial⟩ ⟨rfl, rfl, rfl, rfl, rfl, rfl, rfl, trivial⟩ rfl rfl rfl rfl rfl) ?_
    refine WP.imp (Imp.nam 12 13 (.slice none 0 0) (R := PN (EP.sl EP.int)) pn_ok rfl rfl) ?_
    refine WP.imp (Imp.swL 8 0 12 rfl rfl (lxr rfl)) ?_
    refine WP.rangeG 16 1 ((f.chL p left).length) (fun i => ⟨[.e (.a (.q 0)), .e (.g [ai ((p.addL f.shop.pigs (nth (f.chL p left) (i : Int))).pounds), ai ((p.addL f.shop.pigs (nth (f.chL p left) (i : Int))).tl), ai ((p.addL f.shop.pigs (nth (f.chL p left) (i : Int))).th), ai ((p.addL f.shop.pigs (nth (f.chL p left) (i : Int))).al), ai ((p.addL f.shop.pigs (nth (f.chL p left) (i : Int))).ah), ai ((p.addL f.shop.pigs (nth (f.chL p left) (i : Int))).dl), ai ((p.addL f.shop.pigs (nth (f.chL p left) (i : Int))).dh)])], [], [(0, PL EP.int ((nth (f.chL p left) (i : Int))))]⟩) (fun i => ⟨16, [(5, .e (.a (.p 2 (0)))), (6, .e (.a (.p 3 (0)))), (8, .e (.a (.p 5 (0)))), (9, .e (.a (.p 6 (0)))), (10, .e (.a (.p 7 (0)))), (11, .e (.a (.p 8 (0)))), (12, .e (.a (.p 9 (0)))), (31, .e (.a (.q 11)))], [(0, PP (EWk r) (f)), (1, OfP g), (11, ItP Try.prog (f.chItems p left)), (15, PL (EP.sl EP.int) ((bestRows g f.shop.pigs (fun r => f.bestW g k (night + 1) ((p.addL f.shop.pigs r).lose (nth f.nights night)) (takeL left r)) (f.chL p left) i).2.1))], [(2, .blk [.q 0] 95), (3, .blk [ai (night)] 3), (5, .blk [ai (nth left 0), ai (nth left 1), ai (nth left 2), ai (nth left 3)] 110), (6, .blk [.q 1] 124), (7, .blk [ai ((bestRows g f.shop.pigs (fun r => f.bestW g k (night + 1) ((p.addL f.shop.pigs r).lose (nth f.nights night)) (takeL left r)) (f.chL p left) i).1)] 3), (8, .blk [.q 15] 32), (9, .blk [.v (.bool ((bestRows g f.shop.pigs (fun r => f.bestW g k (night + 1) ((p.addL f.shop.pigs r).lose (nth f.nights night)) (takeL left r)) (f.chL p left) i).2.2))] 4), (13, .ob (.deferred (some [])))], [13], []⟩) (fun _ _ => False) rfl rfl (lx rfl) (rfl) (fun _ => RSt.of rfl rfl rfl rfl rfl rfl) (fun _ _ h => h.elim) rfl rfl rfl (fun _ _ => ItemOK.of rfl) rfl rfl (ren [(15, 12)]) (LeR.of ⟨rfl, rfl, rfl, rfl, rfl, rfl, rfl, rfl, trivial⟩ ⟨(lx rfl), (lx rfl), (lx rfl), (lxl rfl), trivial⟩ ⟨rfl, rfl, rfl, rfl, rfl, rfl, rfl, rfl, trivial⟩ rfl rfl rfl rfl rfl) ?_ ?_ ?_
    · intro i hi w1 E1 I1 R1 pβ1 pν1 us1
      have hr := chL_at (p := p) hl hp4 hi
      have hr40 : ((nth (f.chL p left) (i : Int))).length ≤ 40 := by have := hr.1; omega
      have hpn : PtB (p.addL f.shop.pigs (nth (f.chL p left) (i : Int))) (1000 + 400018 * night + 400000) := addTo_bnd hp hpg (by rw [hr.1]; exact Nat.le_refl _) (bnd_mono hr.2.1 (by omega)) (Nat.le_refl _)
      have hpe := pence_bnd hpg hr.1 hr.2.1
      have hgb := hg _ (nth (f.chL p left) (i : Int)) hpe.1 hpe.2
      have hwb := bestW_bnd hg hpg k (night + 1) ((p.addL f.shop.pigs (nth (f.chL p left) (i : Int))).lose (nth f.nights night)) (takeL left (nth (f.chL p left) (i : Int))) hr.2.2
      have hwl := bestW_len (f := f) (g := g) k (night + 1) ((p.addL f.shop.pigs (nth (f.chL p left) (i : Int))).lose (nth f.nights night)) (takeL left (nth (f.chL p left) (i : Int)))
      refine WP.seq ?_
      refine WP.region ?_
      refine WPl.v rfl (o_assign rfl) ?_
      refine WPl.nil ?_
      refine EX.then ?_
      refine WP.region ?_
      refine WPl.l 17 18 rfl rfl rfl (o_alloc Z105) ?_
      refine WPl.s1 (o_stag G105 rfl rfl rfl ⟨rfl, rfl, rfl, rfl, rfl, rfl, rfl, trivial⟩ rfl rfl) ?_
      refine WPl.nil ?_
      refine EX.beg rfl ?_
      refine WP.block ?_
      refine WP.seq ?_
      refine WP.region ?_
      refine WPl.v rfl (o_ldp S95 rfl rfl rfl) ?_
      refine WPl.v rfl (o_ldpa G110 rfl rfl rfl) ?_
      refine WPl.v rfl (o_move rfl) ?_
      refine WPl.cs 18 rfl rfl rfl rfl (o_sigbc 18 (ren [(0, 0), (1, 16)]) (Sig.free (c141 f r left (nth (f.chL p left) (i : Int)) hpg hl.1 (fun j hj => hl.2 j (by rw [← hl.1]; exact hj)) hr.1 hr.2.1)) e141 rfl rfl SvsOK.rf w141 ⟨.x (lx rfl), .ext (lx rfl) rfl, trivial⟩ r141) ?_
      refine WPl.v rfl (o_move rfl) ?_
      refine WPl.v rfl (o_extract rfl rfl) ?_
      refine WPl.v rfl (o_extract rfl rfl) ?_
      refine WPl.l 18 19 rfl rfl rfl (o_alloc Z110) ?_
      refine WPl.s1 (o_stag G110 rfl rfl rfl ⟨rfl, rfl, rfl, rfl, trivial⟩ rfl rfl) ?_
      refine WPl.v rfl (o_assign rfl) ?_
      refine WPl.nil ?_
      refine EX.then ?_
      refine WP.seq ?_
      refine WP.draw (nf := 22) [⟨[43, 44, 45, 46, 47, 48, 49, 50, 51, 52, 53, 54, 55, 56], [19, 20], [], [], []⟩, ⟨[42, 45, 46, 47, 48, 49, 50, 51, 52, 53, 54, 55, 56], [19, 20], [], [], []⟩, ⟨[42, 45, 46, 47, 48, 49, 50, 51, 52, 53, 54, 55, 56], [19, 20], [], [], [1]⟩, ⟨[42, 43, 44, 46, 47, 48, 49, 50, 51, 52, 53, 55, 56], [19, 20], [], [], []⟩, ⟨[42, 43, 44, 45, 51, 55, 56], [], [], [], []⟩, ⟨[42, 43, 44, 45, 51, 55, 56], [], [], [], [4]⟩, ⟨[42, 43, 44, 45, 51, 55, 56], [], [], [], [4, 5]⟩, ⟨[42, 43, 44, 45, 51, 55, 56], [], [], [], [4, 5, 6]⟩, ⟨[42, 43, 44, 45, 51, 55, 56], [], [19], [19], [4, 5, 6, 7]⟩, ⟨[42, 43, 44, 45, 46, 47, 48, 49, 50, 55, 56], [19], [], [], []⟩, ⟨[42, 43, 44, 45, 55, 56], [], [20], [20], [4, 5, 6, 7, 8, 9]⟩, ⟨[42, 43, 44, 45, 55, 56], [], [], [], [4, 5, 6, 7, 8, 9, 10]⟩, ⟨[42, 43, 44, 55, 56], [], [], [], [3, 4, 5, 6, 7, 8, 9, 10, 11]⟩, ⟨[42, 43, 44, 45, 46, 47, 48, 49, 50, 51, 52, 53, 54, 56], [19, 20], [], [], []⟩, ⟨[42, 43, 44, 45, 46, 47, 48, 49, 50, 51, 52, 53, 54, 55], [19, 20], [], [], []⟩, ⟨[], [], [21], [21], [0, 1, 2, 3, 4, 5, 6, 7, 8, 9, 10, 11, 12, 13, 14]⟩, ⟨[], [], [], [], [0, 1, 2, 3, 4, 5, 6, 7, 8, 9, 10, 11, 12, 13, 14, 15]⟩, ⟨[59, 60], [], [], [], [0, 1, 2, 3, 4, 5, 6, 7, 8, 9, 10, 11, 12, 13, 14, 15, 16]⟩, ⟨[58, 60, 17], [], [], [], [0, 1, 2, 3, 4, 5, 6, 7, 8, 9, 10, 11, 12, 13, 14, 15, 16]⟩, ⟨[58, 59, 17, 18], [], [], [], [0, 1, 2, 3, 4, 5, 6, 7, 8, 9, 10, 11, 12, 13, 14, 15, 16]⟩, ⟨[59, 60], [], [], [], [0, 1, 2, 3, 4, 5, 6, 7, 8, 9, 10, 11, 12, 13, 14, 15, 16, 17]⟩, ⟨[60], [], [], [], [0, 1, 2, 3, 4, 5, 6, 7, 8, 9, 10, 11, 12, 13, 14, 15, 16, 17, 18, 20]⟩, ⟨[], [], [], [], [0, 1, 2, 3, 4, 5, 6, 7, 8, 9, 10, 11, 12, 13, 14, 15, 16, 17, 18, 19, 20, 21]⟩] (by kernel_rfl) (by kernel_rfl) ?_
      refine DRQ.v rfl rfl rfl (o_ldp S95 rfl rfl rfl) ?_
      refine DRQ.v rfl rfl rfl (o_ldp S3 rfl rfl rfl) ?_
      refine DRQ.v rfl rfl rfl (o_add rfl rfl (by first | omega | (simp; omega)) (by first | omega | (simp; omega))) ?_
      refine DRQ.v rfl rfl rfl (o_ldpa G105 rfl rfl rfl) ?_
      refine DRQ.v rfl rfl rfl (o_ldp S95 rfl rfl rfl) ?_
      refine DRQ.v rfl rfl rfl (o_nilq rfl (lx rfl)) ?_
      refine DRQ.v rfl rfl rfl (o_fldq F100_0 rfl (lx rfl)) ?_
      refine DRQ.v rfl rfl rfl (o_flde F31_1 rfl (lx rfl)) ?_
      refine DRQ.x 19 rfl rfl rfl rfl (o_ldex S29 rfl (lx rfl) (strS rfl)) ?_
      refine DRQ.v rfl rfl rfl (o_ldp S3 rfl rfl rfl) ?_
      refine DRQ.x 20 rfl rfl rfl rfl (o_idx L29 rfl (lx rfl) rfl (by first | omega | (simp; omega)) (by first | omega | (simp; omega))) ?_
      refine DRQ.v rfl rfl rfl (o_ldqg G75 rfl (lx rfl) (strG rfl) rfl rfl) ?_
      refine DRQ.cs rfl rfl rfl rfl (o_sig 21 id (c130 (p.addL f.shop.pigs (nth (f.chL p left) (i : Int))) (nth f.nights night) (1000 + 400018 * night + 400000) hpn (by omega) hnc) e130 rfl rfl rfl w130 trivial r130) ?_
      refine DRQ.v rfl rfl rfl (o_ldpa G110 rfl rfl rfl) ?_
      refine DRQ.v rfl rfl rfl (o_ldp S124 rfl rfl rfl) ?_
      refine DRQ.cs rfl rfl rfl rfl (o_sig 21 (ren [(0, 0), (1, 1)]) (c103 f r g k (night + 1) ((p.addL f.shop.pigs (nth (f.chL p left) (i : Int))).lose (nth f.nights night)) (takeL left (nth (f.chL p left) (i : Int))) hf hg (by omega) (by omega) (PtB.mono (lose_bnd hpn hnc) (by omega)) hr.2.2) e103 rfl rfl rfl w103 ⟨(lx rfl), (lx rfl), trivial⟩ r103) ?_
      refine DRQ.v rfl rfl rfl (o_move rfl) ?_
      refine DRQ.v rfl rfl rfl (o_extract rfl rfl) ?_
      refine DRQ.v rfl rfl rfl (o_extract rfl rfl) ?_
      refine DRQ.v rfl rfl rfl (o_extract rfl rfl) ?_
      refine DRQ.v rfl rfl rfl (o_assign rfl) ?_
      refine DRQ.v rfl rfl rfl (o_assign rfl) ?_
      refine DRQ.v rfl rfl rfl (o_assign rfl) ?_
      refine DRQ.nil' ?_
      refine EX.then ?_
      refine WP.seq ?_
      refine WP.region ?_
      refine WPl.v rfl (o_move rfl) ?_
      refine WPl.v rfl (o_ldp S124 rfl rfl rfl) ?_
      refine WPl.v rfl (o_move rfl) ?_
      refine WPl.v rfl (o_move rfl) ?_
      refine WPl.cs 22 rfl rfl rfl rfl (o_callfvb (svs := [.i ((sumOf Pig.pence f.shop.pigs (nth (f.chL p left) (i : Int)), (⟨(nth (f.chL p left) (i : Int)), hr40⟩ : BL)).1), .e (.a (.q 0))]) 22 (ren [(0, 16)]) rfl (Has.of (lx rfl) fun _ _ h => h ((sumOf Pig.pence f.shop.pigs (nth (f.chL p left) (i : Int)), (⟨(nth (f.chL p left) (i : Int)), hr40⟩ : BL)))) rfl rfl SvsOK.rf (by simp [SV.res, El.res, At.res, keys]) ⟨.ext (lx rfl) rfl, trivial⟩ (by simp [SV.res, El.res, At.res, keys])) ?_
      refine WPl.v rfl (o_add rfl rfl (by first | omega | (simp; omega)) (by first | omega | (simp; omega))) ?_
      refine WPl.v rfl (o_assign rfl) ?_
      refine WPl.nil ?_
      refine EX.then ?_
      refine WP.seq ?_
      refine WP.region ?_
      refine WPl.v rfl (o_move rfl) ?_
      refine WPl.v rfl (o_move rfl) ?_
      refine WPl.bit 22 23 ((f.bestW g k (night + 1) ((p.addL f.shop.pigs (nth (f.chL p left) (i : Int))).lose (nth f.nights night)) (takeL left (nth (f.chL p left) (i : Int)))).2.2) rfl rfl ?_
      refine WPl.gv 22 rfl rfl (.plain rfl Iff.rfl rfl) (fun hb => o_ldp S4 rfl rfl rfl) ?_
      refine WPl.gv 22 rfl rfl (.plain rfl Iff.rfl rfl) (fun hb => o_not rfl) ?_
      refine WPl.gv 22 rfl rfl (.plain rfl Iff.rfl rfl) (fun hb => o_move rfl) ?_
      refine WPl.bit 23 24 (((f.bestW g k (night + 1) ((p.addL f.shop.pigs (nth (f.chL p left) (i : Int))).lose (nth f.nights night)) (takeL left (nth (f.chL p left) (i : Int)))).2.2) && !(!((bestRows g f.shop.pigs (fun r => f.bestW g k (night + 1) ((p.addL f.shop.pigs r).lose (nth f.nights night)) (takeL left r)) (f.chL p left) i).2.2))) rfl rfl ?_
      refine WPl.gv 23 rfl rfl (.nest rfl rfl (by simp) rfl) (fun hb => o_move rfl) ?_
      refine WPl.gv 23 rfl rfl (.nest rfl rfl (by simp) rfl) (fun hb => o_ldp S3 rfl rfl rfl) ?_
      refine WPl.gv 23 rfl rfl (.nest rfl rfl (by simp) rfl) (fun hb => o_lss rfl rfl) ?_
      refine WPl.gv 22 rfl rfl (.plain rfl Iff.rfl rfl) (fun hb => o_or rfl rfl rfl (by first | (simp; done) | simp_all)) ?_
      refine WPl.v rfl (o_and rfl rfl rfl id) ?_
      refine WPl.nil ?_
      refine EX.then ?_
      refine WP.cond rfl (fun hc2 => ?_) (fun hc2 => ?_)
      · try simp only [decide_eq_true_eq, decide_eq_false_iff_not, Bool.and_eq_true, Bool.or_eq_true, Bool.and_eq_false_iff, Bool.or_eq_false_iff, Bool.not_eq_true', Bool.not_eq_false', ne_eq, Decidable.not_not] at hc2
        refine WP.region ?_
        refine WPl.v rfl (o_move rfl) ?_
        refine WPl.v rfl (o_move rfl) ?_
        refine WPl.cs 25 rfl rfl rfl rfl (o_sigbc 24 (ren [(0, 16)]) (c142 (nth (f.chL p left) (i : Int)) (by have := hr.1; omega)) e142 rfl rfl SvsOK.rf w142 ⟨.ext (lx rfl) rfl, trivial⟩ r142) ?_
        refine WPl.u1 (k := 25) (m := 26) rfl rfl rfl (OpG.newer0 (o_bsl (E := (EP.sl EP.int)) (l := [(nth (f.chL p left) (i : Int))]) R32 rfl rfl (.cons ((.inl ⟨_, (lx rfl), PL.one⟩)) rfl (eok_sl (lx rfl)) (.nil)) rfl rfl)) ?_
        refine WPl.v rfl (o_move rfl) ?_
        refine WPl.u1 (k := 26) (m := 27) rfl rfl rfl (OpG.newer1 (lx rfl) rfl (o_apps R32 EP.sl_one rfl rfl rfl (lx rfl) (by first | omega | (simp; omega) | (simp at *; omega)) (by first | omega | (simp; omega) | (simp at *; omega)))) ?_
        refine WPl.s1 (o_sta S3 rfl rfl rfl rfl rfl) ?_
        refine WPl.s1 (o_sta S32 rfl rfl rfl (.inr ⟨_, _, _, _, rfl⟩) rfl) ?_
        refine WPl.s1 (o_sta S4 rfl rfl rfl rfl rfl) ?_
        refine WPl.nil ?_
        refine EX.blk ?_
        have hbr : bestRows g f.shop.pigs (fun r => f.bestW g k (night + 1) ((p.addL f.shop.pigs r).lose (nth f.nights night)) (takeL left r)) (f.chL p left) (i + 1) = ((f.bestW g k (night + 1) ((p.addL f.shop.pigs (nth (f.chL p left) (i : Int))).lose (nth f.nights night)) (takeL left (nth (f.chL p left) (i : Int)))).1 + g (sumOf Pig.pence f.shop.pigs (nth (f.chL p left) (i : Int))) (nth (f.chL p left) (i : Int)), (nth (f.chL p left) (i : Int)) :: (f.bestW g k (night + 1) ((p.addL f.shop.pigs (nth (f.chL p left) (i : Int))).lose (nth f.nights night)) (takeL left (nth (f.chL p left) (i : Int)))).2.1, true) := by simp only [bestRows, bestRow]; rw [if_pos (by simpa using hc2)]
        refine EX.imp (Imp.frzN (E := (EP.sl EP.int)) (l := [(nth (f.chL p left) (i : Int))] ++ ((f.bestW g k (night + 1) ((p.addL f.shop.pigs (nth (f.chL p left) (i : Int))).lose (nth f.nights night)) (takeL left (nth (f.chL p left) (i : Int)))).2.1)) 26 (lx rfl) rfl) ?_
        exact EX.next (ren [(15, 26)]) (LeR.of trivial ⟨(lx rfl), (lx rfl), (lx rfl), (has_eq (F := fun z => PL (EP.sl EP.int) z) (show ([(nth (f.chL p left) (i : Int))] ++ ((f.bestW g k (night + 1) ((p.addL f.shop.pigs (nth (f.chL p left) (i : Int))).lose (nth f.nights night)) (takeL left (nth (f.chL p left) (i : Int)))).2.1)) = ((fun i => (bestRows g f.shop.pigs (fun r => f.bestW g k (night + 1) ((p.addL f.shop.pigs r).lose (nth f.nights night)) (takeL left r)) (f.chL p left) i).2.1) (i + 1)) from by dsimp only; rw [hbr]; try rfl) (lx rfl)), trivial⟩ ⟨rfl, rfl, rfl, rfl, rfl, (congrArg (fun z => some (Ent.blk z 3)) (List.cons_eq_cons.2 ⟨(congrArg (fun z => ai z) (show (((f.bestW g k (night + 1) ((p.addL f.shop.pigs (nth (f.chL p left) (i : Int))).lose (nth f.nights night)) (takeL left (nth (f.chL p left) (i : Int)))).1) + (g (sumOf Pig.pence f.shop.pigs (nth (f.chL p left) (i : Int)), (⟨(nth (f.chL p left) (i : Int)), hr40⟩ : BL)).1 (sumOf Pig.pence f.shop.pigs (nth (f.chL p left) (i : Int)), (⟨(nth (f.chL p left) (i : Int)), hr40⟩ : BL)).2.1)) = ((fun i => (bestRows g f.shop.pigs (fun r => f.bestW g k (night + 1) ((p.addL f.shop.pigs r).lose (nth f.nights night)) (takeL left r)) (f.chL p left) i).1) (i + 1)) from by dsimp only; rw [hbr]; try rfl)), (Eq.refl [])⟩)), rfl, (congrArg (fun z => some (Ent.blk z 4)) (List.cons_eq_cons.2 ⟨(congrArg (fun z => At.v (Value.bool z)) (show (true) = ((fun i => (bestRows g f.shop.pigs (fun r => f.bestW g k (night + 1) ((p.addL f.shop.pigs r).lose (nth f.nights night)) (takeL left r)) (f.chL p left) i).2.2) (i + 1)) from by dsimp only; rw [hbr]; try rfl)), (Eq.refl [])⟩)), rfl, trivial⟩ rfl rfl rfl rfl rfl)
      · try simp only [decide_eq_true_eq, decide_eq_false_iff_not, Bool.and_eq_true, Bool.or_eq_true, Bool.and_eq_false_iff, Bool.or_eq_false_iff, Bool.not_eq_true', Bool.not_eq_false', ne_eq, Decidable.not_not] at hc2
        refine WP.skip ?_
        refine EX.blk ?_
        have hbr : bestRows g f.shop.pigs (fun r => f.bestW g k (night + 1) ((p.addL f.shop.pigs r).lose (nth f.nights night)) (takeL left r)) (f.chL p left) (i + 1) = (bestRows g f.shop.pigs (fun r => f.bestW g k (night + 1) ((p.addL f.shop.pigs r).lose (nth f.nights night)) (takeL left r)) (f.chL p left) i) := by simp only [bestRows, bestRow]; rw [if_neg (by simp at hc2 ⊢; intro h; exact hc2.resolve_left (by rw [h]; simp))]
        exact EX.next id (LeR.of trivial ⟨(lx rfl), (lx rfl), (lx rfl), (has_eq (F := fun z => PL (EP.sl EP.int) z) (show ((bestRows g f.shop.pigs (fun r => f.bestW g k (night + 1) ((p.addL f.shop.pigs r).lose (nth f.nights night)) (takeL left r)) (f.chL p left) i).2.1) = ((fun i => (bestRows g f.shop.pigs (fun r => f.bestW g k (night + 1) ((p.addL f.shop.pigs r).lose (nth f.nights night)) (takeL left r)) (f.chL p left) i).2.1) (i + 1)) from by dsimp only; rw [hbr]; try rfl) (lx rfl)), trivial⟩ ⟨rfl, rfl, rfl, rfl, rfl, (congrArg (fun z => some (Ent.blk z 3)) (List.cons_eq_cons.2 ⟨(congrArg (fun z => ai z) (show ((bestRows g f.shop.pigs (fun r => f.bestW g k (night + 1) ((p.addL f.shop.pigs r).lose (nth f.nights night)) (takeL left r)) (f.chL p left) i).1) = ((fun i => (bestRows g f.shop.pigs (fun r => f.bestW g k (night + 1) ((p.addL f.shop.pigs r).lose (nth f.nights night)) (takeL left r)) (f.chL p left) i).1) (i + 1)) from by dsimp only; rw [hbr]; try rfl)), (Eq.refl [])⟩)), rfl, (congrArg (fun z => some (Ent.blk z 4)) (List.cons_eq_cons.2 ⟨(congrArg (fun z => At.v (Value.bool z)) (show ((bestRows g f.shop.pigs (fun r => f.bestW g k (night + 1) ((p.addL f.shop.pigs r).lose (nth f.nights night)) (takeL left r)) (f.chL p left) i).2.2) = ((fun i => (bestRows g f.shop.pigs (fun r => f.bestW g k (night + 1) ((p.addL f.shop.pigs r).lose (nth f.nights night)) (takeL left r)) (f.chL p left) i).2.2) (i + 1)) from by dsimp only; rw [hbr]; try rfl)), (Eq.refl [])⟩)), rfl, trivial⟩ rfl rfl rfl rfl rfl)
    · exact fun _ _ h => h.elim
    · skip
      refine EX.blk ?_
      refine EX.then ?_
      refine WP.seq ?_
      refine WP.draw (nf := 16) [⟨[84, 85], [], [], [], []⟩, ⟨[83, 85], [7], [], [], []⟩, ⟨[83, 84], [7, 8], [], [], []⟩, ⟨[84, 85], [], [], [7], [0]⟩, ⟨[85], [], [], [8], [0, 1, 3]⟩, ⟨[], [], [], [9], [0, 1, 2, 3, 4]⟩] (by kernel_rfl) (by kernel_rfl) ?_
      refine DRQ.v rfl rfl rfl (o_ldp S3 rfl rfl rfl) ?_
      refine DRQ.v rfl rfl rfl (o_ldp S32 rfl rfl rfl) ?_
      refine DRQ.v rfl rfl rfl (o_ldp S4 rfl rfl rfl) ?_
      refine DRQ.s 7 rfl rfl rfl (o_sta S3 rfl rfl rfl rfl rfl) ?_
      refine DRQ.s 8 rfl rfl rfl (o_sta S32 rfl rfl rfl (.inl ⟨_, (lx rfl), PL.one⟩) rfl) ?_
      refine DRQ.s 9 rfl rfl rfl (o_sta S4 rfl rfl rfl rfl rfl) ?_
      refine DRQ.nil' ?_
      refine EX.then ?_
      refine WP.ret ?_
      exact EX.fin (ren [(0, 15)]) (.inl rfl) rfl (.cell1 S3 rfl rfl (.cell1 S32 rfl rfl (.cell1 S4 rfl rfl (.nil)))) rfl r103 ⟨(lx rfl), trivial⟩ (marks rfl) (by simp)
termination_by n
decreasing_by all_goals omega
theorem w101 {f : Fnd} {g : Int → List Int → Int} : ∀ x ∈ ([.e (.g [ai (f.shop.pounds), ai (f.shop.tl), ai (f.shop.th), ai (f.shop.al), ai (f.shop.ah), ai (f.shop.room), ai (f.shop.tpl), ai (f.shop.tph), ai (f.shop.apl), ai (f.shop.aph), .q 0, .q 1]), .e (.a (.q 2))] : List SV), x.res (keys (α := Pred) [(0, PL EPig (f.shop.pigs)), (1, PL ENight (f.nights)), (2, OfP g)]) := by simp [SV.res, El.res, At.res, keys]
theorem r101 {f : Fnd} {g : Int → List Int → Int} : SV.res (keys (α := Pred) []) (.t [.a (ai (f.leastV g)), .a (ai (f.leastE g))]) := by simp [SV.res, El.res, At.res, keys]
set_option maxHeartbeats 4000000 in
theorem c101 (f : Fnd) (g : Int → List Int → Int) (hl : f.shop.pigs.length ≤ 40) (hgb : OfB g) : Sig Try.prog 101 [.e (.g [ai (f.shop.pounds), ai (f.shop.tl), ai (f.shop.th), ai (f.shop.al), ai (f.shop.ah), ai (f.shop.room), ai (f.shop.tpl), ai (f.shop.tph), ai (f.shop.apl), ai (f.shop.aph), .q 0, .q 1]), .e (.a (.q 2))] [(0, PL EPig (f.shop.pigs)), (1, PL ENight (f.nights)), (2, OfP g)] (.t [.a (ai (f.leastV g)), .a (ai (f.leastE g))]) [] := by
  rcases Bool.eq_false_or_eq_true f.chk with hf | hf
  · skip
    refine Sig.intro Try.func101 rfl 3 [(0, .e (.g [ai (f.shop.pounds), ai (f.shop.tl), ai (f.shop.th), ai (f.shop.al), ai (f.shop.ah), ai (f.shop.room), ai (f.shop.tpl), ai (f.shop.tph), ai (f.shop.apl), ai (f.shop.aph), .q 0, .q 1])), (1, .e (.a (.q 2)))] rfl w101 rfl rfl fun I w => ?_
    refine WP.seq ?_
    refine WP.region ?_
    refine WPl.l 3 4 rfl rfl rfl (o_boxg rfl) ?_
    refine WPl.v rfl (o_assign rfl) ?_
    refine WPl.v rfl (o_assign rfl) ?_
    refine WPl.nil ?_
    refine EX.then ?_
    refine WP.seq ?_
    refine WP.region ?_
    refine WPl.v rfl (o_ldpa G31 rfl rfl rfl) ?_
    refine WPl.cM 6 (o_sigm (J := [0]) 4 5 (ren [(0, 0), (1, 1)]) (c76N f hf) e76 rfl rfl SvsOK.rf w76N ⟨(lx rfl), (lx rfl), trivial⟩ (fun _ => rfl) (by simp [SV.res, El.res, At.res, keys]) rfl) rfl rfl rfl fun b15 => ?_
    refine WPl.v rfl (o_move rfl) ?_
    refine WPl.v rfl (o_extract rfl rfl) ?_
    refine WPl.v rfl (o_extract rfl rfl) ?_
    refine WPl.v rfl (o_assign rfl) ?_
    refine WPl.v rfl (o_assign rfl) ?_
    refine WPl.nil ?_
    refine EX.then ?_
    refine WP.seq ?_
    refine WP.seq ?_
    refine WP.region ?_
    refine WPl.v rfl (o_move rfl) ?_
    refine WPl.v rfl (o_neq rfl rfl) ?_
    refine WPl.nil ?_
    refine EX.then ?_
    refine WP.cond rfl (fun hc1 => ?_) (fun hc1 => ?_)
    · try simp only [decide_eq_true_eq, decide_eq_false_iff_not, Bool.and_eq_true, Bool.or_eq_true, Bool.and_eq_false_iff, Bool.or_eq_false_iff, Bool.not_eq_true', Bool.not_eq_false', ne_eq, Decidable.not_not] at hc1
      simp at hc1
    · try simp only [decide_eq_true_eq, decide_eq_false_iff_not, Bool.and_eq_true, Bool.or_eq_true, Bool.and_eq_false_iff, Bool.or_eq_false_iff, Bool.not_eq_true', Bool.not_eq_false', ne_eq, Decidable.not_not] at hc1
      have hcb := Fnd.chkB hf
      have hpg := Shop.pigsOK (Fnd.shopOK hf)
      refine WP.skip ?_
      refine EX.then ?_
      refine WP.seq ?_
      refine WP.region ?_
      refine WPl.v rfl (o_move rfl) ?_
      refine WPl.cs 6 rfl rfl rfl rfl (o_sig 6 (ren [(0, 4)]) (c88 f (some b15) (by omega)) e88 rfl rfl rfl w88 ⟨(lx rfl), trivial⟩ r88) ?_
      refine WPl.v rfl (o_move rfl) ?_
      refine WPl.v rfl (o_extract rfl rfl) ?_
      refine WPl.v rfl (o_extract rfl rfl) ?_
      refine WPl.l 6 7 rfl rfl rfl (o_alloc Z105) ?_
      refine WPl.l 7 8 rfl rfl rfl (o_alloc Z110) ?_
      refine WPl.s1 (o_stag G105 rfl rfl rfl ⟨rfl, rfl, rfl, rfl, rfl, rfl, rfl, trivial⟩ rfl rfl) ?_
      refine WPl.s1 (o_stag G110 rfl rfl rfl ⟨rfl, rfl, rfl, rfl, trivial⟩ rfl rfl) ?_
      refine WPl.nil ?_
      refine EX.then ?_
      refine WP.seq ?_
      refine WP.region ?_
      refine WPl.v rfl (o_move rfl) ?_
      refine WPl.v rfl (o_ldpa G105 rfl rfl rfl) ?_
      refine WPl.v rfl (o_ldpa G110 rfl rfl rfl) ?_
      refine WPl.v rfl (o_move rfl) ?_
      refine WPl.cs 9 rfl rfl rfl rfl (o_sig 8 (ren [(0, 4), (1, 2)]) (c103 f (some b15) g f.nights.length 0 f.pt0 (left0 f.shop.pigs) hf hgb (by omega) (by omega) (PtB.mono (pt0_bnd hf) (by omega)) (left0_b hpg)) e103 rfl rfl rfl w103 ⟨(lx rfl), (lx rfl), trivial⟩ r103) ?_
      refine WPl.v rfl (o_move rfl) ?_
      refine WPl.v rfl (o_extract rfl rfl) ?_
      refine WPl.v rfl (o_extract rfl rfl) ?_
      refine WPl.v rfl (o_extract rfl rfl) ?_
      refine WPl.v rfl (o_assign rfl) ?_
      refine WPl.v rfl (o_assign rfl) ?_
      refine WPl.v rfl (o_assign rfl) ?_
      refine WPl.nil ?_
      refine EX.then ?_
      refine WP.seq ?_
      refine WP.seq ?_
      refine WP.region ?_
      refine WPl.v rfl (o_move rfl) ?_
      refine WPl.v rfl (o_not rfl) ?_
      refine WPl.nil ?_
      refine EX.then ?_
      refine WP.cond rfl (fun hc2 => ?_) (fun hc2 => ?_)
      · try simp only [decide_eq_true_eq, decide_eq_false_iff_not, Bool.and_eq_true, Bool.or_eq_true, Bool.and_eq_false_iff, Bool.or_eq_false_iff, Bool.not_eq_true', Bool.not_eq_false', ne_eq, Decidable.not_not] at hc2
        have hno : (f.bestF g).2.2 = false := by unfold Fnd.bestF; simpa using hc2
        refine WP.seq ?_
        refine WP.region ?_
        refine WPl.v rfl (o_assign rfl) ?_
        refine WPl.v rfl (o_assign rfl) ?_
        refine WPl.nil ?_
        refine EX.then ?_
        refine WP.ret ?_
        refine EX.ret_then ?_
        have hE : f.leastE g = 3 := by simp [Fnd.leastE, hf, hno]
        rw [hE, show f.leastV g = 0 from by simp [Fnd.leastV, hE]]
        exact EX.fin id (.inl rfl) rfl (.tmp rfl (.tmp rfl .nil)) rfl (by simp [SV.res, El.res, At.res, keys]) trivial (by simp) (by simp)
      · try simp only [decide_eq_true_eq, decide_eq_false_iff_not, Bool.and_eq_true, Bool.or_eq_true, Bool.and_eq_false_iff, Bool.or_eq_false_iff, Bool.not_eq_true', Bool.not_eq_false', ne_eq, Decidable.not_not] at hc2
        have hyes : (f.bestF g).2.2 = true := by unfold Fnd.bestF; simpa using hc2
        refine WP.skip ?_
        refine EX.then ?_
        refine WP.seq ?_
        refine WP.region ?_
        refine WPl.v rfl (o_move rfl) ?_
        refine WPl.v rfl (o_assign rfl) ?_
        refine WPl.v rfl (o_assign rfl) ?_
        refine WPl.nil ?_
        refine EX.then ?_
        refine WP.ret ?_
        have hE : f.leastE g = 0 := by simp [Fnd.leastE, hf, hyes]
        rw [hE, show f.leastV g = (f.bestF g).1 from by simp [Fnd.leastV, hE]]
        exact EX.fin id (.inl rfl) rfl (.tmp rfl (.tmp rfl .nil)) rfl (by simp [SV.res, El.res, At.res, keys]) trivial (by simp) (by simp)
  · skip
    refine Sig.intro Try.func101 rfl 3 [(0, .e (.g [ai (f.shop.pounds), ai (f.shop.tl), ai (f.shop.th), ai (f.shop.al), ai (f.shop.ah), ai (f.shop.room), ai (f.shop.tpl), ai (f.shop.tph), ai (f.shop.apl), ai (f.shop.aph), .q 0, .q 1])), (1, .e (.a (.q 2)))] rfl w101 rfl rfl fun I w => ?_
    refine WP.seq ?_
    refine WP.region ?_
    refine WPl.l 3 4 rfl rfl rfl (o_boxg rfl) ?_
    refine WPl.v rfl (o_assign rfl) ?_
    refine WPl.v rfl (o_assign rfl) ?_
    refine WPl.nil ?_
    refine EX.then ?_
    refine WP.seq ?_
    refine WP.region ?_
    refine WPl.v rfl (o_ldpa G31 rfl rfl rfl) ?_
    refine WPl.cs 4 rfl rfl rfl rfl (o_sig 4 (ren [(0, 0), (1, 1)]) (c76NE f hf hl) e76 rfl rfl rfl w76NE ⟨(lx rfl), (lx rfl), trivial⟩ r76NE) ?_
    refine WPl.v rfl (o_move rfl) ?_
    refine WPl.v rfl (o_extract rfl rfl) ?_
    refine WPl.v rfl (o_extract rfl rfl) ?_
    refine WPl.v rfl (o_assign rfl) ?_
    refine WPl.v rfl (o_assign rfl) ?_
    refine WPl.nil ?_
    refine EX.then ?_
    refine WP.seq ?_
    refine WP.seq ?_
    refine WP.region ?_
    refine WPl.v rfl (o_move rfl) ?_
    refine WPl.v rfl (o_neq rfl rfl) ?_
    refine WPl.nil ?_
    refine EX.then ?_
    refine WP.cond rfl (fun hc1 => ?_) (fun hc1 => ?_)
    · try simp only [decide_eq_true_eq, decide_eq_false_iff_not, Bool.and_eq_true, Bool.or_eq_true, Bool.and_eq_false_iff, Bool.or_eq_false_iff, Bool.not_eq_true', Bool.not_eq_false', ne_eq, Decidable.not_not] at hc1
      refine WP.seq ?_
      refine WP.region ?_
      refine WPl.v rfl (o_move rfl) ?_
      refine WPl.v rfl (o_assign rfl) ?_
      refine WPl.v rfl (o_assign rfl) ?_
      refine WPl.nil ?_
      refine EX.then ?_
      refine WP.ret ?_
      refine EX.ret_then ?_
      have hE : f.leastE g = 130 := by simp [Fnd.leastE, hf]
      rw [hE, show f.leastV g = 0 from by simp [Fnd.leastV, hE]]
      exact EX.fin id (.inl rfl) rfl (.tmp rfl (.tmp rfl .nil)) rfl (by simp [SV.res, El.res, At.res, keys]) trivial (by simp) (by simp)
    · try simp only [decide_eq_true_eq, decide_eq_false_iff_not, Bool.and_eq_true, Bool.or_eq_true, Bool.and_eq_false_iff, Bool.or_eq_false_iff, Bool.not_eq_true', Bool.not_eq_false', ne_eq, Decidable.not_not] at hc1
      simp at hc1
theorem w43 {f : Fnd} : ∀ x ∈ ([.e (.g [ai (f.shop.pounds), ai (f.shop.tl), ai (f.shop.th), ai (f.shop.al), ai (f.shop.ah), ai (f.shop.room), ai (f.shop.tpl), ai (f.shop.tph), ai (f.shop.apl), ai (f.shop.aph), .q 0, .q 1])] : List SV), x.res (keys (α := Pred) [(0, PL EPig (f.shop.pigs)), (1, PL ENight (f.nights))]) := by simp [SV.res, El.res, At.res, keys]
theorem r43 {f : Fnd} : SV.res (keys (α := Pred) []) (.t [.a (ai (f.leastV costG)), .a (ai (f.leastE costG))]) := by simp [SV.res, El.res, At.res, keys]
set_option maxHeartbeats 4000000 in
theorem c43 (f : Fnd) (hl : f.shop.pigs.length ≤ 40) : Sig Try.prog 43 [.e (.g [ai (f.shop.pounds), ai (f.shop.tl), ai (f.shop.th), ai (f.shop.al), ai (f.shop.ah), ai (f.shop.room), ai (f.shop.tpl), ai (f.shop.tph), ai (f.shop.apl), ai (f.shop.aph), .q 0, .q 1])] [(0, PL EPig (f.shop.pigs)), (1, PL ENight (f.nights))] (.t [.a (ai (f.leastV costG)), .a (ai (f.leastE costG))]) [] := by
  refine Sig.intro Try.func43 rfl 2 [(0, .e (.g [ai (f.shop.pounds), ai (f.shop.tl), ai (f.shop.th), ai (f.shop.al), ai (f.shop.ah), ai (f.shop.room), ai (f.shop.tpl), ai (f.shop.tph), ai (f.shop.apl), ai (f.shop.aph), .q 0, .q 1]))] rfl w43 rfl rfl fun I w => ?_
  refine WP.seq ?_
  refine WP.region ?_
  refine WPl.l 2 3 rfl rfl rfl (o_boxg rfl) ?_
  refine WPl.v rfl (o_assign rfl) ?_
  refine WPl.v rfl (o_assign rfl) ?_
  refine WPl.nil ?_
  refine EX.then ?_
  refine WP.seq ?_
  refine WP.region ?_
  refine WPl.v rfl (o_ldpa G31 rfl rfl rfl) ?_
  refine WPl.imp (Imp.nam 3 4 (.func (.func 102) #[] #[]) (R := (OfP costG).and (Pred.is (.func (.func 102) #[] #[]))) (fun I => FvP.namea (fun (x : Int × BL) => (c102 x.1 x.2.1)) e102 (fun _ => (by simp [SV.res, El.res, At.res, keys])) I) rfl rfl) ?_
  refine WPl.cs 4 rfl rfl rfl rfl (o_sigc 4 (ren [(0, 0), (1, 1), (2, 3)]) (c101 f costG hl costG_b) e101 rfl rfl ⟨.inl rfl, .inr ⟨_, _, rfl, fun _ => rfl, (lxr rfl)⟩, trivial⟩ w101 ⟨(lx rfl), (lx rfl), (lxl rfl), trivial⟩ r101) ?_
  refine WPl.v rfl (o_extract rfl rfl) ?_
  refine WPl.v rfl (o_extract rfl rfl) ?_
  refine WPl.v rfl (o_assign rfl) ?_
  refine WPl.v rfl (o_assign rfl) ?_
  refine WPl.nil ?_
  refine EX.then ?_
  refine WP.ret ?_
  exact EX.fin id (.inl rfl) rfl (.tmp rfl (.tmp rfl .nil)) rfl r43 trivial (by simp) (by simp)
theorem w45 {f : Fnd} : ∀ x ∈ ([.e (.g [ai (f.shop.pounds), ai (f.shop.tl), ai (f.shop.th), ai (f.shop.al), ai (f.shop.ah), ai (f.shop.room), ai (f.shop.tpl), ai (f.shop.tph), ai (f.shop.apl), ai (f.shop.aph), .q 0, .q 1])] : List SV), x.res (keys (α := Pred) [(0, PL EPig (f.shop.pigs)), (1, PL ENight (f.nights))]) := by simp [SV.res, El.res, At.res, keys]
theorem r45 {f : Fnd} : SV.res (keys (α := Pred) [(0, PL (EP.sl EP.int) (f.wPlanV))]) (.t [.a (.q 0), .a (ai (f.leastE costG))]) := by simp [SV.res, El.res, At.res, keys]
set_option maxHeartbeats 4000000 in
theorem c45 (f : Fnd) (hl : f.shop.pigs.length ≤ 40) : Sig Try.prog 45 [.e (.g [ai (f.shop.pounds), ai (f.shop.tl), ai (f.shop.th), ai (f.shop.al), ai (f.shop.ah), ai (f.shop.room), ai (f.shop.tpl), ai (f.shop.tph), ai (f.shop.apl), ai (f.shop.aph), .q 0, .q 1])] [(0, PL EPig (f.shop.pigs)), (1, PL ENight (f.nights))] (.t [.a (.q 0), .a (ai (f.leastE costG))]) [(0, PL (EP.sl EP.int) (f.wPlanV))] := by
  have hgb := costG_b
  rcases Bool.eq_false_or_eq_true f.chk with hf | hf
  · skip
    refine Sig.intro Try.func45 rfl 2 [(0, .e (.g [ai (f.shop.pounds), ai (f.shop.tl), ai (f.shop.th), ai (f.shop.al), ai (f.shop.ah), ai (f.shop.room), ai (f.shop.tpl), ai (f.shop.tph), ai (f.shop.apl), ai (f.shop.aph), .q 0, .q 1]))] rfl w45 rfl rfl fun I w => ?_
    refine WP.seq ?_
    refine WP.region ?_
    refine WPl.l 2 3 rfl rfl rfl (o_boxg rfl) ?_
    refine WPl.v rfl (o_assign rfl) ?_
    refine WPl.v rfl (o_assign rfl) ?_
    refine WPl.nil ?_
    refine EX.then ?_
    refine WP.seq ?_
    refine WP.region ?_
    refine WPl.v rfl (o_ldpa G31 rfl rfl rfl) ?_
    refine WPl.cM 5 (o_sigm (J := [0]) 3 4 (ren [(0, 0), (1, 1)]) (c76N f hf) e76 rfl rfl SvsOK.rf w76N ⟨(lx rfl), (lx rfl), trivial⟩ (fun _ => rfl) (by simp [SV.res, El.res, At.res, keys]) rfl) rfl rfl rfl fun b13 => ?_
    refine WPl.v rfl (o_move rfl) ?_
    refine WPl.v rfl (o_extract rfl rfl) ?_
    refine WPl.v rfl (o_extract rfl rfl) ?_
    refine WPl.v rfl (o_assign rfl) ?_
    refine WPl.v rfl (o_assign rfl) ?_
    refine WPl.nil ?_
    refine EX.then ?_
    refine WP.seq ?_
    refine WP.seq ?_
    refine WP.region ?_
    refine WPl.v rfl (o_move rfl) ?_
    refine WPl.v rfl (o_neq rfl rfl) ?_
    refine WPl.nil ?_
    refine EX.then ?_
    refine WP.cond rfl (fun hc1 => ?_) (fun hc1 => ?_)
    · try simp only [decide_eq_true_eq, decide_eq_false_iff_not, Bool.and_eq_true, Bool.or_eq_true, Bool.and_eq_false_iff, Bool.or_eq_false_iff, Bool.not_eq_true', Bool.not_eq_false', ne_eq, Decidable.not_not] at hc1
      simp at hc1
    · try simp only [decide_eq_true_eq, decide_eq_false_iff_not, Bool.and_eq_true, Bool.or_eq_true, Bool.and_eq_false_iff, Bool.or_eq_false_iff, Bool.not_eq_true', Bool.not_eq_false', ne_eq, Decidable.not_not] at hc1
      have hcb := Fnd.chkB hf
      have hpg := Shop.pigsOK (Fnd.shopOK hf)
      refine WP.skip ?_
      refine EX.then ?_
      refine WP.seq ?_
      refine WP.region ?_
      refine WPl.v rfl (o_move rfl) ?_
      refine WPl.cs 5 rfl rfl rfl rfl (o_sig 5 (ren [(0, 3)]) (c88 f (some b13) (by omega)) e88 rfl rfl rfl w88 ⟨(lx rfl), trivial⟩ r88) ?_
      refine WPl.v rfl (o_move rfl) ?_
      refine WPl.v rfl (o_extract rfl rfl) ?_
      refine WPl.v rfl (o_extract rfl rfl) ?_
      refine WPl.l 5 6 rfl rfl rfl (o_alloc Z105) ?_
      refine WPl.l 6 7 rfl rfl rfl (o_alloc Z110) ?_
      refine WPl.s1 (o_stag G105 rfl rfl rfl ⟨rfl, rfl, rfl, rfl, rfl, rfl, rfl, trivial⟩ rfl rfl) ?_
      refine WPl.s1 (o_stag G110 rfl rfl rfl ⟨rfl, rfl, rfl, rfl, trivial⟩ rfl rfl) ?_
      refine WPl.nil ?_
      refine EX.then ?_
      refine WP.seq ?_
      refine WP.region ?_
      refine WPl.v rfl (o_move rfl) ?_
      refine WPl.v rfl (o_ldpa G105 rfl rfl rfl) ?_
      refine WPl.v rfl (o_ldpa G110 rfl rfl rfl) ?_
      refine WPl.imp (Imp.nam 7 8 (.func (.func 102) #[] #[]) (R := (OfP costG).and (Pred.is (.func (.func 102) #[] #[]))) (fun I => FvP.namea (fun (x : Int × BL) => (c102 x.1 x.2.1)) e102 (fun _ => (by simp [SV.res, El.res, At.res, keys])) I) rfl rfl) ?_
      refine WPl.cs 9 rfl rfl rfl rfl (o_sigc 8 (ren [(0, 3), (1, 7)]) (c103 f (some b13) costG f.nights.length 0 f.pt0 (left0 f.shop.pigs) hf hgb (by omega) (by omega) (PtB.mono (pt0_bnd hf) (by omega)) (left0_b hpg)) e103 rfl rfl ⟨.inl rfl, .inl rfl, .inl rfl, .inl rfl, .inr ⟨_, _, rfl, fun _ => rfl, (lxr rfl)⟩, trivial⟩ w103 ⟨(lx rfl), (lxl rfl), trivial⟩ r103) ?_
      refine WPl.v rfl (o_move rfl) ?_
      refine WPl.v rfl (o_extract rfl rfl) ?_
      refine WPl.v rfl (o_extract rfl rfl) ?_
      refine WPl.v rfl (o_extract rfl rfl) ?_
      refine WPl.v rfl (o_assign rfl) ?_
      refine WPl.v rfl (o_assign rfl) ?_
      refine WPl.v rfl (o_assign rfl) ?_
      refine WPl.nil ?_
      refine EX.then ?_
      refine WP.seq ?_
      refine WP.seq ?_
      refine WP.region ?_
      refine WPl.v rfl (o_move rfl) ?_
      refine WPl.v rfl (o_not rfl) ?_
      refine WPl.nil ?_
      refine EX.then ?_
      refine WP.cond rfl (fun hc2 => ?_) (fun hc2 => ?_)
      · try simp only [decide_eq_true_eq, decide_eq_false_iff_not, Bool.and_eq_true, Bool.or_eq_true, Bool.and_eq_false_iff, Bool.or_eq_false_iff, Bool.not_eq_true', Bool.not_eq_false', ne_eq, Decidable.not_not] at hc2
        have hno : (f.bestF costG).2.2 = false := by unfold Fnd.bestF; simpa using hc2
        refine WP.seq ?_
        refine WP.region ?_
        refine WPl.v rfl (o_assign rfl) ?_
        refine WPl.v rfl (o_assign rfl) ?_
        refine WPl.nil ?_
        refine EX.then ?_
        refine WP.ret ?_
        refine EX.ret_then ?_
        refine EX.imp (Imp.nam 9 10 (.slice none 0 0) (R := PN (EP.sl EP.int)) pn_ok rfl rfl) ?_
        refine EX.imp (Imp.swF 2 9 rfl (lxr rfl)) ?_
        have hE : f.leastE costG = 3 := by simp [Fnd.leastE, hf, hno]
        rw [hE, show f.wPlanV = [] from by simp [Fnd.wPlanV, hE]]
        exact EX.fin (ren [(0, 9)]) (.inl rfl) rfl (.tmp rfl (.tmp rfl .nil)) rfl (by simp [SV.res, El.res, At.res, keys]) ⟨lxl rfl, trivial⟩ (by simp) (by simp)
      · try simp only [decide_eq_true_eq, decide_eq_false_iff_not, Bool.and_eq_true, Bool.or_eq_true, Bool.and_eq_false_iff, Bool.or_eq_false_iff, Bool.not_eq_true', Bool.not_eq_false', ne_eq, Decidable.not_not] at hc2
        have hyes : (f.bestF costG).2.2 = true := by unfold Fnd.bestF; simpa using hc2
        refine WP.skip ?_
        refine EX.then ?_
        refine WP.seq ?_
        refine WP.region ?_
        refine WPl.v rfl (o_move rfl) ?_
        refine WPl.v rfl (o_assign rfl) ?_
        refine WPl.v rfl (o_assign rfl) ?_
        refine WPl.nil ?_
        refine EX.then ?_
        refine WP.ret ?_
        have hE : f.leastE costG = 0 := by simp [Fnd.leastE, hf, hyes]
        rw [hE, show f.wPlanV = (f.bestF costG).2.1 from by simp [Fnd.wPlanV, hE]]
        exact EX.fin (ren [(0, 8)]) (.inl rfl) rfl (.tmp rfl (.tmp rfl .nil)) rfl (by simp [SV.res, El.res, At.res, keys]) ⟨(lx rfl), trivial⟩ (by simp) (by simp)
  · skip
    refine Sig.intro Try.func45 rfl 2 [(0, .e (.g [ai (f.shop.pounds), ai (f.shop.tl), ai (f.shop.th), ai (f.shop.al), ai (f.shop.ah), ai (f.shop.room), ai (f.shop.tpl), ai (f.shop.tph), ai (f.shop.apl), ai (f.shop.aph), .q 0, .q 1]))] rfl w45 rfl rfl fun I w => ?_
    refine WP.seq ?_
    refine WP.region ?_
    refine WPl.l 2 3 rfl rfl rfl (o_boxg rfl) ?_
    refine WPl.v rfl (o_assign rfl) ?_
    refine WPl.v rfl (o_assign rfl) ?_
    refine WPl.nil ?_
    refine EX.then ?_
    refine WP.seq ?_
    refine WP.region ?_
    refine WPl.v rfl (o_ldpa G31 rfl rfl rfl) ?_
    refine WPl.cs 3 rfl rfl rfl rfl (o_sig 3 (ren [(0, 0), (1, 1)]) (c76NE f hf hl) e76 rfl rfl rfl w76NE ⟨(lx rfl), (lx rfl), trivial⟩ r76NE) ?_
    refine WPl.v rfl (o_move rfl) ?_
    refine WPl.v rfl (o_extract rfl rfl) ?_
    refine WPl.v rfl (o_extract rfl rfl) ?_
    refine WPl.v rfl (o_assign rfl) ?_
    refine WPl.v rfl (o_assign rfl) ?_
    refine WPl.nil ?_
    refine EX.then ?_
    refine WP.seq ?_
    refine WP.seq ?_
    refine WP.region ?_
    refine WPl.v rfl (o_move rfl) ?_
    refine WPl.v rfl (o_neq rfl rfl) ?_
    refine WPl.nil ?_
    refine EX.then ?_
    refine WP.cond rfl (fun hc1 => ?_) (fun hc1 => ?_)
    · try simp only [decide_eq_true_eq, decide_eq_false_iff_not, Bool.and_eq_true, Bool.or_eq_true, Bool.and_eq_false_iff, Bool.or_eq_false_iff, Bool.not_eq_true', Bool.not_eq_false', ne_eq, Decidable.not_not] at hc1
      refine WP.seq ?_
      refine WP.region ?_
      refine WPl.v rfl (o_move rfl) ?_
      refine WPl.v rfl (o_assign rfl) ?_
      refine WPl.v rfl (o_assign rfl) ?_
      refine WPl.nil ?_
      refine EX.then ?_
      refine WP.ret ?_
      refine EX.ret_then ?_
      refine EX.imp (Imp.nam 3 4 (.slice none 0 0) (R := PN (EP.sl EP.int)) pn_ok rfl rfl) ?_
      refine EX.imp (Imp.swF 2 3 rfl (lxr rfl)) ?_
      have hE : f.leastE costG = 130 := by simp [Fnd.leastE, hf]
      rw [hE, show f.wPlanV = [] from by simp [Fnd.wPlanV, hE]]
      exact EX.fin (ren [(0, 3)]) (.inl rfl) rfl (.tmp rfl (.tmp rfl .nil)) rfl (by simp [SV.res, El.res, At.res, keys]) ⟨lxl rfl, trivial⟩ (by simp) (by simp)
    · try simp only [decide_eq_true_eq, decide_eq_false_iff_not, Bool.and_eq_true, Bool.or_eq_true, Bool.and_eq_false_iff, Bool.or_eq_false_iff, Bool.not_eq_true', Bool.not_eq_false', ne_eq, Decidable.not_not] at hc1
      simp at hc1
end Go.Flong
namespace Go.Flong
open Go Go.Eng Go.Proofs
theorem B185 : BldT Try.prog 185 [(0, 1), (1, 7), (8, 4)] [.int .i64 0, .int .i64 0, .int .i64 0, .int .i64 0, .int .i64 0, .int .i64 0, .int .i64 0, .int .i64 0, .int .i64 0, .int .i64 0, .int .i64 0, .int .i64 0] := BldT.mk (ns := [1, 7, 4]) Try.underlying185 ⟨Try.sizeOf3, Try.sizeOf105, Try.sizeOf110, trivial⟩ rfl Try.zeroValue185 rfl
theorem Z185 : Zero Try.prog 185 [ai (0), ai (0), ai (0), ai (0), ai (0), ai (0), ai (0), ai (0), ai (0), ai (0), ai (0), ai (0)] := .mk Try.zeroValue185 rfl rfl
theorem F100_1 : Fld Try.prog 100 1 12 := .mk Try.underlying100 rfl rfl rfl Try.sizeOf98 rfl
theorem S98 : TyS Try.prog 98 := ⟨Try.isAgg98, Try.sizeOf98⟩
theorem e110 : Enters' Try.prog 110 := Try.call110
theorem e145 : Enters' Try.prog 145 := Try.call145
theorem e146 : Enters' Try.prog 146 := Try.call146
theorem w110 {f : Fnd} {b : Nat} {night : Int} {p : Pt} {left : List Int} : ∀ x ∈ ([.e (.a (.q 0)), .i (night), .e (.g [ai (p.pounds), ai (p.tl), ai (p.th), ai (p.al), ai (p.ah), ai (p.dl), ai (p.dh)]), .e (.g [ai (nth left 0), ai (nth left 1), ai (nth left 2), ai (nth left 3)])] : List SV), x.res (keys (α := Pred) [(0, PP (EWk (some b)) (f))]) := by simp [SV.res, El.res, At.res, keys]
theorem r110 {f : Fnd} {n : Nat} {night : Int} {p : Pt} {left : List Int} : SV.res (keys (α := Pred) []) (.i (f.ahW n night p left)) := by simp [SV.res, El.res, At.res, keys]
theorem w145 {f : Fnd} {b : Nat} {night : Int} {p : Pt} {left : List Int} : ∀ x ∈ ([.e (.a (.q 0)), .i (night), .e (.g [ai (p.pounds), ai (p.tl), ai (p.th), ai (p.al), ai (p.ah), ai (p.dl), ai (p.dh)]), .e (.g [ai (nth left 0), ai (nth left 1), ai (nth left 2), ai (nth left 3)])] : List SV), x.res (keys (α := Pred) [(0, PP (EWk (some b)) (f))]) := by simp [SV.res, El.res, At.res, keys]
theorem r145 {f : Fnd} {n : Nat} {night : Int} {p : Pt} {left : List Int} : SV.res (keys (α := Pred) []) (.i (f.chW n night p left)) := by simp [SV.res, El.res, At.res, keys]
set_option maxHeartbeats 4000000 in
theorem c145 (f : Fnd) (b : Nat) (n : Nat) (night : Int) (p : Pt) (left : List Int) (hf : f.chk = true) (hnt : night + n = f.nights.length) (hn0 : 0 ≤ night) (hp : ChB p night) (hl : bnd4 left) (ahC : ∀ (k : Nat), n = k + 1 → ∀ (p : Pt) (left : List Int), AhB p (night + 1) → bnd4 left → SigX Try.prog 110 [.e (.a (.q 0)), .i ((night + 1)), .e (.g [ai (p.pounds), ai (p.tl), ai (p.th), ai (p.al), ai (p.ah), ai (p.dl), ai (p.dh)]), .e (.g [ai (nth left 0), ai (nth left 1), ai (nth left 2), ai (nth left 3)])] [(0, PP (EWk (some b)) (f))] (memoXP true 12 b (MemoK f)) (.i (f.ahW k (night + 1) p left)) []) : SigX Try.prog 145 [.e (.a (.q 0)), .i (night), .e (.g [ai (p.pounds), ai (p.tl), ai (p.th), ai (p.al), ai (p.ah), ai (p.dl), ai (p.dh)]), .e (.g [ai (nth left 0), ai (nth left 1), ai (nth left 2), ai (nth left 3)])] [(0, PP (EWk (some b)) (f))] (memoXP true 12 b (MemoK f)) (.i (f.chW n night p left)) [] := by
  have hpg := Shop.pigsOK (Fnd.shopOK hf)
  have hp4 := hpg.2
  have hn := Fnd.nightsOK hf
  have hn4 := hn.2
  refine SigX.intro memoXP.plain Try.func145 rfl 2 1 [(0, .e (.a (.q 0))), (1, .i (night)), (2, .e (.g [ai (p.pounds), ai (p.tl), ai (p.th), ai (p.al), ai (p.ah), ai (p.dl), ai (p.dh)])), (3, .e (.g [ai (nth left 0), ai (nth left 1), ai (nth left 2), ai (nth left 3)]))] rfl w145 rfl rfl rfl fun I w => ?_
  refine WP.seq ?_
  refine WP.region ?_
  refine WPl.l 2 3 rfl rfl rfl (o_boxa rfl (.inl ⟨_, (lx rfl), PP.one⟩)) ?_
  refine WPl.l 3 4 rfl rfl rfl (o_boxa rfl rfl) ?_
  refine WPl.l 4 5 rfl rfl rfl (o_boxg rfl) ?_
  refine WPl.l 5 6 rfl rfl rfl (o_boxg rfl) ?_
  refine WPl.v rfl (o_assign rfl) ?_
  refine WPl.nil ?_
  refine EX.then ?_
  refine WP.seq ?_
  refine WP.seq ?_
  refine WP.draw (nf := 7) [⟨[18, 19, 20, 21, 22, 23], [6], [], [], []⟩, ⟨[17], [], [], [], []⟩, ⟨[17], [], [], [], [1]⟩, ⟨[17], [], [], [], [1, 2]⟩, ⟨[17], [], [], [], [1, 2, 3]⟩, ⟨[17], [], [6], [6], [1, 2, 3, 4]⟩, ⟨[17], [], [], [], [1, 2, 3, 4, 5]⟩, ⟨[], [], [], [], [0, 1, 2, 3, 4, 5, 6]⟩] (by kernel_rfl) (by kernel_rfl) ?_
  refine DRQ.v rfl rfl rfl (o_ldp S3 rfl rfl rfl) ?_
  refine DRQ.v rfl rfl rfl (o_ldp S95 rfl rfl rfl) ?_
  refine DRQ.v rfl rfl rfl (o_nilq rfl (lx rfl)) ?_
  refine DRQ.v rfl rfl rfl (o_fldq F100_0 rfl (lx rfl)) ?_
  refine DRQ.v rfl rfl rfl (o_flde F31_1 rfl (lx rfl)) ?_
  refine DRQ.x 6 rfl rfl rfl rfl (o_ldex S29 rfl (lx rfl) (strS rfl)) ?_
  refine DRQ.v rfl rfl rfl (o_lenq L29 rfl (lx rfl)) ?_
  refine DRQ.v rfl rfl rfl (o_eql rfl rfl) ?_
  refine DRQ.nil' ?_
  refine EX.then ?_
  refine WP.cond rfl (fun hc1 => ?_) (fun hc1 => ?_)
  · try simp only [decide_eq_true_eq, decide_eq_false_iff_not, Bool.and_eq_true, Bool.or_eq_true, Bool.and_eq_false_iff, Bool.or_eq_false_iff, Bool.not_eq_true', Bool.not_eq_false', ne_eq, Decidable.not_not] at hc1
    obtain rfl : n = 0 := by omega
    refine WP.seq ?_
    refine WP.region ?_
    refine WPl.v rfl (o_assign rfl) ?_
    refine WPl.nil ?_
    refine EX.then ?_
    refine WP.ret ?_
    refine EX.ret_then ?_
    rw [show f.chW 0 night p left = 0 from rfl]
    exact EX.finX id 1 rfl (.inl rfl) rfl (.tmp rfl .nil) rfl (by simp [SV.res, El.res, At.res, keys]) trivial rfl (by simp) (by simp)
  · try simp only [decide_eq_true_eq, decide_eq_false_iff_not, Bool.and_eq_true, Bool.or_eq_true, Bool.and_eq_false_iff, Bool.or_eq_false_iff, Bool.not_eq_true', Bool.not_eq_false', ne_eq, Decidable.not_not] at hc1
    obtain ⟨k, rfl⟩ : ∃ k, n = k + 1 := ⟨n - 1, by omega⟩
    have hnc := hn.at (show night.toNat < f.nights.length by omega)
    rw [show ((night.toNat : Nat) : Int) = night by omega] at hnc
    have hpb := hp.1
    refine WP.skip ?_
    refine EX.then ?_
    refine WP.seq ?_
    refine WP.region ?_
    refine WPl.v rfl (o_ldp S3 rfl rfl rfl) ?_
    refine WPl.v rfl (o_ldpa G105 rfl rfl rfl) ?_
    refine WPl.v rfl (o_ldpa G110 rfl rfl rfl) ?_
    refine WPl.v rfl (o_build B185 rfl ⟨rfl, trivial⟩ rfl rfl) ?_
    refine WPl.l 7 8 rfl rfl rfl (o_alloc Z185) ?_
    refine WPl.s1 (o_stag G185 rfl rfl rfl ⟨rfl, rfl, rfl, rfl, rfl, rfl, rfl, rfl, rfl, rfl, rfl, rfl, trivial⟩ rfl rfl) ?_
    refine WPl.nil ?_
    refine EX.then ?_
    refine WP.seq ?_
    refine WP.seq ?_
    refine WP.openX (km := 1) rfl fun ml hml => ?_
    refine WP.draw (nf := 8) [⟨[34], [], [], [], []⟩, ⟨[34], [], [], [], [0]⟩, ⟨[34], [], [], [], [0, 1]⟩, ⟨[34], [], [], [], [0, 1, 2]⟩, ⟨[30, 31, 32, 33], [], [], [], []⟩, ⟨[], [], [], [], [0, 1, 2, 3, 4]⟩, ⟨[], [], [], [], [0, 1, 2, 3, 4, 5]⟩, ⟨[37], [], [], [], [0, 1, 2, 3, 4, 5, 6]⟩, ⟨[36, 10], [], [], [], [0, 1, 2, 3, 4, 5, 6]⟩, ⟨[37], [], [], [], [0, 1, 2, 3, 4, 5, 6, 7]⟩, ⟨[], [], [], [], [0, 1, 2, 3, 4, 5, 6, 7, 8, 9]⟩] (by kernel_rfl) (by kernel_rfl) ?_
    refine DRQ.v rfl rfl rfl (o_ldp S95 rfl rfl rfl) ?_
    refine DRQ.v rfl rfl rfl (o_nilq rfl (lx rfl)) ?_
    refine DRQ.v rfl rfl rfl (o_fldq F100_1 rfl (lx rfl)) ?_
    refine DRQ.v rfl rfl rfl (o_lde S98 rfl (lx rfl) (strV rfl)) ?_
    refine DRQ.v rfl rfl rfl (o_ldpa G185 rfl rfl rfl) ?_
    refine DRQ.v rfl rfl rfl (o_look2 (km := 1) (a := [night, p.pounds, p.tl, p.th, p.al, p.ah, p.dl, p.dh, nth left 0, nth left 1, nth left 2, nth left 3]) M98 rfl rfl isKey.g rfl rfl) ?_
    refine DRQ.v rfl rfl rfl (o_move rfl) ?_
    refine DRQ.v rfl rfl rfl (o_extract rfl rfl) ?_
    refine DRQ.v rfl rfl rfl (o_extract rfl rfl) ?_
    refine DRQ.v rfl rfl rfl (o_assign rfl) ?_
    refine DRQ.v rfl rfl rfl (o_assign rfl) ?_
    refine DRQ.nil' ?_
    refine EX.then ?_
    refine WP.seq ?_
    refine WP.region ?_
    refine WPl.v rfl (o_move rfl) ?_
    refine WPl.nil ?_
    refine EX.then ?_
    refine WP.cond rfl (fun hc2 => ?_) (fun hc2 => ?_)
    · try simp only [decide_eq_true_eq, decide_eq_false_iff_not, Bool.and_eq_true, Bool.or_eq_true, Bool.and_eq_false_iff, Bool.or_eq_false_iff, Bool.not_eq_true', Bool.not_eq_false', ne_eq, Decidable.not_not] at hc2
      refine WP.imp (Imp.closeX (km := 1) (Kp := (MemoK f)) rfl hml) ?_
      refine WP.seq ?_
      refine WP.region ?_
      refine WPl.v rfl (o_move rfl) ?_
      refine WPl.v rfl (o_assign rfl) ?_
      refine WPl.nil ?_
      refine EX.then ?_
      refine WP.ret ?_
      refine EX.ret_then ?_
      rw [show f.chW (k + 1) night p left = (mget ml [night, p.pounds, p.tl, p.th, p.al, p.ah, p.dl, p.dh, nth left 0, nth left 1, nth left 2, nth left 3]).getD 0 from (memo_get hl.1 hnt hml hc2).symm]
      exact EX.finX id 1 rfl (.inl rfl) rfl (.tmp rfl .nil) rfl (by simp [SV.res, El.res, At.res, keys]) trivial rfl (by simp) (by simp)
    · try simp only [decide_eq_true_eq, decide_eq_false_iff_not, Bool.and_eq_true, Bool.or_eq_true, Bool.and_eq_false_iff, Bool.or_eq_false_iff, Bool.not_eq_true', Bool.not_eq_false', ne_eq, Decidable.not_not] at hc2
      refine WP.imp (Imp.closeX (km := 1) (Kp := (MemoK f)) rfl hml) ?_
      refine WP.skip ?_
      refine EX.then ?_
      refine WP.seq ?_
      refine WP.region ?_
      refine WPl.l 8 9 rfl rfl rfl (o_alloc Z3) ?_
      refine WPl.s1 (o_sta S3 rfl rfl rfl rfl rfl) ?_
      refine WPl.nil ?_
      refine EX.then ?_
      refine WP.seq ?_
      refine WP.seq ?_
      refine WP.region ?_
      refine WPl.v rfl (o_ldp S95 rfl rfl rfl) ?_
      refine WPl.v rfl (o_ldpa G105 rfl rfl rfl) ?_
      refine WPl.v rfl (o_ldpa G110 rfl rfl rfl) ?_
      refine WPl.cs 10 rfl rfl rfl rfl (o_sig 9 (ren [(0, 0)]) (c140 f (some b) p left (1040 + 400100 * night) hf hpb (by omega) hl) e140 rfl rfl rfl w140 ⟨(lx rfl), trivial⟩ r140) ?_
      refine WPl.nil ?_
      refine EX.then ?_
      refine WP.block ?_
      refine WP.leR (S' := ⟨10, [(4, .e (.a (.p 2 (0)))), (5, .e (.a (.p 3 (0)))), (7, .e (.a (.p 5 (0)))), (8, .i (0)), (9, .e (.a (.p 7 (0)))), (12, .e (.a (.p 8 (0)))), (43, .e (.a (.q 9)))], [(0, PP (EWk (some b)) (f)), (9, ItP Try.prog (f.chItems p left))], [(1, .ext (memoXP true 12 b (MemoK f))), (2, .blk [.q 0] 95), (3, .blk [ai (night)] 3), (5, .blk [ai (nth left 0), ai (nth left 1), ai (nth left 2), ai (nth left 3)] 110), (7, .blk [ai (night), ai (p.pounds), ai (p.tl), ai (p.th), ai (p.al), ai (p.ah), ai (p.dl), ai (p.dh), ai (nth left 0), ai (nth left 1), ai (nth left 2), ai (nth left 3)] 185), (8, .blk [ai (1073741824)] 3)], [], []⟩) id (LeR.of ⟨rfl, rfl, rfl, rfl, rfl, rfl, rfl, trivial⟩ ⟨(lx rfl), (lx rfl), trivial⟩ ⟨rfl, rfl, rfl, rfl, rfl, rfl, trivial⟩ rfl rfl rfl rfl rfl) ?_
      refine WP.rangeG 12 1 ((f.chL p left).length) (fun i => ⟨[.e (.a (.q 0)), .e (.g [ai ((p.addL f.shop.pigs (nth (f.chL p left) (i : Int))).pounds), ai ((p.addL f.shop.pigs (nth (f.chL p left) (i : Int))).tl), ai ((p.addL f.shop.pigs (nth (f.chL p left) (i : Int))).th), ai ((p.addL f.shop.pigs (nth (f.chL p left) (i : Int))).al), ai ((p.addL f.shop.pigs (nth (f.chL p left) (i : Int))).ah), ai ((p.addL f.shop.pigs (nth (f.chL p left) (i : Int))).dl), ai ((p.addL f.shop.pigs (nth (f.chL p left) (i : Int))).dh)])], [], [(0, PL EP.int ((nth (f.chL p left) (i : Int))))]⟩) (fun i => ⟨12, [(4, .e (.a (.p 2 (0)))), (5, .e (.a (.p 3 (0)))), (7, .e (.a (.p 5 (0)))), (8, .i (0)), (9, .e (.a (.p 7 (0)))), (12, .e (.a (.p 8 (0)))), (43, .e (.a (.q 9)))], [(0, PP (EWk (some b)) (f)), (9, ItP Try.prog (f.chItems p left))], [(1, .ext (memoXP true 12 b (MemoK f))), (2, .blk [.q 0] 95), (3, .blk [ai (night)] 3), (5, .blk [ai (nth left 0), ai (nth left 1), ai (nth left 2), ai (nth left 3)] 110), (7, .blk [ai (night), ai (p.pounds), ai (p.tl), ai (p.th), ai (p.al), ai (p.ah), ai (p.dl), ai (p.dh), ai (nth left 0), ai (nth left 1), ai (nth left 2), ai (nth left 3)] 185), (8, .blk [ai (chRows f.shop.pigs (fun r => f.aheadOf (fun q => f.chW k (night + 1) q (takeL left r)) (night + 1) ((p.addL f.shop.pigs r).lose (nth f.nights night))) (f.chL p left) i)] 3), (10, .ob (.deferred (some [])))], [10], []⟩) (fun _ _ => False) rfl rfl (lx rfl) (rfl) (fun _ => RSt.of1 1 rfl rfl rfl rfl rfl rfl memoXP.plain rfl) (fun _ _ h => h.elim) rfl rfl rfl (fun _ _ => ItemOK.of rfl) rfl rfl id (LeR.of ⟨rfl, rfl, rfl, rfl, rfl, rfl, rfl, trivial⟩ ⟨(lx rfl), (lx rfl), trivial⟩ ⟨rfl, rfl, rfl, rfl, rfl, (congrArg (fun z => some (Ent.blk z 3)) (List.cons_eq_cons.2 ⟨(congrArg (fun z => ai z) (show (1073741824) = ((fun i => chRows f.shop.pigs (fun r => f.aheadOf (fun q => f.chW k (night + 1) q (takeL left r)) (night + 1) ((p.addL f.shop.pigs r).lose (nth f.nights night))) (f.chL p left) i) 0) from rfl)), (Eq.refl [])⟩)), rfl, trivial⟩ rfl rfl rfl rfl rfl) ?_ ?_ ?_
      · intro i hi w1 E1 I1 R1 pβ1 pν1 us1
        have hr := chL_at (p := p) hl hp4 hi
        have hnx := ChB.next hp hn0 hpg hr.1 hr.2.1 hnc
        have hpe := pence_bnd hpg hr.1 hr.2.1
        have hab := ahW_bnd hpg k (night + 1) ((p.addL f.shop.pigs (nth (f.chL p left) (i : Int))).lose (nth f.nights night)) hr.2.2
        have hnv : neverC = 1073741824 := rfl
        refine WP.seq ?_
        refine WP.region ?_
        refine WPl.v rfl (o_assign rfl) ?_
        refine WPl.nil ?_
        refine EX.then ?_
        refine WP.region ?_
        refine WPl.l 13 14 rfl rfl rfl (o_alloc Z105) ?_
        refine WPl.s1 (o_stag G105 rfl rfl rfl ⟨rfl, rfl, rfl, rfl, rfl, rfl, rfl, trivial⟩ rfl rfl) ?_
        refine WPl.nil ?_
        refine EX.beg rfl ?_
        refine WP.block ?_
        refine WP.seq ?_
        refine WP.region ?_
        refine WPl.v rfl (o_ldp S95 rfl rfl rfl) ?_
        refine WPl.v rfl (o_ldpa G110 rfl rfl rfl) ?_
        refine WPl.v rfl (o_move rfl) ?_
        refine WPl.cs 14 rfl rfl rfl rfl (o_sigbc 14 (ren [(0, 0), (1, 12)]) (Sig.free (c141 f (some b) left (nth (f.chL p left) (i : Int)) hpg hl.1 (fun j hj => hl.2 j (by rw [← hl.1]; exact hj)) hr.1 hr.2.1)) e141 rfl rfl SvsOK.rf w141 ⟨.x (lx rfl), .ext (lx rfl) rfl, trivial⟩ r141) ?_
        refine WPl.v rfl (o_move rfl) ?_
        refine WPl.v rfl (o_extract rfl rfl) ?_
        refine WPl.v rfl (o_extract rfl rfl) ?_
        refine WPl.l 14 15 rfl rfl rfl (o_alloc Z110) ?_
        refine WPl.s1 (o_stag G110 rfl rfl rfl ⟨rfl, rfl, rfl, rfl, trivial⟩ rfl rfl) ?_
        refine WPl.v rfl (o_assign rfl) ?_
        refine WPl.nil ?_
        refine EX.then ?_
        refine WP.draw (nf := 17) [⟨[54, 55, 56, 57, 58, 59, 60, 61, 62, 63, 64, 65, 66, 67, 68, 69, 70], [1, 15, 16], [], [], []⟩, ⟨[53, 55, 56, 57, 58, 59, 60, 61, 62, 63, 64, 65, 66, 67, 68, 69], [1, 15, 16], [], [], []⟩, ⟨[53, 54, 56, 57, 58, 59, 60, 61, 62, 63, 64, 65, 66, 67, 68], [15, 16], [], [], []⟩, ⟨[53, 54, 55, 58, 59, 60, 61, 62, 63, 64, 65, 66, 67, 68], [15, 16], [], [], []⟩, ⟨[53, 54, 55, 58, 59, 60, 61, 62, 63, 64, 65, 66, 67, 68], [15, 16], [], [], [3]⟩, ⟨[53, 54, 55, 56, 57, 59, 60, 61, 62, 63, 64, 65, 66, 68], [15, 16], [], [], []⟩, ⟨[53, 54, 55, 56, 57, 58, 64, 68], [], [], [], []⟩, ⟨[53, 54, 55, 56, 57, 58, 64, 68], [], [], [], [6]⟩, ⟨[53, 54, 55, 56, 57, 58, 64, 68], [], [], [], [6, 7]⟩, ⟨[53, 54, 55, 56, 57, 58, 64, 68], [], [], [], [6, 7, 8]⟩, ⟨[53, 54, 55, 56, 57, 58, 64, 68], [], [15], [15], [6, 7, 8, 9]⟩, ⟨[53, 54, 55, 56, 57, 58, 59, 60, 61, 62, 63, 68], [15], [], [], []⟩, ⟨[53, 54, 55, 56, 57, 58, 68], [], [16], [16], [6, 7, 8, 9, 10, 11]⟩, ⟨[53, 54, 55, 56, 57, 58, 68], [], [], [], [6, 7, 8, 9, 10, 11, 12]⟩, ⟨[53, 54, 55, 56, 57, 68], [], [], [], [5, 6, 7, 8, 9, 10, 11, 12, 13]⟩, ⟨[53, 54, 55, 56, 57, 58, 59, 60, 61, 62, 63, 64, 65, 66, 67], [15, 16], [], [], []⟩, ⟨[53, 54], [], [], [1], [2, 3, 4, 5, 6, 7, 8, 9, 10, 11, 12, 13, 14, 15]⟩, ⟨[53], [], [], [], [1, 2, 3, 4, 5, 6, 7, 8, 9, 10, 11, 12, 13, 14, 15, 16]⟩, ⟨[], [], [], [], [0, 1, 2, 3, 4, 5, 6, 7, 8, 9, 10, 11, 12, 13, 14, 15, 16, 17]⟩, ⟨[], [], [], [8], [0, 1, 2, 3, 4, 5, 6, 7, 8, 9, 10, 11, 12, 13, 14, 15, 16, 17, 18]⟩] (by kernel_rfl) (by kernel_rfl) ?_
        refine DRQ.v rfl rfl rfl (o_ldp S3 rfl rfl rfl) ?_
        refine DRQ.v rfl rfl rfl (o_move rfl) ?_
        refine DRQ.v rfl rfl rfl (o_ldp S95 rfl rfl rfl) ?_
        refine DRQ.v rfl rfl rfl (o_ldp S3 rfl rfl rfl) ?_
        refine DRQ.v rfl rfl rfl (o_add rfl rfl (by first | omega | (simp; omega)) (by first | omega | (simp; omega))) ?_
        refine DRQ.v rfl rfl rfl (o_ldpa G105 rfl rfl rfl) ?_
        refine DRQ.v rfl rfl rfl (o_ldp S95 rfl rfl rfl) ?_
        refine DRQ.v rfl rfl rfl (o_nilq rfl (lx rfl)) ?_
        refine DRQ.v rfl rfl rfl (o_fldq F100_0 rfl (lx rfl)) ?_
        refine DRQ.v rfl rfl rfl (o_flde F31_1 rfl (lx rfl)) ?_
        refine DRQ.x 15 rfl rfl rfl rfl (o_ldex S29 rfl (lx rfl) (strS rfl)) ?_
        refine DRQ.v rfl rfl rfl (o_ldp S3 rfl rfl rfl) ?_
        refine DRQ.x 16 rfl rfl rfl rfl (o_idx L29 rfl (lx rfl) rfl (by first | omega | (simp; omega)) (by first | omega | (simp; omega))) ?_
        refine DRQ.v rfl rfl rfl (o_ldqg G75 rfl (lx rfl) (strG rfl) rfl rfl) ?_
        refine DRQ.cs rfl rfl rfl rfl (o_sig 17 id (c130 (p.addL f.shop.pigs (nth (f.chL p left) (i : Int))) (nth f.nights night) (1040 + 400100 * night + 400000) hnx.1 (by omega) hnc) e130 rfl rfl rfl w130 trivial r130) ?_
        refine DRQ.v rfl rfl rfl (o_ldpa G110 rfl rfl rfl) ?_
        refine DRQ.cL (X' := []) rfl rfl rfl rfl (o_sigx 17 (ren [(0, 0)]) 1 (ahC k rfl ((p.addL f.shop.pigs (nth (f.chL p left) (i : Int))).lose (nth f.nights night)) (takeL left (nth (f.chL p left) (i : Int))) hnx.2 hr.2.2) memoXP.plain e110 rfl rfl rfl SvsOK.rf w110 ⟨(lx rfl), trivial⟩ r110) ?_
        refine DRQ.v rfl rfl rfl (o_add rfl rfl (by first | omega | (simp; omega)) (by first | omega | (simp; omega))) ?_
        refine DRQ.v rfl rfl rfl (o_min rfl rfl) ?_
        refine DRQ.s 8 rfl rfl rfl (o_sta S3 rfl rfl rfl rfl rfl) ?_
        refine DRQ.nil' ?_
        refine EX.blk ?_
        exact EX.next id (LeR.of trivial ⟨(lx rfl), (lx rfl), trivial⟩ ⟨rfl, rfl, rfl, rfl, rfl, rfl, (congrArg (fun z => some (Ent.blk z 3)) (List.cons_eq_cons.2 ⟨(congrArg (fun z => ai z) (show (min (chRows f.shop.pigs (fun r => f.aheadOf (fun q => f.chW k (night + 1) q (takeL left r)) (night + 1) ((p.addL f.shop.pigs r).lose (nth f.nights night))) (f.chL p left) i) ((sumOf Pig.pence f.shop.pigs (nth (f.chL p left) (i : Int))) + (f.ahW k (night + 1) ((p.addL f.shop.pigs (nth (f.chL p left) (i : Int))).lose (nth f.nights night)) (takeL left (nth (f.chL p left) (i : Int)))))) = ((fun i => chRows f.shop.pigs (fun r => f.aheadOf (fun q => f.chW k (night + 1) q (takeL left r)) (night + 1) ((p.addL f.shop.pigs r).lose (nth f.nights night))) (f.chL p left) i) (i + 1)) from rfl)), (Eq.refl [])⟩)), rfl, trivial⟩ rfl rfl rfl rfl rfl)
      · exact fun _ _ h => h.elim
      · skip
        refine EX.blk ?_
        refine EX.then ?_
        refine WP.seq ?_
        refine WP.region ?_
        refine WPl.v rfl (o_ldp S3 rfl rfl rfl) ?_
        refine WPl.v rfl (o_min rfl rfl) ?_
        refine WPl.s1 (o_sta S3 rfl rfl rfl rfl rfl) ?_
        refine WPl.nil ?_
        refine EX.then ?_
        refine WP.seq ?_
        refine WP.openX (km := 1) rfl fun mm hmm => ?_
        refine WP.draw (nf := 12) [⟨[78, 79], [], [], [], []⟩, ⟨[78, 79], [], [], [], [0]⟩, ⟨[78, 79], [], [], [], [0, 1]⟩, ⟨[78, 79], [], [], [], [0, 1, 2]⟩, ⟨[74, 75, 76, 77, 79], [], [], [], []⟩, ⟨[74, 75, 76, 77, 78], [], [], [], []⟩, ⟨[], [], [], [1], [0, 1, 2, 3, 4, 5]⟩] (by kernel_rfl) (by kernel_rfl) ?_
        refine DRQ.v rfl rfl rfl (o_ldp S95 rfl rfl rfl) ?_
        refine DRQ.v rfl rfl rfl (o_nilq rfl (lx rfl)) ?_
        refine DRQ.v rfl rfl rfl (o_fldq F100_1 rfl (lx rfl)) ?_
        refine DRQ.v rfl rfl rfl (o_lde S98 rfl (lx rfl) (strV rfl)) ?_
        refine DRQ.v rfl rfl rfl (o_ldpa G185 rfl rfl rfl) ?_
        refine DRQ.v rfl rfl rfl (o_ldp S3 rfl rfl rfl) ?_
        refine DRQ.s 1 rfl rfl rfl (o_mapup (km := 1) (a := [night, p.pounds, p.tl, p.th, p.al, p.ah, p.dl, p.dh, nth left 0, nth left 1, nth left 2, nth left 3]) M98 rfl rfl isKey.g rfl rfl rfl) ?_
        refine DRQ.nil' ?_
        refine EX.then ?_
        refine WP.seq ?_
        refine WP.region ?_
        refine WPl.v rfl (o_ldp S3 rfl rfl rfl) ?_
        refine WPl.v rfl (o_assign rfl) ?_
        refine WPl.nil ?_
        refine EX.then ?_
        refine WP.ret ?_
        refine EX.imp (Imp.closeX (km := 1) (Kp := (MemoK f)) rfl (mset_all hmm ⟨k + 1, night, p, left, hl.1, hnt, rfl, rfl⟩)) ?_
        rw [show f.chW (k + 1) night p left = min (chRows f.shop.pigs (fun r => f.aheadOf (fun q => f.chW k (night + 1) q (takeL left r)) (night + 1) ((p.addL f.shop.pigs r).lose (nth f.nights night))) (f.chL p left) (f.chL p left).length) 1073741824 from rfl]
        exact EX.finX id 1 rfl (.inl rfl) rfl (.tmp rfl .nil) rfl (by simp [SV.res, El.res, At.res, keys]) trivial rfl (marks rfl) (by simp)
theorem w146 {n : Int} : ∀ x ∈ ([.i (n)] : List SV), x.res (keys (α := Pred) []) := by simp [SV.res, El.res, At.res, keys]
theorem r146 {n : Int} : SV.res (keys (α := Pred) []) (.e (.g [ai (n), ai (n)])) := by simp [SV.res, El.res, At.res, keys]
set_option maxHeartbeats 4000000 in
theorem c146 (n : Int)  : Sig Try.prog 146 [.i (n)] [] (.e (.g [ai (n), ai (n)])) [] := by
  refine Sig.intro Try.func146 rfl 0 [(0, .i (n))] rfl w146 rfl rfl fun I w => ?_
  refine WP.seq ?_
  refine WP.region ?_
  refine WPl.l 0 1 rfl rfl rfl (o_alloc Z23) ?_
  refine WPl.nil ?_
  refine EX.then ?_
  refine WP.seq ?_
  refine WP.region ?_
  refine WPl.v rfl (o_move rfl) ?_
  refine WPl.v rfl (o_move rfl) ?_
  refine WPl.v rfl (o_build B23 rfl ⟨rfl, rfl, trivial⟩ rfl rfl) ?_
  refine WPl.s1 (o_stag G23 rfl rfl rfl ⟨rfl, rfl, trivial⟩ rfl rfl) ?_
  refine WPl.nil ?_
  refine EX.then ?_
  refine WP.ret ?_
  exact EX.fin id (.inl rfl) rfl (.cellg G23 rfl rfl rfl (.nil)) rfl r146 trivial (by simp) (by simp)
set_option maxHeartbeats 4000000 in
theorem c110 (f : Fnd) (b : Nat) (n : Nat) (night : Int) (p : Pt) (left : List Int) (hf : f.chk = true) (hnt : night + n = f.nights.length) (hn0 : 0 ≤ night) (hp : AhB p night) (hl : bnd4 left) : SigX Try.prog 110 [.e (.a (.q 0)), .i (night), .e (.g [ai (p.pounds), ai (p.tl), ai (p.th), ai (p.al), ai (p.ah), ai (p.dl), ai (p.dh)]), .e (.g [ai (nth left 0), ai (nth left 1), ai (nth left 2), ai (nth left 3)])] [(0, PP (EWk (some b)) (f))] (memoXP true 12 b (MemoK f)) (.i (f.ahW n night p left)) [] := by
  have hpg := Shop.pigsOK (Fnd.shopOK hf)
  have hp4 := hpg.2
  have hn := Fnd.nightsOK hf
  have hn4 := hn.2
  have hpb := hp.1
  have hpd := hp.2
  unfold PtB at hpb
  have hcw := fun q => chW_bnd hpg n night q left hl
  refine SigX.intro memoXP.plain Try.func110 rfl 2 1 [(0, .e (.a (.q 0))), (1, .i (night)), (2, .e (.g [ai (p.pounds), ai (p.tl), ai (p.th), ai (p.al), ai (p.ah), ai (p.dl), ai (p.dh)])), (3, .e (.g [ai (nth left 0), ai (nth left 1), ai (nth left 2), ai (nth left 3)]))] rfl w110 rfl rfl rfl fun I w => ?_
  refine WP.seq ?_
  refine WP.region ?_
  refine WPl.l 2 3 rfl rfl rfl (o_boxg rfl) ?_
  refine WPl.l 3 4 rfl rfl rfl (o_boxg rfl) ?_
  refine WPl.v rfl (o_assign rfl) ?_
  refine WPl.nil ?_
  refine EX.then ?_
  refine WP.seq ?_
  refine WP.seq ?_
  refine WP.region ?_
  refine WPl.v rfl (o_move rfl) ?_
  refine WPl.v rfl (o_move rfl) ?_
  refine WPl.v rfl (o_nilq rfl (lx rfl)) ?_
  refine WPl.v rfl (o_fldq F100_0 rfl (lx rfl)) ?_
  refine WPl.v rfl (o_flde F31_1 rfl (lx rfl)) ?_
  refine WPl.x 4 5 rfl rfl rfl (o_ldex S29 rfl (lx rfl) (strS rfl)) ?_
  refine WPl.v rfl (o_lenq L29 rfl (lx rfl)) ?_
  refine WPl.v rfl (o_eql rfl rfl) ?_
  refine WPl.v rfl (o_move rfl) ?_
  refine WPl.bit 5 6 (!(decide (night = (f.nights.length : Int)))) rfl rfl ?_
  refine WPl.gv 5 rfl rfl (.plain rfl (by simp) rfl) (fun hb => o_move rfl) ?_
  refine WPl.gv 5 rfl rfl (.plain rfl (by simp) rfl) (fun hb => o_nilq rfl (lx rfl)) ?_
  refine WPl.gv 5 rfl rfl (.plain rfl (by simp) rfl) (fun hb => o_fldq F100_0 rfl (lx rfl)) ?_
  refine WPl.gv 5 rfl rfl (.plain rfl (by simp) rfl) (fun hb => o_flde F31_1 rfl (lx rfl)) ?_
  refine WPl.gx 5 6 7 rfl rfl rfl rfl (.plain rfl (by simp) rfl) (fun hb => o_ldex S29 rfl (lx rfl) (strS rfl)) ?_
  refine WPl.gv 5 rfl rfl (.plain rfl (by simp) rfl) (fun hb => o_move rfl) ?_
  refine WPl.gx 5 7 8 rfl rfl rfl rfl (.plain rfl (by simp) rfl) (fun hb => have hb2 : ¬ night = f.nights.length := (by simpa using hb); o_idx L29 rfl (lxi hb rfl) rfl (by first | omega | (simp; omega)) (by first | omega | (simp; omega))) ?_
  refine WPl.gv 5 rfl rfl (.plain rfl (by simp) rfl) (fun hb => o_fldq F75_1 rfl (lxi hb rfl)) ?_
  refine WPl.gv 5 rfl rfl (.plain rfl (by simp) rfl) (fun hb => o_lde S3 rfl (lxi hb rfl) (strI rfl)) ?_
  refine WPl.gv 5 rfl rfl (.plain rfl (by simp) rfl) (fun hb => o_eql rfl rfl) ?_
  refine WPl.v rfl (o_or rfl rfl rfl (by first | (simp; done) | simp_all)) ?_
  refine WPl.nil ?_
  refine EX.then ?_
  refine WP.cond rfl (fun hc1 => ?_) (fun hc1 => ?_)
  · try simp only [decide_eq_true_eq, decide_eq_false_iff_not, Bool.and_eq_true, Bool.or_eq_true, Bool.and_eq_false_iff, Bool.or_eq_false_iff, Bool.not_eq_true', Bool.not_eq_false', ne_eq, Decidable.not_not] at hc1
    refine WP.seq ?_
    refine WP.region ?_
    refine WPl.v rfl (o_move rfl) ?_
    refine WPl.v rfl (o_move rfl) ?_
    refine WPl.v rfl (o_ldpa G105 rfl rfl rfl) ?_
    refine WPl.v rfl (o_ldpa G110 rfl rfl rfl) ?_
    refine WPl.cL (X' := []) 8 rfl rfl rfl rfl rfl (o_sigx 8 (ren [(0, 0)]) 1 (c145 f b n night p left hf hnt hn0 hp.ch hl (fun k hk p left h1 h2 => c110 f b k (night + 1) p left hf (by omega) (by omega) h1 h2)) memoXP.plain e145 rfl rfl rfl SvsOK.rf w145 ⟨(lx rfl), trivial⟩ r145) ?_
    refine WPl.v rfl (o_assign rfl) ?_
    refine WPl.nil ?_
    refine EX.then ?_
    refine WP.ret ?_
    refine EX.ret_then ?_
    rw [show f.ahW n night p left = f.chW n night p left from if_pos (by simpa using hc1)]
    exact EX.finX id 1 rfl (.inl rfl) rfl (.tmp rfl .nil) rfl (by simp [SV.res, El.res, At.res, keys]) trivial rfl (by simp) (by simp)
  · try simp only [decide_eq_true_eq, decide_eq_false_iff_not, Bool.and_eq_true, Bool.or_eq_true, Bool.and_eq_false_iff, Bool.or_eq_false_iff, Bool.not_eq_true', Bool.not_eq_false', ne_eq, Decidable.not_not] at hc1
    have hno : ¬ (night = f.nights.length ∨ (nth f.nights night).test = 0) := by simpa using hc1
    refine WP.skip ?_
    refine EX.then ?_
    refine WP.seq ?_
    refine WP.region ?_
    refine WPl.v rfl (o_assign rfl) ?_
    refine WPl.nil ?_
    refine EX.then ?_
    refine WP.seq ?_
    refine WP.region ?_
    refine WPl.v rfl (o_assign rfl) ?_
    refine WPl.nil ?_
    refine EX.then ?_
    refine WP.seq ?_
    refine WP.seq ?_
    refine WP.region ?_
    refine WPl.v rfl (o_fldp F105_1 rfl) ?_
    refine WPl.v rfl (o_fldp F23_0 rfl) ?_
    refine WPl.v rfl (o_ldp S3 rfl rfl rfl) ?_
    refine WPl.v rfl (o_assign rfl) ?_
    refine WPl.nil ?_
    refine EX.then ?_
    refine WP.block ?_
    refine WP.loop (Gh := Nat) (fun i => ⟨8, [(0, .e (.a (.q 0))), (1, .i (night)), (6, .e (.a (.p 2 (0)))), (7, .e (.a (.p 3 (0)))), (8, .i (0)), (9, .i (wi3 (fun t a d => f.chW n night (p.one t a d) left) (⟨p.tl, p.th, p.al, p.ah, p.dl, p.dh⟩ : Sp) i)), (10, .e (.a (.f 146 []))), (11, .i (p.tl + (i : Int)))], [(0, PP (EWk (some b)) (f))], [(1, .ext (memoXP true 12 b (MemoK f))), (2, .blk [ai (p.pounds), ai (p.tl), ai (p.th), ai (p.al), ai (p.ah), ai (p.dl), ai (p.dh)] 105), (3, .blk [ai (nth left 0), ai (nth left 1), ai (nth left 2), ai (nth left 3)] 110)], [], []⟩) (fun i => i ≤ (p.th - p.tl + 1).toNat) (fun i => (p.th - p.tl + 1).toNat - i) (0) id ?_ (LeR.of ⟨rfl, rfl, rfl, rfl, rfl, rfl, rfl, (congrArg (fun z => some (SV.i z)) (show (p.tl) = ((fun i => p.tl + (i : Int)) 0) from by simp)), trivial⟩ ⟨(lx rfl), trivial⟩ ⟨rfl, rfl, rfl, trivial⟩ rfl rfl rfl rfl rfl) ?_
    · first | trivial | omega | (constructor <;> omega) | simp
    intro i hφ
    have hi : i ≤ (p.th - p.tl + 1).toNat := hφ
    refine WP.seq ?_
    refine WP.seq ?_
    refine WP.region ?_
    refine WPl.v rfl (o_move rfl) ?_
    refine WPl.v rfl (o_fldp F105_1 rfl) ?_
    refine WPl.v rfl (o_fldp F23_1 rfl) ?_
    refine WPl.v rfl (o_ldp S3 rfl rfl rfl) ?_
    refine WPl.v rfl (o_leq rfl rfl) ?_
    refine WPl.nil ?_
    refine EX.then ?_
    refine WP.cond rfl (fun hc2 => ?_) (fun hc2 => ?_)
    · try simp only [decide_eq_true_eq, decide_eq_false_iff_not, Bool.and_eq_true, Bool.or_eq_true, Bool.and_eq_false_iff, Bool.or_eq_false_iff, Bool.not_eq_true', Bool.not_eq_false', ne_eq, Decidable.not_not] at hc2
      refine WP.skip ?_
      refine EX.then ?_
      refine WP.seq ?_
      refine WP.block ?_
      refine WP.seq ?_
      refine WP.region ?_
      refine WPl.v rfl (o_fldp F105_2 rfl) ?_
      refine WPl.v rfl (o_fldp F23_0 rfl) ?_
      refine WPl.v rfl (o_ldp S3 rfl rfl rfl) ?_
      refine WPl.v rfl (o_assign rfl) ?_
      refine WPl.nil ?_
      refine EX.then ?_
      refine WP.block ?_
      refine WP.loop (Gh := Nat) (fun j => ⟨8, [(0, .e (.a (.q 0))), (1, .i (night)), (6, .e (.a (.p 2 (0)))), (7, .e (.a (.p 3 (0)))), (8, .i (0)), (9, .i (wj3 (fun t a d => f.chW n night (p.one t a d) left) (⟨p.tl, p.th, p.al, p.ah, p.dl, p.dh⟩ : Sp) (p.tl + (i : Int)) (wi3 (fun t a d => f.chW n night (p.one t a d) left) (⟨p.tl, p.th, p.al, p.ah, p.dl, p.dh⟩ : Sp) i) j)), (10, .e (.a (.f 146 []))), (11, .i (p.tl + (i : Int))), (42, .i (p.tl + (i : Int))), (43, .e (.a (.p 2 (1)))), (44, .e (.a (.p 2 (2)))), (45, .i (p.th)), (46, .b (decide ((p.tl + (i : Int)) ≤ p.th))), (49, .e (.a (.p 2 (3)))), (50, .e (.a (.p 2 (3)))), (51, .i (p.al)), (12, .i (p.al + (j : Int)))], [(0, PP (EWk (some b)) (f))], [(1, .ext (memoXP true 12 b (MemoK f))), (2, .blk [ai (p.pounds), ai (p.tl), ai (p.th), ai (p.al), ai (p.ah), ai (p.dl), ai (p.dh)] 105), (3, .blk [ai (nth left 0), ai (nth left 1), ai (nth left 2), ai (nth left 3)] 110)], [], []⟩) (fun j => j ≤ (p.ah - p.al + 1).toNat) (fun j => (p.ah - p.al + 1).toNat - j) (0) id ?_ (LeR.of ⟨rfl, rfl, rfl, rfl, rfl, rfl, rfl, rfl, rfl, rfl, rfl, rfl, rfl, rfl, rfl, rfl, (congrArg (fun z => some (SV.i z)) (show (p.al) = ((fun j => p.al + (j : Int)) 0) from by simp)), trivial⟩ ⟨(lx rfl), trivial⟩ ⟨rfl, rfl, rfl, trivial⟩ rfl rfl rfl rfl rfl) ?_
      · first | trivial | omega | (constructor <;> omega) | simp
      intro j hφ
      have hj : j ≤ (p.ah - p.al + 1).toNat := hφ
      refine WP.seq ?_
      refine WP.seq ?_
      refine WP.region ?_
      refine WPl.v rfl (o_move rfl) ?_
      refine WPl.v rfl (o_fldp F105_2 rfl) ?_
      refine WPl.v rfl (o_fldp F23_1 rfl) ?_
      refine WPl.v rfl (o_ldp S3 rfl rfl rfl) ?_
      refine WPl.v rfl (o_leq rfl rfl) ?_
      refine WPl.nil ?_
      refine EX.then ?_
      refine WP.cond rfl (fun hc3 => ?_) (fun hc3 => ?_)
      · try simp only [decide_eq_true_eq, decide_eq_false_iff_not, Bool.and_eq_true, Bool.or_eq_true, Bool.and_eq_false_iff, Bool.or_eq_false_iff, Bool.not_eq_true', Bool.not_eq_false', ne_eq, Decidable.not_not] at hc3
        refine WP.skip ?_
        refine EX.then ?_
        refine WP.seq ?_
        refine WP.block ?_
        refine WP.seq ?_
        refine WP.region ?_
        refine WPl.v rfl (o_fldp F105_3 rfl) ?_
        refine WPl.v rfl (o_fldp F23_0 rfl) ?_
        refine WPl.v rfl (o_ldp S3 rfl rfl rfl) ?_
        refine WPl.v rfl (o_assign rfl) ?_
        refine WPl.nil ?_
        refine EX.then ?_
        refine WP.block ?_
        refine WP.loop (Gh := Nat) (fun k => ⟨8, [(0, .e (.a (.q 0))), (1, .i (night)), (6, .e (.a (.p 2 (0)))), (7, .e (.a (.p 3 (0)))), (8, .i (0)), (9, .i (wk3 (fun t a d => f.chW n night (p.one t a d) left) (⟨p.tl, p.th, p.al, p.ah, p.dl, p.dh⟩ : Sp) (p.tl + (i : Int)) (p.al + (j : Int)) (wj3 (fun t a d => f.chW n night (p.one t a d) left) (⟨p.tl, p.th, p.al, p.ah, p.dl, p.dh⟩ : Sp) (p.tl + (i : Int)) (wi3 (fun t a d => f.chW n night (p.one t a d) left) (⟨p.tl, p.th, p.al, p.ah, p.dl, p.dh⟩ : Sp) i) j) k)), (10, .e (.a (.f 146 []))), (11, .i (p.tl + (i : Int))), (42, .i (p.tl + (i : Int))), (43, .e (.a (.p 2 (1)))), (44, .e (.a (.p 2 (2)))), (45, .i (p.th)), (46, .b (decide ((p.tl + (i : Int)) ≤ p.th))), (49, .e (.a (.p 2 (3)))), (50, .e (.a (.p 2 (3)))), (51, .i (p.al)), (12, .i (p.al + (j : Int))), (52, .i (p.al + (j : Int))), (53, .e (.a (.p 2 (3)))), (54, .e (.a (.p 2 (4)))), (55, .i (p.ah)), (56, .b (decide ((p.al + (j : Int)) ≤ p.ah))), (59, .e (.a (.p 2 (5)))), (60, .e (.a (.p 2 (5)))), (61, .i (p.dl)), (13, .i (p.dl + (k : Int)))], [(0, PP (EWk (some b)) (f))], [(1, .ext (memoXP true 12 b (MemoK f))), (2, .blk [ai (p.pounds), ai (p.tl), ai (p.th), ai (p.al), ai (p.ah), ai (p.dl), ai (p.dh)] 105), (3, .blk [ai (nth left 0), ai (nth left 1), ai (nth left 2), ai (nth left 3)] 110)], [], []⟩) (fun k => k ≤ (p.dh - p.dl + 1).toNat) (fun k => (p.dh - p.dl + 1).toNat - k) (0) id ?_ (LeR.of ⟨rfl, rfl, rfl, rfl, rfl, rfl, rfl, rfl, rfl, rfl, rfl, rfl, rfl, rfl, rfl, rfl, rfl, rfl, rfl, rfl, rfl, rfl, rfl, rfl, rfl, (congrArg (fun z => some (SV.i z)) (show (p.dl) = ((fun k => p.dl + (k : Int)) 0) from by simp)), trivial⟩ ⟨(lx rfl), trivial⟩ ⟨rfl, rfl, rfl, trivial⟩ rfl rfl rfl rfl rfl) ?_
        · first | trivial | omega | (constructor <;> omega) | simp
        intro k hφ
        have hk : k ≤ (p.dh - p.dl + 1).toNat := hφ
        refine WP.seq ?_
        refine WP.seq ?_
        refine WP.region ?_
        refine WPl.v rfl (o_move rfl) ?_
        refine WPl.v rfl (o_fldp F105_3 rfl) ?_
        refine WPl.v rfl (o_fldp F23_1 rfl) ?_
        refine WPl.v rfl (o_ldp S3 rfl rfl rfl) ?_
        refine WPl.v rfl (o_leq rfl rfl) ?_
        refine WPl.nil ?_
        refine EX.then ?_
        refine WP.cond rfl (fun hc4 => ?_) (fun hc4 => ?_)
        · try simp only [decide_eq_true_eq, decide_eq_false_iff_not, Bool.and_eq_true, Bool.or_eq_true, Bool.and_eq_false_iff, Bool.or_eq_false_iff, Bool.not_eq_true', Bool.not_eq_false', ne_eq, Decidable.not_not] at hc4
          refine WP.skip ?_
          refine EX.then ?_
          refine WP.seq ?_
          refine WP.block ?_
          refine WP.draw (nf := 8) [⟨[70, 71, 72, 73, 74, 75, 76, 77, 78, 79, 80, 81, 82, 83, 84, 85, 86], [1], [], [], []⟩, ⟨[69, 71, 72, 73, 74, 75, 76, 77, 78, 79, 80, 81, 82, 83, 84, 85], [], [], [], []⟩, ⟨[69, 70, 72, 73, 74, 75, 76, 77, 78, 79, 80, 81, 82, 83, 84, 85], [], [], [], []⟩, ⟨[69, 70, 71, 74, 76, 77, 78, 79, 80, 81, 82, 83, 85], [], [], [], []⟩, ⟨[69, 70, 71, 74, 76, 77, 78, 79, 80, 81, 82, 83, 85], [], [], [], [3]⟩, ⟨[69, 70, 71, 72, 73, 76, 77, 78, 79, 80, 81, 82, 83, 85], [], [], [], []⟩, ⟨[69, 70, 71, 76, 77, 78, 79, 80, 81, 82, 83, 85], [], [], [], [3, 4, 5]⟩, ⟨[69, 70, 71, 72, 73, 74, 75, 77, 78, 79, 81, 82, 85], [], [], [], []⟩, ⟨[69, 70, 71, 72, 73, 74, 75, 76, 78, 81, 82, 85], [], [], [], []⟩, ⟨[69, 70, 71, 72, 73, 74, 75, 76, 77, 81, 82, 85], [], [], [], []⟩, ⟨[69, 70, 71, 72, 73, 74, 75, 76, 81, 82, 85], [], [], [], [8, 9]⟩, ⟨[69, 70, 71, 72, 73, 74, 75, 81, 82, 85], [], [], [], [7, 8, 9, 10]⟩, ⟨[69, 70, 71, 72, 73, 74, 75, 76, 77, 78, 79, 80, 82, 85], [], [], [], []⟩, ⟨[69, 70, 71, 72, 73, 74, 75, 76, 77, 78, 79, 80, 81, 85], [], [], [], []⟩, ⟨[69, 70, 71, 72, 73, 74, 75, 85], [], [], [], [7, 8, 9, 10, 11, 12, 13]⟩, ⟨[69, 70, 71, 85], [], [], [], [3, 4, 5, 6, 7, 8, 9, 10, 11, 12, 13, 14]⟩, ⟨[69, 70, 71, 72, 73, 74, 75, 76, 77, 78, 79, 80, 81, 82, 83, 84], [], [], [], []⟩, ⟨[69], [], [], [1], [1, 2, 3, 4, 5, 6, 7, 8, 9, 10, 11, 12, 13, 14, 15, 16]⟩, ⟨[], [], [], [], [0, 1, 2, 3, 4, 5, 6, 7, 8, 9, 10, 11, 12, 13, 14, 15, 16, 17]⟩, ⟨[], [], [], [], [0, 1, 2, 3, 4, 5, 6, 7, 8, 9, 10, 11, 12, 13, 14, 15, 16, 17, 18]⟩] (by kernel_rfl) (by kernel_rfl) ?_
          refine DRQ.v rfl rfl rfl (o_move rfl) ?_
          refine DRQ.v rfl rfl rfl (o_move rfl) ?_
          refine DRQ.v rfl rfl rfl (o_move rfl) ?_
          refine DRQ.v rfl rfl rfl (o_fldp F105_0 rfl) ?_
          refine DRQ.v rfl rfl rfl (o_ldp S3 rfl rfl rfl) ?_
          refine DRQ.v rfl rfl rfl (o_move rfl) ?_
          refine DRQ.v rfl rfl rfl (o_sub rfl rfl (by first | omega | (simp; omega)) (by first | omega | (simp; omega))) ?_
          refine DRQ.v rfl rfl rfl (o_move rfl) ?_
          refine DRQ.v rfl rfl rfl (o_move rfl) ?_
          refine DRQ.v rfl rfl rfl (o_move rfl) ?_
          refine DRQ.v rfl rfl rfl (o_sub rfl rfl (by first | omega | (simp; omega)) (by first | omega | (simp; omega))) ?_
          refine DRQ.cs rfl rfl rfl rfl (o_sigt rfl 8 id (c146 ((p.tl + (i : Int)) - (p.dl + (k : Int)))) e146 rfl rfl rfl w146 trivial r146) ?_
          refine DRQ.v rfl rfl rfl (o_move rfl) ?_
          refine DRQ.v rfl rfl rfl (o_move rfl) ?_
          refine DRQ.cs rfl rfl rfl rfl (o_sigt rfl 8 id (c146 (p.al + (j : Int))) e146 rfl rfl rfl w146 trivial r146) ?_
          refine DRQ.v rfl rfl rfl (o_build B105 rfl ⟨rfl, trivial⟩ rfl rfl) ?_
          refine DRQ.v rfl rfl rfl (o_ldpa G110 rfl rfl rfl) ?_
          refine DRQ.cL (X' := []) rfl rfl rfl rfl (o_sigx 8 (ren [(0, 0)]) 1 (c145 f b n night (p.one (p.tl + (i : Int)) (p.al + (j : Int)) (p.dl + (k : Int))) left hf hnt hn0 (hp.one hn0 (by omega) (by omega) (by omega) (by omega) (by omega) (by omega) (by omega)) hl (fun k hk p left h1 h2 => c110 f b k (night + 1) p left hf (by omega) (by omega) h1 h2)) memoXP.plain e145 rfl rfl rfl SvsOK.rf w145 ⟨(lx rfl), trivial⟩ r145) ?_
          refine DRQ.v rfl rfl rfl (o_max rfl rfl) ?_
          refine DRQ.v rfl rfl rfl (o_assign rfl) ?_
          refine DRQ.nil' ?_
          refine EX.blk ?_
          refine EX.then ?_
          refine WP.region ?_
          refine WPl.v rfl (o_move rfl) ?_
          refine WPl.v rfl (o_add rfl rfl (by first | omega | (simp; omega)) (by first | omega | (simp; omega))) ?_
          refine WPl.v rfl (o_assign rfl) ?_
          refine WPl.nil ?_
          refine EX.again (k + 1) id (by first | omega | (constructor <;> omega)) (by omega) (LeR.of ⟨rfl, rfl, rfl, rfl, rfl, (congrArg (fun z => some (SV.i z)) (show (max (wk3 (fun t a d => f.chW n night (p.one t a d) left) (⟨p.tl, p.th, p.al, p.ah, p.dl, p.dh⟩ : Sp) (p.tl + (i : Int)) (p.al + (j : Int)) (wj3 (fun t a d => f.chW n night (p.one t a d) left) (⟨p.tl, p.th, p.al, p.ah, p.dl, p.dh⟩ : Sp) (p.tl + (i : Int)) (wi3 (fun t a d => f.chW n night (p.one t a d) left) (⟨p.tl, p.th, p.al, p.ah, p.dl, p.dh⟩ : Sp) i) j) k) (f.chW n night (p.one (p.tl + (i : Int)) (p.al + (j : Int)) (p.dl + (k : Int))) left)) = ((fun k => wk3 (fun t a d => f.chW n night (p.one t a d) left) (⟨p.tl, p.th, p.al, p.ah, p.dl, p.dh⟩ : Sp) (p.tl + (i : Int)) (p.al + (j : Int)) (wj3 (fun t a d => f.chW n night (p.one t a d) left) (⟨p.tl, p.th, p.al, p.ah, p.dl, p.dh⟩ : Sp) (p.tl + (i : Int)) (wi3 (fun t a d => f.chW n night (p.one t a d) left) (⟨p.tl, p.th, p.al, p.ah, p.dl, p.dh⟩ : Sp) i) j) k) (k + 1)) from rfl)), rfl, rfl, rfl, rfl, rfl, rfl, rfl, rfl, rfl, rfl, rfl, rfl, rfl, rfl, rfl, rfl, rfl, rfl, rfl, (congrArg (fun z => some (SV.i z)) (show ((p.dl + (k : Int)) + 1) = ((fun k => p.dl + (k : Int)) (k + 1)) from by show p.dl + (k : Int) + 1 = p.dl + ((k + 1 : Nat) : Int); omega)), trivial⟩ ⟨(lx rfl), trivial⟩ ⟨rfl, rfl, rfl, trivial⟩ rfl rfl rfl rfl rfl)
        · try simp only [decide_eq_true_eq, decide_eq_false_iff_not, Bool.and_eq_true, Bool.or_eq_true, Bool.and_eq_false_iff, Bool.or_eq_false_iff, Bool.not_eq_true', Bool.not_eq_false', ne_eq, Decidable.not_not] at hc4
          refine WP.exit ?_
          refine EX.exit_then ?_
          refine EX.exit_then ?_
          refine EX.exit_blk ?_
          refine EX.blk ?_
          refine EX.then ?_
          refine WP.region ?_
          refine WPl.v rfl (o_move rfl) ?_
          refine WPl.v rfl (o_add rfl rfl (by first | omega | (simp; omega)) (by first | omega | (simp; omega))) ?_
          refine WPl.v rfl (o_assign rfl) ?_
          refine WPl.nil ?_
          refine EX.again (j + 1) id (by first | omega | (constructor <;> omega)) (by omega) (LeR.of ⟨rfl, rfl, rfl, rfl, rfl, (congrArg (fun z => some (SV.i z)) (show (wk3 (fun t a d => f.chW n night (p.one t a d) left) (⟨p.tl, p.th, p.al, p.ah, p.dl, p.dh⟩ : Sp) (p.tl + (i : Int)) (p.al + (j : Int)) (wj3 (fun t a d => f.chW n night (p.one t a d) left) (⟨p.tl, p.th, p.al, p.ah, p.dl, p.dh⟩ : Sp) (p.tl + (i : Int)) (wi3 (fun t a d => f.chW n night (p.one t a d) left) (⟨p.tl, p.th, p.al, p.ah, p.dl, p.dh⟩ : Sp) i) j) k) = ((fun j => wj3 (fun t a d => f.chW n night (p.one t a d) left) (⟨p.tl, p.th, p.al, p.ah, p.dl, p.dh⟩ : Sp) (p.tl + (i : Int)) (wi3 (fun t a d => f.chW n night (p.one t a d) left) (⟨p.tl, p.th, p.al, p.ah, p.dl, p.dh⟩ : Sp) i) j) (j + 1)) from by rw [show k = (p.dh - p.dl + 1).toNat by omega]; rfl)), rfl, rfl, rfl, rfl, rfl, rfl, rfl, rfl, rfl, rfl, (congrArg (fun z => some (SV.i z)) (show ((p.al + (j : Int)) + 1) = ((fun j => p.al + (j : Int)) (j + 1)) from by show p.al + (j : Int) + 1 = p.al + ((j + 1 : Nat) : Int); omega)), trivial⟩ ⟨(lx rfl), trivial⟩ ⟨rfl, rfl, rfl, trivial⟩ rfl rfl rfl rfl rfl)
      · try simp only [decide_eq_true_eq, decide_eq_false_iff_not, Bool.and_eq_true, Bool.or_eq_true, Bool.and_eq_false_iff, Bool.or_eq_false_iff, Bool.not_eq_true', Bool.not_eq_false', ne_eq, Decidable.not_not] at hc3
        refine WP.exit ?_
        refine EX.exit_then ?_
        refine EX.exit_then ?_
        refine EX.exit_blk ?_
        refine EX.blk ?_
        refine EX.then ?_
        refine WP.region ?_
        refine WPl.v rfl (o_move rfl) ?_
        refine WPl.v rfl (o_add rfl rfl (by first | omega | (simp; omega)) (by first | omega | (simp; omega))) ?_
        refine WPl.v rfl (o_assign rfl) ?_
        refine WPl.nil ?_
        refine EX.again (i + 1) id (by first | omega | (constructor <;> omega)) (by omega) (LeR.of ⟨rfl, rfl, rfl, rfl, rfl, (congrArg (fun z => some (SV.i z)) (show (wj3 (fun t a d => f.chW n night (p.one t a d) left) (⟨p.tl, p.th, p.al, p.ah, p.dl, p.dh⟩ : Sp) (p.tl + (i : Int)) (wi3 (fun t a d => f.chW n night (p.one t a d) left) (⟨p.tl, p.th, p.al, p.ah, p.dl, p.dh⟩ : Sp) i) j) = ((fun i => wi3 (fun t a d => f.chW n night (p.one t a d) left) (⟨p.tl, p.th, p.al, p.ah, p.dl, p.dh⟩ : Sp) i) (i + 1)) from by rw [show j = (p.ah - p.al + 1).toNat by omega]; rfl)), rfl, (congrArg (fun z => some (SV.i z)) (show ((p.tl + (i : Int)) + 1) = ((fun i => p.tl + (i : Int)) (i + 1)) from by show p.tl + (i : Int) + 1 = p.tl + ((i + 1 : Nat) : Int); omega)), trivial⟩ ⟨(lx rfl), trivial⟩ ⟨rfl, rfl, rfl, trivial⟩ rfl rfl rfl rfl rfl)
    · try simp only [decide_eq_true_eq, decide_eq_false_iff_not, Bool.and_eq_true, Bool.or_eq_true, Bool.and_eq_false_iff, Bool.or_eq_false_iff, Bool.not_eq_true', Bool.not_eq_false', ne_eq, Decidable.not_not] at hc2
      refine WP.exit ?_
      refine EX.exit_then ?_
      refine EX.exit_then ?_
      refine EX.exit_blk ?_
      refine EX.then ?_
      refine WP.seq ?_
      refine WP.region ?_
      refine WPl.v rfl (o_move rfl) ?_
      refine WPl.v rfl (o_assign rfl) ?_
      refine WPl.nil ?_
      refine EX.then ?_
      refine WP.ret ?_
      have he : i = (p.th - p.tl + 1).toNat := by omega
      subst he
      rw [show f.ahW n night p left = wi3 (fun t a d => f.chW n night (p.one t a d) left) (⟨p.tl, p.th, p.al, p.ah, p.dl, p.dh⟩ : Sp) (p.th - p.tl + 1).toNat from by unfold Fnd.ahW Fnd.aheadOf; rw [if_neg hno]; rfl]
      exact EX.finX id 1 rfl (.inl rfl) rfl (.tmp rfl .nil) rfl (by simp [SV.res, El.res, At.res, keys]) trivial rfl (by simp) (by simp)
termination_by n
decreasing_by all_goals omega
theorem w57 {f : Fnd} : ∀ x ∈ ([.e (.g [ai (f.shop.pounds), ai (f.shop.tl), ai (f.shop.th), ai (f.shop.al), ai (f.shop.ah), ai (f.shop.room), ai (f.shop.tpl), ai (f.shop.tph), ai (f.shop.apl), ai (f.shop.aph), .q 0, .q 1])] : List SV), x.res (keys (α := Pred) [(0, PL EPig (f.shop.pigs)), (1, PL ENight (f.nights))]) := by simp [SV.res, El.res, At.res, keys]
theorem r57 {f : Fnd} : SV.res (keys (α := Pred) []) (.t [.a (ai (f.wKnownV)), .a (ai (f.wKnownE))]) := by simp [SV.res, El.res, At.res, keys]
set_option maxHeartbeats 4000000 in
theorem c57 (f : Fnd) (hl : f.shop.pigs.length ≤ 40) : Sig Try.prog 57 [.e (.g [ai (f.shop.pounds), ai (f.shop.tl), ai (f.shop.th), ai (f.shop.al), ai (f.shop.ah), ai (f.shop.room), ai (f.shop.tpl), ai (f.shop.tph), ai (f.shop.apl), ai (f.shop.aph), .q 0, .q 1])] [(0, PL EPig (f.shop.pigs)), (1, PL ENight (f.nights))] (.t [.a (ai (f.wKnownV)), .a (ai (f.wKnownE))]) [] := by
  rcases Bool.eq_false_or_eq_true f.chk with hf | hf
  · skip
    refine Sig.intro Try.func57 rfl 2 [(0, .e (.g [ai (f.shop.pounds), ai (f.shop.tl), ai (f.shop.th), ai (f.shop.al), ai (f.shop.ah), ai (f.shop.room), ai (f.shop.tpl), ai (f.shop.tph), ai (f.shop.apl), ai (f.shop.aph), .q 0, .q 1]))] rfl w57 rfl rfl fun I w => ?_
    refine WP.seq ?_
    refine WP.region ?_
    refine WPl.l 2 3 rfl rfl rfl (o_boxg rfl) ?_
    refine WPl.v rfl (o_assign rfl) ?_
    refine WPl.v rfl (o_assign rfl) ?_
    refine WPl.nil ?_
    refine EX.then ?_
    refine WP.seq ?_
    refine WP.region ?_
    refine WPl.v rfl (o_ldpa G31 rfl rfl rfl) ?_
    refine WPl.cM 5 (o_sigm (J := [0]) 3 4 (ren [(0, 0), (1, 1)]) (c76N f hf) e76 rfl rfl SvsOK.rf w76N ⟨(lx rfl), (lx rfl), trivial⟩ (fun _ => rfl) (by simp [SV.res, El.res, At.res, keys]) rfl) rfl rfl rfl fun b11 => ?_
    refine WPl.v rfl (o_move rfl) ?_
    refine WPl.v rfl (o_extract rfl rfl) ?_
    refine WPl.v rfl (o_extract rfl rfl) ?_
    refine WPl.v rfl (o_assign rfl) ?_
    refine WPl.v rfl (o_assign rfl) ?_
    refine WPl.nil ?_
    refine EX.then ?_
    refine WP.seq ?_
    refine WP.seq ?_
    refine WP.region ?_
    refine WPl.v rfl (o_move rfl) ?_
    refine WPl.v rfl (o_neq rfl rfl) ?_
    refine WPl.nil ?_
    refine EX.then ?_
    refine WP.cond rfl (fun hc1 => ?_) (fun hc1 => ?_)
    · try simp only [decide_eq_true_eq, decide_eq_false_iff_not, Bool.and_eq_true, Bool.or_eq_true, Bool.and_eq_false_iff, Bool.or_eq_false_iff, Bool.not_eq_true', Bool.not_eq_false', ne_eq, Decidable.not_not] at hc1
      simp at hc1
    · try simp only [decide_eq_true_eq, decide_eq_false_iff_not, Bool.and_eq_true, Bool.or_eq_true, Bool.and_eq_false_iff, Bool.or_eq_false_iff, Bool.not_eq_true', Bool.not_eq_false', ne_eq, Decidable.not_not] at hc1
      have hcb := Fnd.chkB hf
      have hpg := Shop.pigsOK (Fnd.shopOK hf)
      refine WP.imp (Imp.closeX (km := 4) (Kp := (MemoK f)) rfl (fun p hp => by cases hp)) ?_
      refine WP.skip ?_
      refine EX.then ?_
      refine WP.seq ?_
      refine WP.region ?_
      refine WPl.v rfl (o_move rfl) ?_
      refine WPl.cs 5 rfl rfl rfl rfl (o_sig 5 (ren [(0, 3)]) (c88 f (some b11) (by omega)) e88 rfl rfl rfl w88 ⟨(lx rfl), trivial⟩ r88) ?_
      refine WPl.v rfl (o_move rfl) ?_
      refine WPl.v rfl (o_extract rfl rfl) ?_
      refine WPl.v rfl (o_extract rfl rfl) ?_
      refine WPl.l 5 6 rfl rfl rfl (o_alloc Z105) ?_
      refine WPl.l 6 7 rfl rfl rfl (o_alloc Z110) ?_
      refine WPl.s1 (o_stag G105 rfl rfl rfl ⟨rfl, rfl, rfl, rfl, rfl, rfl, rfl, trivial⟩ rfl rfl) ?_
      refine WPl.s1 (o_stag G110 rfl rfl rfl ⟨rfl, rfl, rfl, rfl, trivial⟩ rfl rfl) ?_
      refine WPl.nil ?_
      refine EX.then ?_
      refine WP.seq ?_
      refine WP.region ?_
      refine WPl.v rfl (o_move rfl) ?_
      refine WPl.v rfl (o_ldpa G105 rfl rfl rfl) ?_
      refine WPl.v rfl (o_ldpa G110 rfl rfl rfl) ?_
      refine WPl.cL (X' := []) 7 rfl rfl rfl rfl rfl (o_sigx 7 (ren [(0, 3)]) 4 (c110 f b11 f.nights.length 0 f.pt0 (left0 f.shop.pigs) hf (by omega) (by omega) ⟨PtB.mono (pt0_bnd hf) (by omega), by simp [Fnd.pt0], by simp [Fnd.pt0]⟩ (left0_b hpg)) memoXP.plain e110 rfl rfl rfl SvsOK.rf w110 ⟨(lx rfl), trivial⟩ r110) ?_
      refine WPl.v rfl (o_assign rfl) ?_
      refine WPl.nil ?_
      refine EX.then ?_
      refine WP.seq ?_
      refine WP.seq ?_
      refine WP.region ?_
      refine WPl.v rfl (o_move rfl) ?_
      refine WPl.v rfl (o_geq rfl rfl) ?_
      refine WPl.nil ?_
      refine EX.then ?_
      refine WP.cond rfl (fun hc2 => ?_) (fun hc2 => ?_)
      · try simp only [decide_eq_true_eq, decide_eq_false_iff_not, Bool.and_eq_true, Bool.or_eq_true, Bool.and_eq_false_iff, Bool.or_eq_false_iff, Bool.not_eq_true', Bool.not_eq_false', ne_eq, Decidable.not_not] at hc2
        have hkn : f.wKnownN ≥ neverC := hc2
        refine WP.seq ?_
        refine WP.region ?_
        refine WPl.v rfl (o_assign rfl) ?_
        refine WPl.v rfl (o_assign rfl) ?_
        refine WPl.nil ?_
        refine EX.then ?_
        refine WP.ret ?_
        refine EX.ret_then ?_
        have hE : f.wKnownE = 3 := by simp only [Fnd.wKnownE, hf]; rw [if_pos hkn]; rfl
        rw [hE, show f.wKnownV = 0 from by simp [Fnd.wKnownV, hE]]
        exact EX.fin id (.inl rfl) rfl (.tmp rfl (.tmp rfl .nil)) rfl (by simp [SV.res, El.res, At.res, keys]) trivial (by simp) (by simp)
      · try simp only [decide_eq_true_eq, decide_eq_false_iff_not, Bool.and_eq_true, Bool.or_eq_true, Bool.and_eq_false_iff, Bool.or_eq_false_iff, Bool.not_eq_true', Bool.not_eq_false', ne_eq, Decidable.not_not] at hc2
        have hkn : ¬ f.wKnownN ≥ neverC := hc2
        refine WP.skip ?_
        refine EX.then ?_
        refine WP.seq ?_
        refine WP.region ?_
        refine WPl.v rfl (o_move rfl) ?_
        refine WPl.v rfl (o_assign rfl) ?_
        refine WPl.v rfl (o_assign rfl) ?_
        refine WPl.nil ?_
        refine EX.then ?_
        refine WP.ret ?_
        have hE : f.wKnownE = 0 := by simp only [Fnd.wKnownE, hf]; rw [if_neg hkn]; rfl
        rw [hE, show f.wKnownV = f.wKnownN from by simp [Fnd.wKnownV, hE]]
        exact EX.fin id (.inl rfl) rfl (.tmp rfl (.tmp rfl .nil)) rfl (by simp [SV.res, El.res, At.res, keys]) trivial (by simp) (by simp)
  · skip
    refine Sig.intro Try.func57 rfl 2 [(0, .e (.g [ai (f.shop.pounds), ai (f.shop.tl), ai (f.shop.th), ai (f.shop.al), ai (f.shop.ah), ai (f.shop.room), ai (f.shop.tpl), ai (f.shop.tph), ai (f.shop.apl), ai (f.shop.aph), .q 0, .q 1]))] rfl w57 rfl rfl fun I w => ?_
    refine WP.seq ?_
    refine WP.region ?_
    refine WPl.l 2 3 rfl rfl rfl (o_boxg rfl) ?_
    refine WPl.v rfl (o_assign rfl) ?_
    refine WPl.v rfl (o_assign rfl) ?_
    refine WPl.nil ?_
    refine EX.then ?_
    refine WP.seq ?_
    refine WP.region ?_
    refine WPl.v rfl (o_ldpa G31 rfl rfl rfl) ?_
    refine WPl.cs 3 rfl rfl rfl rfl (o_sig 3 (ren [(0, 0), (1, 1)]) (c76NE f hf hl) e76 rfl rfl rfl w76NE ⟨(lx rfl), (lx rfl), trivial⟩ r76NE) ?_
    refine WPl.v rfl (o_move rfl) ?_
    refine WPl.v rfl (o_extract rfl rfl) ?_
    refine WPl.v rfl (o_extract rfl rfl) ?_
    refine WPl.v rfl (o_assign rfl) ?_
    refine WPl.v rfl (o_assign rfl) ?_
    refine WPl.nil ?_
    refine EX.then ?_
    refine WP.seq ?_
    refine WP.seq ?_
    refine WP.region ?_
    refine WPl.v rfl (o_move rfl) ?_
    refine WPl.v rfl (o_neq rfl rfl) ?_
    refine WPl.nil ?_
    refine EX.then ?_
    refine WP.cond rfl (fun hc1 => ?_) (fun hc1 => ?_)
    · try simp only [decide_eq_true_eq, decide_eq_false_iff_not, Bool.and_eq_true, Bool.or_eq_true, Bool.and_eq_false_iff, Bool.or_eq_false_iff, Bool.not_eq_true', Bool.not_eq_false', ne_eq, Decidable.not_not] at hc1
      refine WP.seq ?_
      refine WP.region ?_
      refine WPl.v rfl (o_move rfl) ?_
      refine WPl.v rfl (o_assign rfl) ?_
      refine WPl.v rfl (o_assign rfl) ?_
      refine WPl.nil ?_
      refine EX.then ?_
      refine WP.ret ?_
      refine EX.ret_then ?_
      have hE : f.wKnownE = 130 := by simp only [Fnd.wKnownE, hf]; rfl
      rw [hE, show f.wKnownV = 0 from by simp [Fnd.wKnownV, hE]]
      exact EX.fin id (.inl rfl) rfl (.tmp rfl (.tmp rfl .nil)) rfl (by simp [SV.res, El.res, At.res, keys]) trivial (by simp) (by simp)
    · try simp only [decide_eq_true_eq, decide_eq_false_iff_not, Bool.and_eq_true, Bool.or_eq_true, Bool.and_eq_false_iff, Bool.or_eq_false_iff, Bool.not_eq_true', Bool.not_eq_false', ne_eq, Decidable.not_not] at hc1
      simp at hc1
end Go.Flong
namespace Go.Flong
open Go Go.Eng Go.Proofs
theorem e126 : Enters' Try.prog 126 := Try.call126
theorem e27 : Enters' Try.prog 27 := Try.call27
theorem e74 : Enters' Try.prog 74 := Try.call74
theorem e22 : Enters' Try.prog 22 := Try.call22
theorem B25 : BldT Try.prog 25 [(0, 1), (1, 2), (3, 2)] [.int .i64 0, .int .i64 0, .int .i64 0, .int .i64 0, .int .i64 0] := BldT.mk (ns := [1, 2, 2]) Try.underlying25 ⟨Try.sizeOf3, Try.sizeOf23, Try.sizeOf23, trivial⟩ rfl Try.zeroValue25 rfl
theorem B78 : BldT Try.prog 78 [(0, 1), (1, 1), (2, 1), (3, 1), (4, 1)] [.int .i64 0, .int .i64 0, .int .i64 0, .int .i64 0, .int .i64 0] := BldT.mk (ns := [1, 1, 1, 1, 1]) Try.underlying78 ⟨Try.sizeOf3, Try.sizeOf3, Try.sizeOf3, Try.sizeOf3, Try.sizeOf3, trivial⟩ rfl Try.zeroValue78 rfl
theorem B28 : BldT Try.prog 28 [(0, 5), (5, 1), (6, 2), (8, 2), (10, 1)] [.int .i64 0, .int .i64 0, .int .i64 0, .int .i64 0, .int .i64 0, .int .i64 0, .int .i64 0, .int .i64 0, .int .i64 0, .int .i64 0, .slice none 0 0] := BldT.mk (ns := [5, 1, 2, 2, 1]) Try.underlying28 ⟨Try.sizeOf25, Try.sizeOf3, Try.sizeOf23, Try.sizeOf23, Try.sizeOf26, trivial⟩ rfl Try.zeroValue28 rfl
theorem B75 : BldT Try.prog 75 [(0, 2), (2, 1)] [.int .i64 0, .int .i64 0, .int .i64 0] := BldT.mk (ns := [2, 1]) Try.underlying75 ⟨Try.sizeOf23, Try.sizeOf3, trivial⟩ rfl Try.zeroValue75 rfl
theorem e64 : Enters' Try.prog 64 := Try.call64
theorem e75 : Enters' Try.prog 75 := Try.call75
theorem e25 : Enters' Try.prog 25 := Try.call25
theorem e28 : Enters' Try.prog 28 := Try.call28
theorem e45 : Enters' Try.prog 45 := Try.call45
theorem e57 : Enters' Try.prog 57 := Try.call57
theorem e43 : Enters' Try.prog 43 := Try.call43
theorem e23 : Enters' Try.prog 23 := Try.call23
theorem e31 : Enters' Try.prog 31 := Try.call31
theorem w126 {s : Shop} : ∀ x ∈ ([.e (.g [ai (s.pounds), ai (s.tl), ai (s.th), ai (s.al), ai (s.ah), ai (s.room), ai (s.tpl), ai (s.tph), ai (s.apl), ai (s.aph), .q 0])] : List SV), x.res (keys (α := Pred) [(0, PL EPig (s.pigs))]) := by simp [SV.res, El.res, At.res, keys]
theorem r126 {s : Shop} : SV.res (keys (α := Pred) []) (.b (hugeS s)) := by simp [SV.res, El.res, At.res, keys]
set_option maxHeartbeats 4000000 in
theorem c126 (s : Shop)  : Sig Try.prog 126 [.e (.g [ai (s.pounds), ai (s.tl), ai (s.th), ai (s.al), ai (s.ah), ai (s.room), ai (s.tpl), ai (s.tph), ai (s.apl), ai (s.aph), .q 0])] [(0, PL EPig (s.pigs))] (.b (hugeS s)) [] := by
  refine Sig.intro Try.func126 rfl 1 [(0, .e (.g [ai (s.pounds), ai (s.tl), ai (s.th), ai (s.al), ai (s.ah), ai (s.room), ai (s.tpl), ai (s.tph), ai (s.apl), ai (s.aph), .q 0]))] rfl w126 rfl rfl fun I w => ?_
  refine WP.seq ?_
  refine WP.region ?_
  refine WPl.l 1 2 rfl rfl rfl (o_boxg rfl) ?_
  refine WPl.v rfl (o_assign rfl) ?_
  refine WPl.nil ?_
  refine EX.then ?_
  refine WP.seq ?_
  refine WP.region ?_
  refine WPl.v rfl (o_fldp F28_4 rfl) ?_
  refine WPl.v rfl (o_ldp S26 rfl rfl rfl) ?_
  refine WPl.v rfl (o_lenq L26 rfl (lx rfl)) ?_
  refine WPl.v rfl (o_gtr rfl rfl) ?_
  refine WPl.v rfl (o_assign rfl) ?_
  refine WPl.nil ?_
  refine EX.then ?_
  refine WP.ret ?_
  exact EX.fin id (.inl rfl) rfl (.tmp rfl .nil) rfl r126 trivial (by simp) (by simp)
theorem w74 {f : Fnd} : ∀ x ∈ ([.e (.g [ai (f.shop.pounds), ai (f.shop.tl), ai (f.shop.th), ai (f.shop.al), ai (f.shop.ah), ai (f.shop.room), ai (f.shop.tpl), ai (f.shop.tph), ai (f.shop.apl), ai (f.shop.aph), .q 0, .q 1])] : List SV), x.res (keys (α := Pred) [(0, PL EPig (f.shop.pigs)), (1, PL ENight (f.nights))]) := by simp [SV.res, El.res, At.res, keys]
theorem r74 {f : Fnd} : SV.res (keys (α := Pred) []) (.b (f.huge)) := by simp [SV.res, El.res, At.res, keys]
set_option maxHeartbeats 4000000 in
theorem c74 (f : Fnd)  : Sig Try.prog 74 [.e (.g [ai (f.shop.pounds), ai (f.shop.tl), ai (f.shop.th), ai (f.shop.al), ai (f.shop.ah), ai (f.shop.room), ai (f.shop.tpl), ai (f.shop.tph), ai (f.shop.apl), ai (f.shop.aph), .q 0, .q 1])] [(0, PL EPig (f.shop.pigs)), (1, PL ENight (f.nights))] (.b (f.huge)) [] := by
  refine Sig.intro Try.func74 rfl 2 [(0, .e (.g [ai (f.shop.pounds), ai (f.shop.tl), ai (f.shop.th), ai (f.shop.al), ai (f.shop.ah), ai (f.shop.room), ai (f.shop.tpl), ai (f.shop.tph), ai (f.shop.apl), ai (f.shop.aph), .q 0, .q 1]))] rfl w74 rfl rfl fun I w => ?_
  refine WP.seq ?_
  refine WP.region ?_
  refine WPl.l 2 3 rfl rfl rfl (o_boxg rfl) ?_
  refine WPl.v rfl (o_assign rfl) ?_
  refine WPl.nil ?_
  refine EX.then ?_
  refine WP.seq ?_
  refine WP.region ?_
  refine WPl.v rfl (o_fldp F31_0 rfl) ?_
  refine WPl.v rfl (o_ldpg G28 rfl rfl rfl) ?_
  refine WPl.cs 3 rfl rfl rfl rfl (o_sig 3 (ren [(0, 0)]) (c126 f.shop) e126 rfl rfl rfl w126 ⟨(lx rfl), trivial⟩ r126) ?_
  refine WPl.v rfl (o_move rfl) ?_
  refine WPl.bit 3 4 (!(hugeS f.shop)) rfl rfl ?_
  refine WPl.gv 3 rfl rfl (.plain rfl (by simp) rfl) (fun hb => o_fldp F31_1 rfl) ?_
  refine WPl.gv 3 rfl rfl (.plain rfl (by simp) rfl) (fun hb => o_ldp S29 rfl rfl rfl) ?_
  refine WPl.gv 3 rfl rfl (.plain rfl (by simp) rfl) (fun hb => o_lenq L29 rfl (lx rfl)) ?_
  refine WPl.gv 3 rfl rfl (.plain rfl (by simp) rfl) (fun hb => o_gtr rfl rfl) ?_
  refine WPl.v rfl (o_or rfl rfl rfl (by first | (simp; done) | simp_all)) ?_
  refine WPl.v rfl (o_assign rfl) ?_
  refine WPl.nil ?_
  refine EX.then ?_
  refine WP.ret ?_
  exact EX.fin id (.inl rfl) rfl (.tmp rfl .nil) rfl r74 trivial (by simp) (by simp)
theorem w31 {l : List (List Int)} : ∀ x ∈ ([.e (.a (.q 0)), .e (.a (.q 1))] : List SV), x.res (keys (α := Pred) [(0, PL (EP.sl EP.int) (l)), (1, PL (EP.sl EP.int) (l))]) := by simp [SV.res, El.res, At.res, keys]
theorem r31  : SV.res (keys (α := Pred) []) (.b (true)) := by simp [SV.res, El.res, At.res, keys]
set_option maxHeartbeats 4000000 in
theorem c31 (l : List (List Int)) (hl : l.length ≤ 1000) (hr : ∀ i : Nat, i < l.length → (nth l i).length ≤ 1000) : Sig Try.prog 31 [.e (.a (.q 0)), .e (.a (.q 1))] [(0, PL (EP.sl EP.int) (l)), (1, PL (EP.sl EP.int) (l))] (.b (true)) [] := by
  refine Sig.intro Try.func31 rfl 2 [(0, .e (.a (.q 0))), (1, .e (.a (.q 1)))] rfl w31 rfl rfl fun I w => ?_
  refine WP.seq ?_
  refine WP.region ?_
  refine WPl.v rfl (o_assign rfl) ?_
  refine WPl.nil ?_
  refine EX.then ?_
  refine WP.seq ?_
  refine WP.seq ?_
  refine WP.region ?_
  refine WPl.v rfl (o_move rfl) ?_
  refine WPl.v rfl (o_lenq L32 rfl (lx rfl)) ?_
  refine WPl.v rfl (o_move rfl) ?_
  refine WPl.v rfl (o_lenq L32 rfl (lx rfl)) ?_
  refine WPl.v rfl (o_neq rfl rfl) ?_
  refine WPl.nil ?_
  refine EX.then ?_
  refine WP.cond rfl (fun hc1 => ?_) (fun hc1 => ?_)
  · try simp only [decide_eq_true_eq, decide_eq_false_iff_not, Bool.and_eq_true, Bool.or_eq_true, Bool.and_eq_false_iff, Bool.or_eq_false_iff, Bool.not_eq_true', Bool.not_eq_false', ne_eq, Decidable.not_not] at hc1
    simp at hc1
  · try simp only [decide_eq_true_eq, decide_eq_false_iff_not, Bool.and_eq_true, Bool.or_eq_true, Bool.and_eq_false_iff, Bool.or_eq_false_iff, Bool.not_eq_true', Bool.not_eq_false', ne_eq, Decidable.not_not] at hc1
    refine WP.skip ?_
    refine EX.then ?_
    refine WP.seq ?_
    refine WP.seq ?_
    refine WP.region ?_
    refine WPl.v rfl (o_assign rfl) ?_
    refine WPl.nil ?_
    refine EX.then ?_
    refine WP.block ?_
    refine WP.loop (Gh := Nat) (fun i => ⟨2, [(0, .e (.a (.q 0))), (1, .e (.a (.q 1))), (4, .b (false)), (5, .i ((i : Int)))], [(0, PL (EP.sl EP.int) (l)), (1, PL (EP.sl EP.int) (l))], [], [], []⟩) (fun i => i ≤ l.length) (fun i => l.length - i) (0) id ?_ (LeR.of ⟨rfl, rfl, rfl, rfl, trivial⟩ ⟨(lx rfl), (lx rfl), trivial⟩ trivial rfl rfl rfl rfl rfl) ?_
    · first | trivial | omega | (constructor <;> omega) | simp
    intro i hφ
    have hi : i ≤ l.length := hφ
    refine WP.seq ?_
    refine WP.seq ?_
    refine WP.region ?_
    refine WPl.v rfl (o_move rfl) ?_
    refine WPl.v rfl (o_move rfl) ?_
    refine WPl.v rfl (o_lenq L32 rfl (lx rfl)) ?_
    refine WPl.v rfl (o_lss rfl rfl) ?_
    refine WPl.nil ?_
    refine EX.then ?_
    refine WP.cond rfl (fun hc2 => ?_) (fun hc2 => ?_)
    · try simp only [decide_eq_true_eq, decide_eq_false_iff_not, Bool.and_eq_true, Bool.or_eq_true, Bool.and_eq_false_iff, Bool.or_eq_false_iff, Bool.not_eq_true', Bool.not_eq_false', ne_eq, Decidable.not_not] at hc2
      refine WP.skip ?_
      refine EX.then ?_
      refine WP.seq ?_
      refine WP.block ?_
      refine WP.seq ?_
      refine WP.draw (nf := 6) [⟨[18, 21, 22, 23, 24], [4, 5], [], [], []⟩, ⟨[17, 21, 22, 23, 24], [4, 5], [], [], []⟩, ⟨[21, 22, 23, 24], [4, 5], [2], [2], [0, 1]⟩, ⟨[21, 22, 23, 24], [4, 5], [3], [3], [0, 1, 2]⟩, ⟨[17, 18, 19, 20, 22], [2, 3], [], [], []⟩, ⟨[17, 18, 19, 20, 21], [2, 3], [], [], []⟩, ⟨[17, 18, 19, 20], [2, 3], [4], [4], [4, 5]⟩, ⟨[17, 18, 19, 20], [2, 3], [5], [5], [4, 5, 6]⟩, ⟨[], [], [], [], [0, 1, 2, 3, 4, 5, 6, 7]⟩, ⟨[], [], [], [], [0, 1, 2, 3, 4, 5, 6, 7, 8]⟩] (by kernel_rfl) (by kernel_rfl) ?_
      refine DRQ.v rfl rfl rfl (o_move rfl) ?_
      refine DRQ.v rfl rfl rfl (o_move rfl) ?_
      refine DRQ.x 2 rfl rfl rfl rfl (o_idx L32 rfl (lx rfl) rfl (by first | omega | (simp; omega)) (by first | omega | (simp; omega))) ?_
      refine DRQ.x 3 rfl rfl rfl rfl (o_ldqx S44 rfl (lx rfl) slx) ?_
      refine DRQ.v rfl rfl rfl (o_move rfl) ?_
      refine DRQ.v rfl rfl rfl (o_move rfl) ?_
      refine DRQ.x 4 rfl rfl rfl rfl (o_idx L32 rfl (lx rfl) rfl (by first | omega | (simp; omega)) (by first | omega | (simp; omega))) ?_
      refine DRQ.x 5 rfl rfl rfl rfl (o_ldqx S44 rfl (lx rfl) slx) ?_
      refine DRQ.cs rfl rfl rfl rfl (o_sig 6 (ren [(0, 3), (1, 5)]) (c27 (nth l (i : Int)) (nth l (i : Int)) (by have := hr i (by omega); omega)) e27 rfl rfl rfl w27 ⟨(lx rfl), (lx rfl), trivial⟩ r27) ?_
      refine DRQ.v rfl rfl rfl (o_not rfl) ?_
      refine DRQ.nil' ?_
      refine EX.then ?_
      refine WP.cond rfl (fun hc3 => ?_) (fun hc3 => ?_)
      · try simp only [decide_eq_true_eq, decide_eq_false_iff_not, Bool.and_eq_true, Bool.or_eq_true, Bool.and_eq_false_iff, Bool.or_eq_false_iff, Bool.not_eq_true', Bool.not_eq_false', ne_eq, Decidable.not_not] at hc3
        rw [sameInts_refl] at hc3; cases hc3
      · try simp only [decide_eq_true_eq, decide_eq_false_iff_not, Bool.and_eq_true, Bool.or_eq_true, Bool.and_eq_false_iff, Bool.or_eq_false_iff, Bool.not_eq_true', Bool.not_eq_false', ne_eq, Decidable.not_not] at hc3
        refine WP.skip ?_
        refine EX.blk ?_
        refine EX.then ?_
        refine WP.region ?_
        refine WPl.v rfl (o_move rfl) ?_
        refine WPl.v rfl (o_add rfl rfl (by first | omega | (simp; omega)) (by first | omega | (simp; omega))) ?_
        refine WPl.v rfl (o_assign rfl) ?_
        refine WPl.nil ?_
        refine EX.again (i + 1) id (by first | omega | (constructor <;> omega)) (by omega) (LeR.of ⟨rfl, rfl, rfl, rfl, trivial⟩ ⟨(lx rfl), (lx rfl), trivial⟩ trivial rfl rfl rfl rfl rfl)
    · try simp only [decide_eq_true_eq, decide_eq_false_iff_not, Bool.and_eq_true, Bool.or_eq_true, Bool.and_eq_false_iff, Bool.or_eq_false_iff, Bool.not_eq_true', Bool.not_eq_false', ne_eq, Decidable.not_not] at hc2
      refine WP.exit ?_
      refine EX.exit_then ?_
      refine EX.exit_then ?_
      refine EX.exit_blk ?_
      refine EX.then ?_
      refine WP.seq ?_
      refine WP.region ?_
      refine WPl.v rfl (o_assign rfl) ?_
      refine WPl.nil ?_
      refine EX.then ?_
      refine WP.ret ?_
      exact EX.fin id (.inl rfl) rfl (.tmp rfl .nil) rfl r31 trivial (by simp) (by simp)
theorem w14 {f : Fnd} : ∀ x ∈ ([.e (.g [ai (f.shop.pounds), ai (f.shop.tl), ai (f.shop.th), ai (f.shop.al), ai (f.shop.ah), ai (f.shop.room), ai (f.shop.tpl), ai (f.shop.tph), ai (f.shop.apl), ai (f.shop.aph), .q 0, .q 1])] : List SV), x.res (keys (α := Pred) [(0, PL EPig (f.shop.pigs)), (1, PL ENight (f.nights))]) := by simp [SV.res, El.res, At.res, keys]
theorem r14 {f : Fnd} : SV.res (keys (α := Pred) []) (.b (f.far)) := by simp [SV.res, El.res, At.res, keys]
set_option maxHeartbeats 4000000 in
theorem c14 (f : Fnd)  : Sig Try.prog 14 [.e (.g [ai (f.shop.pounds), ai (f.shop.tl), ai (f.shop.th), ai (f.shop.al), ai (f.shop.ah), ai (f.shop.room), ai (f.shop.tpl), ai (f.shop.tph), ai (f.shop.apl), ai (f.shop.aph), .q 0, .q 1])] [(0, PL EPig (f.shop.pigs)), (1, PL ENight (f.nights))] (.b (f.far)) [] := by
  refine Sig.intro Try.func14 rfl 2 [(0, .e (.g [ai (f.shop.pounds), ai (f.shop.tl), ai (f.shop.th), ai (f.shop.al), ai (f.shop.ah), ai (f.shop.room), ai (f.shop.tpl), ai (f.shop.tph), ai (f.shop.apl), ai (f.shop.aph), .q 0, .q 1]))] rfl w14 rfl rfl fun I w => ?_
  refine WP.seq ?_
  refine WP.region ?_
  refine WPl.l 2 3 rfl rfl rfl (o_boxg rfl) ?_
  refine WPl.v rfl (o_assign rfl) ?_
  refine WPl.nil ?_
  refine EX.then ?_
  refine WP.seq ?_
  refine WP.seq ?_
  refine WP.region ?_
  refine WPl.v rfl (o_ldpa G31 rfl rfl rfl) ?_
  refine WPl.cs 3 rfl rfl rfl rfl (o_sig 3 (ren [(0, 0), (1, 1)]) (c74 f) e74 rfl rfl rfl w74 ⟨(lx rfl), (lx rfl), trivial⟩ r74) ?_
  refine WPl.nil ?_
  refine EX.then ?_
  refine WP.cond rfl (fun hc1 => ?_) (fun hc1 => ?_)
  · try simp only [decide_eq_true_eq, decide_eq_false_iff_not, Bool.and_eq_true, Bool.or_eq_true, Bool.and_eq_false_iff, Bool.or_eq_false_iff, Bool.not_eq_true', Bool.not_eq_false', ne_eq, Decidable.not_not] at hc1
    refine WP.seq ?_
    refine WP.region ?_
    refine WPl.v rfl (o_assign rfl) ?_
    refine WPl.nil ?_
    refine EX.then ?_
    refine WP.ret ?_
    refine EX.ret_then ?_
    rw [show f.far = true from by simp [Fnd.far, hc1]]
    exact EX.fin id (.inl rfl) rfl (.tmp rfl .nil) rfl (by simp [SV.res, El.res, At.res, keys]) trivial (by simp) (by simp)
  · try simp only [decide_eq_true_eq, decide_eq_false_iff_not, Bool.and_eq_true, Bool.or_eq_true, Bool.and_eq_false_iff, Bool.or_eq_false_iff, Bool.not_eq_true', Bool.not_eq_false', ne_eq, Decidable.not_not] at hc1
    refine WP.skip ?_
    refine EX.then ?_
    refine WP.seq ?_
    refine WP.seq ?_
    refine WP.region ?_
    refine WPl.v rfl (o_ldpa G31 rfl rfl rfl) ?_
    refine WPl.cs 3 rfl rfl rfl rfl (o_sig 3 (ren [(0, 0), (1, 1)]) (c22 f) e22 rfl rfl rfl w22 ⟨(lx rfl), (lx rfl), trivial⟩ r22) ?_
    refine WPl.v rfl (o_neq rfl rfl) ?_
    refine WPl.nil ?_
    refine EX.then ?_
    refine WP.cond rfl (fun hc2 => ?_) (fun hc2 => ?_)
    · try simp only [decide_eq_true_eq, decide_eq_false_iff_not, Bool.and_eq_true, Bool.or_eq_true, Bool.and_eq_false_iff, Bool.or_eq_false_iff, Bool.not_eq_true', Bool.not_eq_false', ne_eq, Decidable.not_not] at hc2
      refine WP.seq ?_
      refine WP.region ?_
      refine WPl.v rfl (o_assign rfl) ?_
      refine WPl.nil ?_
      refine EX.then ?_
      refine WP.ret ?_
      refine EX.ret_then ?_
      rw [show f.far = false from by simp [Fnd.far, show f.huge = false from hc1, show f.chk = false from by (cases hch : f.chk; rfl; simp [errW, hch] at hc2)]]
      exact EX.fin id (.inl rfl) rfl (.tmp rfl .nil) rfl (by simp [SV.res, El.res, At.res, keys]) trivial (by simp) (by simp)
    · try simp only [decide_eq_true_eq, decide_eq_false_iff_not, Bool.and_eq_true, Bool.or_eq_true, Bool.and_eq_false_iff, Bool.or_eq_false_iff, Bool.not_eq_true', Bool.not_eq_false', ne_eq, Decidable.not_not] at hc2
      have hf : f.chk = true := by simpa [errW_eq] using hc2
      have hnh : f.huge = false := hc1
      have hcb := Fnd.chkB hf
      have hpg := Shop.pigsOK (Fnd.shopOK hf)
      have hn := Fnd.nightsOK hf
      have htb := tl_bnd (Fnd.shopOK hf)
      have hab := fun i hi => farA_bnd hf i hi
      have hp10 : ∀ i : Nat, i ≤ 4 → (10 : Int) ^ i ≤ 10000 := fun i hi => by (rcases (show i = 0 ∨ i = 1 ∨ i = 2 ∨ i = 3 ∨ i = 4 by omega) with rfl | rfl | rfl | rfl | rfl) <;> decide
      have hp9 : ∀ i : Nat, i ≤ 4 → (9 : Int) ^ i ≤ 6561 := fun i hi => by (rcases (show i = 0 ∨ i = 1 ∨ i = 2 ∨ i = 3 ∨ i = 4 by omega) with rfl | rfl | rfl | rfl | rfl) <;> decide
      have hm0 := mulb (a := f.shop.th - f.shop.tl + 1) (A := 401) (b := f.shop.ah - f.shop.al + 1) (B := 401) (by omega) (by omega) (by omega) (by omega)
      refine WP.skip ?_
      refine EX.then ?_
      refine WP.seq ?_
      refine WP.region ?_
      refine WPl.v rfl (o_fldp F31_0 rfl) ?_
      refine WPl.v rfl (o_fldp F28_0 rfl) ?_
      refine WPl.v rfl (o_fldp F25_1 rfl) ?_
      refine WPl.v rfl (o_fldp F23_1 rfl) ?_
      refine WPl.v rfl (o_ldp S3 rfl rfl rfl) ?_
      refine WPl.v rfl (o_fldp F31_0 rfl) ?_
      refine WPl.v rfl (o_fldp F28_0 rfl) ?_
      refine WPl.v rfl (o_fldp F25_1 rfl) ?_
      refine WPl.v rfl (o_fldp F23_0 rfl) ?_
      refine WPl.v rfl (o_ldp S3 rfl rfl rfl) ?_
      refine WPl.v rfl (o_sub rfl rfl (by first | omega | (simp; omega)) (by first | omega | (simp; omega))) ?_
      refine WPl.v rfl (o_add rfl rfl (by first | omega | (simp; omega)) (by first | omega | (simp; omega))) ?_
      refine WPl.v rfl (o_fldp F31_0 rfl) ?_
      refine WPl.v rfl (o_fldp F28_0 rfl) ?_
      refine WPl.v rfl (o_fldp F25_2 rfl) ?_
      refine WPl.v rfl (o_fldp F23_1 rfl) ?_
      refine WPl.v rfl (o_ldp S3 rfl rfl rfl) ?_
      refine WPl.v rfl (o_fldp F31_0 rfl) ?_
      refine WPl.v rfl (o_fldp F28_0 rfl) ?_
      refine WPl.v rfl (o_fldp F25_2 rfl) ?_
      refine WPl.v rfl (o_fldp F23_0 rfl) ?_
      refine WPl.v rfl (o_ldp S3 rfl rfl rfl) ?_
      refine WPl.v rfl (o_sub rfl rfl (by first | omega | (simp; omega)) (by first | omega | (simp; omega))) ?_
      refine WPl.v rfl (o_add rfl rfl (by first | omega | (simp; omega)) (by first | omega | (simp; omega))) ?_
      refine WPl.v rfl (o_mul rfl rfl (by first | omega | (simp; omega)) (by first | omega | (simp; omega))) ?_
      refine WPl.v rfl (o_assign rfl) ?_
      refine WPl.nil ?_
      refine EX.then ?_
      refine WP.seq ?_
      refine WP.seq ?_
      refine WP.region ?_
      refine WPl.v rfl (o_assign rfl) ?_
      refine WPl.nil ?_
      refine EX.then ?_
      refine WP.block ?_
      refine WP.loop (Gh := Nat) (fun i => ⟨3, [(1, .e (.a (.p 2 (0)))), (2, .b (false)), (3, .i (f.farA i)), (4, .i ((i : Int)))], [(0, PL EPig (f.shop.pigs)), (1, PL ENight (f.nights))], [(2, .blk [ai (f.shop.pounds), ai (f.shop.tl), ai (f.shop.th), ai (f.shop.al), ai (f.shop.ah), ai (f.shop.room), ai (f.shop.tpl), ai (f.shop.tph), ai (f.shop.apl), ai (f.shop.aph), .q 0, .q 1] 31)], [], []⟩) (fun i => i ≤ f.nights.length) (fun i => f.nights.length - i) (0) id ?_ (LeR.of ⟨rfl, rfl, rfl, rfl, trivial⟩ ⟨(lx rfl), (lx rfl), trivial⟩ ⟨rfl, trivial⟩ rfl rfl rfl rfl rfl) ?_
      · first | trivial | omega | (constructor <;> omega) | simp
      intro i hφ
      have hi : i ≤ f.nights.length := hφ
      have hai := hab i (by omega)
      have hpi := hp10 i (by omega)
      refine WP.seq ?_
      refine WP.seq ?_
      refine WP.region ?_
      refine WPl.v rfl (o_move rfl) ?_
      refine WPl.v rfl (o_fldp F31_1 rfl) ?_
      refine WPl.v rfl (o_ldp S29 rfl rfl rfl) ?_
      refine WPl.v rfl (o_lenq L29 rfl (lx rfl)) ?_
      refine WPl.v rfl (o_lss rfl rfl) ?_
      refine WPl.nil ?_
      refine EX.then ?_
      refine WP.cond rfl (fun hc3 => ?_) (fun hc3 => ?_)
      · try simp only [decide_eq_true_eq, decide_eq_false_iff_not, Bool.and_eq_true, Bool.or_eq_true, Bool.and_eq_false_iff, Bool.or_eq_false_iff, Bool.not_eq_true', Bool.not_eq_false', ne_eq, Decidable.not_not] at hc3
        refine WP.skip ?_
        refine EX.then ?_
        refine WP.seq ?_
        refine WP.block ?_
        refine WP.draw (nf := 5) [⟨[45, 46, 47, 48, 49, 50, 51, 52, 53, 54, 55, 56, 57, 58, 59, 60], [3, 4], [], [], []⟩, ⟨[44, 47, 52, 53, 54, 55, 56, 57, 58], [4], [], [], []⟩, ⟨[44, 47, 52, 53, 54, 55, 56, 57, 58], [4], [], [], [1]⟩, ⟨[44, 45, 46, 52, 53, 54, 55, 56, 57, 58], [4], [], [], []⟩, ⟨[44, 52, 53, 54, 55, 56, 57, 58], [4], [3], [3], [1, 2, 3]⟩, ⟨[44, 52, 53, 54, 55, 56, 57, 58], [4], [], [], [1, 2, 3, 4]⟩, ⟨[44, 52, 53, 54, 55, 56, 57, 58], [4], [], [], [1, 2, 3, 4, 5]⟩, ⟨[44, 52, 53, 54, 55, 56, 57, 58], [4], [], [], [1, 2, 3, 4, 5, 6]⟩, ⟨[44, 45, 46, 47, 48, 49, 50, 51, 54], [3], [], [], []⟩, ⟨[44, 45, 46, 47, 48, 49, 50, 51, 54], [3], [], [], [8]⟩, ⟨[44, 45, 46, 47, 48, 49, 50, 51, 52, 53], [3], [], [], []⟩, ⟨[44, 45, 46, 47, 48, 49, 50, 51], [3], [4], [4], [8, 9, 10]⟩, ⟨[44, 45, 46, 47, 48, 49, 50, 51], [3], [], [], [8, 9, 10, 11]⟩, ⟨[44, 45, 46, 47, 48, 49, 50, 51], [3], [], [], [8, 9, 10, 11, 12]⟩, ⟨[44, 45, 46, 47, 48, 49, 50, 51], [3], [], [], [8, 9, 10, 11, 12, 13]⟩, ⟨[44], [], [], [], [1, 2, 3, 4, 5, 6, 7, 8, 9, 10, 11, 12, 13, 14]⟩, ⟨[44], [], [], [], [1, 2, 3, 4, 5, 6, 7, 8, 9, 10, 11, 12, 13, 14, 15]⟩, ⟨[], [], [], [], [0, 1, 2, 3, 4, 5, 6, 7, 8, 9, 10, 11, 12, 13, 14, 15, 16]⟩, ⟨[], [], [], [], [0, 1, 2, 3, 4, 5, 6, 7, 8, 9, 10, 11, 12, 13, 14, 15, 16, 17]⟩] (by kernel_rfl) (by kernel_rfl) ?_
        refine DRQ.v rfl rfl rfl (o_move rfl) ?_
        refine DRQ.v rfl rfl rfl (o_fldp F31_1 rfl) ?_
        refine DRQ.v rfl rfl rfl (o_ldp S29 rfl rfl rfl) ?_
        refine DRQ.v rfl rfl rfl (o_move rfl) ?_
        refine DRQ.x 3 rfl rfl rfl rfl (o_idx L29 rfl (lx rfl) rfl (by first | omega | (simp; omega)) (by first | omega | (simp; omega))) ?_
        refine DRQ.v rfl rfl rfl (o_fldq F75_0 rfl (lx rfl)) ?_
        refine DRQ.v rfl rfl rfl (o_flde F23_1 rfl (lx rfl)) ?_
        refine DRQ.v rfl rfl rfl (o_lde S3 rfl (lx rfl) (strI rfl)) ?_
        refine DRQ.v rfl rfl rfl (o_fldp F31_1 rfl) ?_
        refine DRQ.v rfl rfl rfl (o_ldp S29 rfl rfl rfl) ?_
        refine DRQ.v rfl rfl rfl (o_move rfl) ?_
        refine DRQ.x 4 rfl rfl rfl rfl (o_idx L29 rfl (lx rfl) rfl (by first | omega | (simp; omega)) (by first | omega | (simp; omega))) ?_
        refine DRQ.v rfl rfl rfl (o_fldq F75_0 rfl (lx rfl)) ?_
        refine DRQ.v rfl rfl rfl (o_flde F23_0 rfl (lx rfl)) ?_
        refine DRQ.v rfl rfl rfl (o_lde S3 rfl (lx rfl) (strI rfl)) ?_
        have hnb := Night.bnds (hn.at (show i < f.nights.length by omega))
        have hms := hab (i + 1) (by omega)
        have hpi1 := hp10 (i + 1) (by omega)
        simp only [Fnd.farA] at hms
        refine DRQ.v rfl rfl rfl (o_sub rfl rfl (by first | omega | (simp; omega)) (by first | omega | (simp; omega))) ?_
        refine DRQ.v rfl rfl rfl (o_add rfl rfl (by first | omega | (simp; omega)) (by first | omega | (simp; omega))) ?_
        refine DRQ.v rfl rfl rfl (o_mul rfl rfl (by first | omega | (simp; omega)) (by first | omega | (simp; omega))) ?_
        refine DRQ.v rfl rfl rfl (o_assign rfl) ?_
        refine DRQ.nil' ?_
        refine EX.blk ?_
        refine EX.then ?_
        refine WP.region ?_
        refine WPl.v rfl (o_move rfl) ?_
        refine WPl.v rfl (o_add rfl rfl (by first | omega | (simp; omega)) (by first | omega | (simp; omega))) ?_
        refine WPl.v rfl (o_assign rfl) ?_
        refine WPl.nil ?_
        refine EX.again (i + 1) id (by first | omega | (constructor <;> omega)) (by omega) (LeR.of ⟨rfl, rfl, rfl, rfl, trivial⟩ ⟨(lx rfl), (lx rfl), trivial⟩ ⟨rfl, trivial⟩ rfl rfl rfl rfl rfl)
      · try simp only [decide_eq_true_eq, decide_eq_false_iff_not, Bool.and_eq_true, Bool.or_eq_true, Bool.and_eq_false_iff, Bool.or_eq_false_iff, Bool.not_eq_true', Bool.not_eq_false', ne_eq, Decidable.not_not] at hc3
        refine WP.exit ?_
        refine EX.exit_then ?_
        refine EX.exit_then ?_
        refine EX.exit_blk ?_
        refine EX.then ?_
        refine WP.seq ?_
        refine WP.seq ?_
        refine WP.region ?_
        refine WPl.v rfl (o_assign rfl) ?_
        refine WPl.nil ?_
        refine EX.then ?_
        refine WP.block ?_
        refine WP.loop (Gh := Nat) (fun k => ⟨3, [(1, .e (.a (.p 2 (0)))), (2, .b (false)), (3, .i (f.farK k)), (5, .i ((k : Int)))], [(0, PL EPig (f.shop.pigs)), (1, PL ENight (f.nights))], [(2, .blk [ai (f.shop.pounds), ai (f.shop.tl), ai (f.shop.th), ai (f.shop.al), ai (f.shop.ah), ai (f.shop.room), ai (f.shop.tpl), ai (f.shop.tph), ai (f.shop.apl), ai (f.shop.aph), .q 0, .q 1] 31)], [], []⟩) (fun k => k ≤ f.shop.pigs.length) (fun k => f.shop.pigs.length - k) (0) id ?_ (LeR.of ⟨rfl, rfl, (congrArg (fun z => some (SV.i z)) (show (f.farA i) = ((fun k => f.farK k) 0) from by rw [show i = f.nights.length by omega]; rfl)), rfl, trivial⟩ ⟨(lx rfl), (lx rfl), trivial⟩ ⟨rfl, trivial⟩ rfl rfl rfl rfl rfl) ?_
        · first | trivial | omega | (constructor <;> omega) | simp
        intro k hφ
        have hk : k ≤ f.shop.pigs.length := hφ
        refine WP.seq ?_
        refine WP.seq ?_
        refine WP.region ?_
        refine WPl.v rfl (o_move rfl) ?_
        refine WPl.v rfl (o_fldp F31_0 rfl) ?_
        refine WPl.v rfl (o_fldp F28_4 rfl) ?_
        refine WPl.v rfl (o_ldp S26 rfl rfl rfl) ?_
        refine WPl.v rfl (o_lenq L26 rfl (lx rfl)) ?_
        refine WPl.v rfl (o_lss rfl rfl) ?_
        refine WPl.v rfl (o_move rfl) ?_
        refine WPl.bit 3 4 (decide ((k : Int) < (f.shop.pigs.length : Int))) rfl rfl ?_
        refine WPl.gv 3 rfl rfl (.plain rfl Iff.rfl rfl) (fun hb => o_move rfl) ?_
        refine WPl.gv 3 rfl rfl (.plain rfl Iff.rfl rfl) (fun hb => o_leq rfl rfl) ?_
        refine WPl.v rfl (o_and rfl rfl rfl id) ?_
        refine WPl.nil ?_
        refine EX.then ?_
        refine WP.cond rfl (fun hc4 => ?_) (fun hc4 => ?_)
        · try simp only [decide_eq_true_eq, decide_eq_false_iff_not, Bool.and_eq_true, Bool.or_eq_true, Bool.and_eq_false_iff, Bool.or_eq_false_iff, Bool.not_eq_true', Bool.not_eq_false', ne_eq, Decidable.not_not] at hc4
          refine WP.skip ?_
          refine EX.then ?_
          refine WP.seq ?_
          refine WP.block ?_
          refine WP.seq ?_
          refine WP.region ?_
          refine WPl.v rfl (o_assign rfl) ?_
          refine WPl.nil ?_
          refine EX.then ?_
          refine WP.block ?_
          refine WP.loop (Gh := Nat) (fun j => ⟨4, [(1, .e (.a (.p 2 (0)))), (2, .b (false)), (3, .i (farI (nth f.shop.pigs k).many (f.farK k) j)), (5, .i ((k : Int))), (62, .i ((k : Int))), (63, .e (.a (.p 2 (0)))), (64, .e (.a (.p 2 (10)))), (65, .e (.a (.q 0))), (66, .i ((f.shop.pigs.length : Int))), (67, .b (decide ((k : Int) < (f.shop.pigs.length : Int)))), (68, .b (decide ((k : Int) < (f.shop.pigs.length : Int)))), (71, .b ((decide ((k : Int) < (f.shop.pigs.length : Int))) && (decide ((f.farK k) ≤ 3000)))), (6, .i ((j : Int) + 1))], [(0, PL EPig (f.shop.pigs)), (1, PL ENight (f.nights))], [(2, .blk [ai (f.shop.pounds), ai (f.shop.tl), ai (f.shop.th), ai (f.shop.al), ai (f.shop.ah), ai (f.shop.room), ai (f.shop.tpl), ai (f.shop.tph), ai (f.shop.apl), ai (f.shop.aph), .q 0, .q 1] 31)], [], []⟩) (fun j => j ≤ f.nights.length) (fun j => f.nights.length - j) (0) id ?_ (LeR.of ⟨rfl, rfl, rfl, rfl, rfl, rfl, rfl, rfl, rfl, rfl, rfl, rfl, (congrArg (fun z => some (SV.i z)) (show (1) = ((fun j => (j : Int) + 1) 0) from by simp)), trivial⟩ ⟨(lx rfl), (lx rfl), trivial⟩ ⟨rfl, trivial⟩ rfl rfl rfl rfl rfl) ?_
          · first | trivial | omega | (constructor <;> omega) | simp
          intro j hφ
          have hj : j ≤ f.nights.length := hφ
          refine WP.seq ?_
          refine WP.seq ?_
          refine WP.region ?_
          refine WPl.v rfl (o_move rfl) ?_
          refine WPl.v rfl (o_fldp F31_1 rfl) ?_
          refine WPl.v rfl (o_ldp S29 rfl rfl rfl) ?_
          refine WPl.v rfl (o_lenq L29 rfl (lx rfl)) ?_
          refine WPl.v rfl (o_leq rfl rfl) ?_
          refine WPl.nil ?_
          refine EX.then ?_
          refine WP.cond rfl (fun hc5 => ?_) (fun hc5 => ?_)
          · try simp only [decide_eq_true_eq, decide_eq_false_iff_not, Bool.and_eq_true, Bool.or_eq_true, Bool.and_eq_false_iff, Bool.or_eq_false_iff, Bool.not_eq_true', Bool.not_eq_false', ne_eq, Decidable.not_not] at hc5
            refine WP.skip ?_
            refine EX.then ?_
            refine WP.seq ?_
            refine WP.block ?_
            refine WP.region ?_
            refine WPl.v rfl (o_move rfl) ?_
            refine WPl.v rfl (o_fldp F31_0 rfl) ?_
            refine WPl.v rfl (o_fldp F28_4 rfl) ?_
            refine WPl.v rfl (o_ldp S26 rfl rfl rfl) ?_
            refine WPl.v rfl (o_move rfl) ?_
            refine WPl.x 4 5 rfl rfl rfl (o_idx L26 rfl (lx rfl) rfl (by first | omega | (simp; omega)) (by first | omega | (simp; omega))) ?_
            refine WPl.v rfl (o_fldq F78_4 rfl (lx rfl)) ?_
            have hkb := Pig.bnds (hpg.at (show k < f.shop.pigs.length by omega))
            have hk0 : 0 ≤ f.farK k := farK_nonneg hf (by omega)
            have hij := farI_bnd (many := (nth f.shop.pigs k).many) (n := f.farK k) (by omega) (by omega) hk0 (by omega) j (by omega)
            have hp9j := hp9 j (by omega)
            have hmm := mulb (a := farI (nth f.shop.pigs k).many (f.farK k) j) (A := 20000000) (b := (nth f.shop.pigs k).many + ((j : Int) + 1)) (B := 10) (by omega) (by omega) (by omega) (by omega)
            have hq0 := Int.tdiv_nonneg hmm.1 (show (0 : Int) ≤ (j : Int) + 1 by omega)
            have hq1 := Int.tdiv_le_self ((j : Int) + 1) hmm.1
            refine WPl.v rfl (o_lde S3 rfl (lx rfl) (strI rfl)) ?_
            refine WPl.v rfl (o_move rfl) ?_
            refine WPl.v rfl (o_add rfl rfl (by first | omega | (simp; omega)) (by first | omega | (simp; omega))) ?_
            refine WPl.v rfl (o_mul rfl rfl (by first | omega | (simp; omega)) (by first | omega | (simp; omega))) ?_
            refine WPl.v rfl (o_move rfl) ?_
            refine WPl.v rfl (o_quo rfl rfl (by first | omega | (simp; omega)) (by first | omega | (simp; omega)) (by first | omega | (simp; omega))) ?_
            refine WPl.v rfl (o_assign rfl) ?_
            refine WPl.nil ?_
            refine EX.blk ?_
            refine EX.then ?_
            refine WP.region ?_
            refine WPl.v rfl (o_move rfl) ?_
            refine WPl.v rfl (o_add rfl rfl (by first | omega | (simp; omega)) (by first | omega | (simp; omega))) ?_
            refine WPl.v rfl (o_assign rfl) ?_
            refine WPl.nil ?_
            refine EX.again (j + 1) id (by first | omega | (constructor <;> omega)) (by omega) (LeR.of ⟨rfl, rfl, rfl, rfl, rfl, rfl, rfl, rfl, rfl, rfl, rfl, rfl, (congrArg (fun z => some (SV.i z)) (show (((j : Int) + 1) + 1) = ((fun j => (j : Int) + 1) (j + 1)) from by show (j : Int) + 1 + 1 = ((j + 1 : Nat) : Int) + 1; omega)), trivial⟩ ⟨(lx rfl), (lx rfl), trivial⟩ ⟨rfl, trivial⟩ rfl rfl rfl rfl rfl)
          · try simp only [decide_eq_true_eq, decide_eq_false_iff_not, Bool.and_eq_true, Bool.or_eq_true, Bool.and_eq_false_iff, Bool.or_eq_false_iff, Bool.not_eq_true', Bool.not_eq_false', ne_eq, Decidable.not_not] at hc5
            refine WP.exit ?_
            refine EX.exit_then ?_
            refine EX.exit_then ?_
            refine EX.exit_blk ?_
            refine EX.blk ?_
            refine EX.then ?_
            refine WP.region ?_
            refine WPl.v rfl (o_move rfl) ?_
            refine WPl.v rfl (o_add rfl rfl (by first | omega | (simp; omega)) (by first | omega | (simp; omega))) ?_
            refine WPl.v rfl (o_assign rfl) ?_
            refine WPl.nil ?_
            refine EX.again (k + 1) id (by first | omega | (constructor <;> omega)) (by omega) (LeR.of ⟨rfl, rfl, (congrArg (fun z => some (SV.i z)) (show (farI (nth f.shop.pigs k).many (f.farK k) j) = ((fun k => f.farK k) (k + 1)) from by rw [show j = f.nights.length by omega]; simp only [Fnd.farK]; rw [if_pos (by omega)])), rfl, trivial⟩ ⟨(lx rfl), (lx rfl), trivial⟩ ⟨rfl, trivial⟩ rfl rfl rfl rfl rfl)
        · try simp only [decide_eq_true_eq, decide_eq_false_iff_not, Bool.and_eq_true, Bool.or_eq_true, Bool.and_eq_false_iff, Bool.or_eq_false_iff, Bool.not_eq_true', Bool.not_eq_false', ne_eq, Decidable.not_not] at hc4
          refine WP.exit ?_
          refine EX.exit_then ?_
          refine EX.exit_then ?_
          refine EX.exit_blk ?_
          refine EX.then ?_
          refine WP.seq ?_
          refine WP.region ?_
          refine WPl.v rfl (o_move rfl) ?_
          refine WPl.v rfl (o_gtr rfl rfl) ?_
          refine WPl.v rfl (o_assign rfl) ?_
          refine WPl.nil ?_
          refine EX.then ?_
          refine WP.ret ?_
          rw [show f.far = decide (3000 < f.farK k) from by simp only [Fnd.far, hnh, hf, Bool.false_or, Bool.true_and]; rw [farK_stop hf (k := k) (by omega) (by omega)]]
          exact EX.fin id (.inl rfl) rfl (.tmp rfl .nil) rfl (by simp [SV.res, El.res, At.res, keys]) trivial (by simp) (by simp)
theorem w75  : ∀ x ∈ ([] : List SV), x.res (keys (α := Pred) []) := by simp [SV.res, El.res, At.res, keys]
theorem r75  : SV.res (keys (α := Pred) [(0, PL EPig (exW.shop.pigs)), (1, PL ENight (exW.nights)), (2, PL EPig (exU.shop.pigs)), (3, PL ENight (exU.nights)), (4, PL EPig (exV.shop.pigs)), (5, PL ENight (exV.nights))]) (.t [.g [ai (exW.shop.pounds), ai (exW.shop.tl), ai (exW.shop.th), ai (exW.shop.al), ai (exW.shop.ah), ai (exW.shop.room), ai (exW.shop.tpl), ai (exW.shop.tph), ai (exW.shop.apl), ai (exW.shop.aph), .q 0, .q 1], .g [ai (exU.shop.pounds), ai (exU.shop.tl), ai (exU.shop.th), ai (exU.shop.al), ai (exU.shop.ah), ai (exU.shop.room), ai (exU.shop.tpl), ai (exU.shop.tph), ai (exU.shop.apl), ai (exU.shop.aph), .q 2, .q 3], .g [ai (exV.shop.pounds), ai (exV.shop.tl), ai (exV.shop.th), ai (exV.shop.al), ai (exV.shop.ah), ai (exV.shop.room), ai (exV.shop.tpl), ai (exV.shop.tph), ai (exV.shop.apl), ai (exV.shop.aph), .q 4, .q 5]]) := by simp [SV.res, El.res, At.res, keys]
set_option maxHeartbeats 4000000 in
theorem c75   : Sig Try.prog 75 [] [] (.t [.g [ai (exW.shop.pounds), ai (exW.shop.tl), ai (exW.shop.th), ai (exW.shop.al), ai (exW.shop.ah), ai (exW.shop.room), ai (exW.shop.tpl), ai (exW.shop.tph), ai (exW.shop.apl), ai (exW.shop.aph), .q 0, .q 1], .g [ai (exU.shop.pounds), ai (exU.shop.tl), ai (exU.shop.th), ai (exU.shop.al), ai (exU.shop.ah), ai (exU.shop.room), ai (exU.shop.tpl), ai (exU.shop.tph), ai (exU.shop.apl), ai (exU.shop.aph), .q 2, .q 3], .g [ai (exV.shop.pounds), ai (exV.shop.tl), ai (exV.shop.th), ai (exV.shop.al), ai (exV.shop.ah), ai (exV.shop.room), ai (exV.shop.tpl), ai (exV.shop.tph), ai (exV.shop.apl), ai (exV.shop.aph), .q 4, .q 5]]) [(0, PL EPig (exW.shop.pigs)), (1, PL ENight (exW.nights)), (2, PL EPig (exU.shop.pigs)), (3, PL ENight (exU.nights)), (4, PL EPig (exV.shop.pigs)), (5, PL ENight (exV.nights))] := by
  refine Sig.intro Try.func75 rfl 0 [] rfl w75 rfl rfl fun I w => ?_
  refine WP.seq ?_
  refine WP.region ?_
  refine WPl.l 0 1 rfl rfl rfl (o_alloc Z31) ?_
  refine WPl.l 1 2 rfl rfl rfl (o_alloc Z31) ?_
  refine WPl.l 2 3 rfl rfl rfl (o_alloc Z31) ?_
  refine WPl.nil ?_
  refine EX.then ?_
  refine WP.seq ?_
  refine WP.region ?_
  refine WPl.v rfl (o_build B23 rfl ⟨rfl, rfl, trivial⟩ rfl rfl) ?_
  refine WPl.v rfl (o_build B23 rfl ⟨rfl, rfl, trivial⟩ rfl rfl) ?_
  refine WPl.v rfl (o_build B25 rfl ⟨rfl, trivial⟩ rfl rfl) ?_
  refine WPl.v rfl (o_build B23 rfl ⟨rfl, rfl, trivial⟩ rfl rfl) ?_
  refine WPl.v rfl (o_build B23 rfl ⟨rfl, rfl, trivial⟩ rfl rfl) ?_
  refine WPl.v rfl (o_build B78 rfl ⟨rfl, rfl, rfl, rfl, rfl, trivial⟩ rfl rfl) ?_
  refine WPl.x 3 4 rfl rfl rfl (OpG.settle0 (o_bsl (E := EPig) (l := [(⟨10, 3, 1, 20, 2⟩ : Pig)]) R26 rfl rfl (.cons (⟨rfl, rfl, rfl, rfl, rfl, trivial⟩) rfl (eok_str ⟨rfl, rfl, rfl, rfl, rfl, trivial⟩) (.nil)) rfl rfl)) ?_
  refine WPl.v rfl (o_build B28 rfl ⟨rfl, (.inl ⟨_, (lx rfl), PL.one⟩), trivial⟩ rfl rfl) ?_
  refine WPl.v rfl (o_build B23 rfl ⟨rfl, rfl, trivial⟩ rfl rfl) ?_
  refine WPl.v rfl (o_build B75 rfl trivial rfl rfl) ?_
  refine WPl.v rfl (o_build B23 rfl ⟨rfl, rfl, trivial⟩ rfl rfl) ?_
  refine WPl.v rfl (o_build B75 rfl trivial rfl rfl) ?_
  refine WPl.v rfl (o_build B23 rfl ⟨rfl, rfl, trivial⟩ rfl rfl) ?_
  refine WPl.v rfl (o_build B75 rfl trivial rfl rfl) ?_
  refine WPl.x 4 5 rfl rfl rfl (OpG.settle0 (o_bsl (E := ENight) (l := [(⟨1, 2, 0⟩ : Night), (⟨1, 1, 0⟩ : Night), (⟨1, 2, 0⟩ : Night)]) R29 rfl rfl (.cons (⟨rfl, rfl, rfl, trivial⟩) rfl (eok_str ⟨rfl, rfl, rfl, trivial⟩) (.cons (⟨rfl, rfl, rfl, trivial⟩) rfl (eok_str ⟨rfl, rfl, rfl, trivial⟩) (.cons (⟨rfl, rfl, rfl, trivial⟩) rfl (eok_str ⟨rfl, rfl, rfl, trivial⟩) (.nil)))) rfl rfl)) ?_
  refine WPl.v rfl (o_build B31 rfl ⟨(.inl ⟨_, (lx rfl), PL.one⟩), trivial⟩ rfl rfl) ?_
  refine WPl.s1 (o_stag G31 rfl rfl rfl ⟨rfl, rfl, rfl, rfl, rfl, rfl, rfl, rfl, rfl, rfl, (.inl ⟨_, (lx rfl), PL.one⟩), (.inl ⟨_, (lx rfl), PL.one⟩), trivial⟩ rfl rfl) ?_
  refine WPl.nil ?_
  refine EX.then ?_
  refine WP.seq ?_
  refine WP.region ?_
  refine WPl.v rfl (o_ldpa G31 rfl rfl rfl) ?_
  refine WPl.cs 7 rfl rfl rfl rfl (o_sig 5 (ren [(0, 3), (1, 4)]) (c17 exW (by decide) (by decide)) e17 rfl rfl rfl w17 ⟨(lx rfl), (lx rfl), trivial⟩ r17) ?_
  refine WPl.s1 (o_stag G31 rfl rfl rfl ⟨rfl, rfl, rfl, rfl, rfl, rfl, rfl, rfl, rfl, rfl, (.inl ⟨_, (lx rfl), PL.one⟩), (.inl ⟨_, (lx rfl), PL.one⟩), trivial⟩ rfl rfl) ?_
  refine WPl.nil ?_
  refine EX.then ?_
  refine WP.seq ?_
  refine WP.region ?_
  refine WPl.v rfl (o_fldp F31_0 rfl) ?_
  refine WPl.v rfl (o_fldp F28_2 rfl) ?_
  refine WPl.v rfl (o_fldp F23_1 rfl) ?_
  refine WPl.s1 (o_sta S3 rfl rfl rfl rfl rfl) ?_
  refine WPl.nil ?_
  refine EX.then ?_
  refine WP.seq ?_
  refine WP.draw (nf := 9) [⟨[25, 26, 27], [7, 8], [], [], []⟩, ⟨[24, 26, 27], [0, 7, 8], [], [], []⟩, ⟨[24, 25], [], [], [], []⟩, ⟨[24, 25], [], [7, 8], [7, 8], [2]⟩, ⟨[25], [], [], [0], [0, 2, 3]⟩, ⟨[], [], [], [1], [0, 1, 2, 3, 4]⟩, ⟨[], [], [], [2], [0, 1, 2, 3, 4, 5]⟩] (by kernel_rfl) (by kernel_rfl) ?_
  refine DRQ.v rfl rfl rfl (o_ldpa G31 rfl rfl rfl) ?_
  refine DRQ.v rfl rfl rfl (o_ldpa G31 rfl rfl rfl) ?_
  refine DRQ.v rfl rfl rfl (o_ldpa G31 rfl rfl rfl) ?_
  refine DRQ.cs rfl rfl rfl rfl (o_sig 7 (ren [(0, 5), (1, 6)]) (c64 exU 2 ex_chk.2.1 (by decide)) e64 rfl rfl rfl w64 ⟨(lx rfl), (lx rfl), trivial⟩ r64) ?_
  refine DRQ.s 0 rfl rfl rfl (o_stag G31 rfl rfl rfl ⟨rfl, rfl, rfl, rfl, rfl, rfl, rfl, rfl, rfl, rfl, (.inl ⟨_, (lx rfl), PL.one⟩), (.inl ⟨_, (lx rfl), PL.one⟩), trivial⟩ rfl rfl) ?_
  refine DRQ.s 1 rfl rfl rfl (o_stag G31 rfl rfl rfl ⟨rfl, rfl, rfl, rfl, rfl, rfl, rfl, rfl, rfl, rfl, (.inl ⟨_, (lx rfl), PL.one⟩), (.inl ⟨_, (lx rfl), PL.one⟩), trivial⟩ rfl rfl) ?_
  refine DRQ.s 2 rfl rfl rfl (o_stag G31 rfl rfl rfl ⟨rfl, rfl, rfl, rfl, rfl, rfl, rfl, rfl, rfl, rfl, (.inl ⟨_, (lx rfl), PL.one⟩), (.inl ⟨_, (lx rfl), PL.one⟩), trivial⟩ rfl rfl) ?_
  refine DRQ.nil' ?_
  refine EX.then ?_
  refine WP.ret ?_
  exact EX.fin (ren [(0, 3), (1, 4), (2, 5), (3, 6), (4, 7), (5, 8)]) (.inl rfl) rfl (.cellg G31 rfl rfl rfl (.cellg G31 rfl rfl rfl (.cellg G31 rfl rfl rfl (.nil)))) rfl r75 ⟨(lx rfl), (lx rfl), (lx rfl), (lx rfl), (lx rfl), (lx rfl), trivial⟩ (by simp) (by simp)
theorem w16  : ∀ x ∈ ([] : List SV), x.res (keys (α := Pred) []) := by simp [SV.res, El.res, At.res, keys]
theorem r16  : SV.res (keys (α := Pred) []) (.b (true)) := by simp [SV.res, El.res, At.res, keys]
set_option maxHeartbeats 4000000 in
theorem c16   : Sig Try.prog 16 [] [] (.b (true)) [] := by
  refine Sig.intro Try.func16 rfl 0 [] rfl w16 rfl rfl fun I w => ?_
  refine WP.seq ?_
  refine WP.region ?_
  refine WPl.v rfl (o_assign rfl) ?_
  refine WPl.nil ?_
  refine EX.then ?_
  refine WP.seq ?_
  refine WP.region ?_
  refine WPl.cs 6 rfl rfl rfl rfl (o_sig 0 id c75 e75 rfl rfl rfl w75 trivial r75) ?_
  refine WPl.v rfl (o_move rfl) ?_
  refine WPl.v rfl (o_extract rfl rfl) ?_
  refine WPl.v rfl (o_extract rfl rfl) ?_
  refine WPl.v rfl (o_extract rfl rfl) ?_
  refine WPl.l 6 7 rfl rfl rfl (o_alloc Z31) ?_
  refine WPl.l 7 8 rfl rfl rfl (o_alloc Z31) ?_
  refine WPl.l 8 9 rfl rfl rfl (o_alloc Z31) ?_
  refine WPl.s1 (o_stag G31 rfl rfl rfl ⟨rfl, rfl, rfl, rfl, rfl, rfl, rfl, rfl, rfl, rfl, (.inl ⟨_, (lx rfl), PL.one⟩), (.inl ⟨_, (lx rfl), PL.one⟩), trivial⟩ rfl rfl) ?_
  refine WPl.s1 (o_stag G31 rfl rfl rfl ⟨rfl, rfl, rfl, rfl, rfl, rfl, rfl, rfl, rfl, rfl, (.inl ⟨_, (lx rfl), PL.one⟩), (.inl ⟨_, (lx rfl), PL.one⟩), trivial⟩ rfl rfl) ?_
  refine WPl.s1 (o_stag G31 rfl rfl rfl ⟨rfl, rfl, rfl, rfl, rfl, rfl, rfl, rfl, rfl, rfl, (.inl ⟨_, (lx rfl), PL.one⟩), (.inl ⟨_, (lx rfl), PL.one⟩), trivial⟩ rfl rfl) ?_
  refine WPl.nil ?_
  refine EX.then ?_
  refine WP.seq ?_
  refine WP.region ?_
  refine WPl.v rfl (o_ldpa G31 rfl rfl rfl) ?_
  refine WPl.x 9 10 rfl rfl rfl (OpG.settle0 (o_bsl (E := EP.int) (l := [1]) R44 rfl rfl (.cons (rfl) rfl (eok_int) (.nil)) rfl rfl)) ?_
  refine WPl.x 10 11 rfl rfl rfl (OpG.settle0 (o_bsl (E := EP.int) (l := [0]) R44 rfl rfl (.cons (rfl) rfl (eok_int) (.nil)) rfl rfl)) ?_
  refine WPl.x 11 12 rfl rfl rfl (OpG.settle0 (o_bsl (E := EP.int) (l := [0]) R44 rfl rfl (.cons (rfl) rfl (eok_int) (.nil)) rfl rfl)) ?_
  refine WPl.x 12 13 rfl rfl rfl (OpG.settle0 (o_bsl (E := (EP.sl EP.int)) (l := [[1], [0], [0]]) R32 rfl rfl (.cons ((.inl ⟨_, (lx rfl), PL.one⟩)) rfl (eok_sl (lx rfl)) (.cons ((.inl ⟨_, (lx rfl), PL.one⟩)) rfl (eok_sl (lx rfl)) (.cons ((.inl ⟨_, (lx rfl), PL.one⟩)) rfl (eok_sl (lx rfl)) (.nil)))) rfl rfl)) ?_
  refine WPl.cs 14 rfl rfl rfl rfl (o_sig 13 (ren [(0, 0), (1, 1), (2, 12)]) (c25 exW [[1], [0], [0]] (by decide)) e25 rfl rfl rfl w25 ⟨(lx rfl), (lx rfl), (lx rfl), trivial⟩ r25) ?_
  refine WPl.v rfl (o_move rfl) ?_
  refine WPl.v rfl (o_extract rfl rfl) ?_
  refine WPl.v rfl (o_extract rfl rfl) ?_
  refine WPl.v rfl (o_assign rfl) ?_
  refine WPl.v rfl (o_assign rfl) ?_
  refine WPl.nil ?_
  refine EX.then ?_
  refine WP.seq ?_
  refine WP.region ?_
  refine WPl.v rfl (o_ldpa G31 rfl rfl rfl) ?_
  refine WPl.cs 14 rfl rfl rfl rfl (o_sig 14 (ren [(0, 0), (1, 1)]) (c28 exW (by decide)) e28 rfl rfl rfl w28 ⟨(lx rfl), (lx rfl), trivial⟩ r28) ?_
  refine WPl.v rfl (o_move rfl) ?_
  refine WPl.v rfl (o_extract rfl rfl) ?_
  refine WPl.v rfl (o_extract rfl rfl) ?_
  refine WPl.v rfl (o_assign rfl) ?_
  refine WPl.v rfl (o_assign rfl) ?_
  refine WPl.nil ?_
  refine EX.then ?_
  refine WP.seq ?_
  refine WP.region ?_
  refine WPl.v rfl (o_ldpa G31 rfl rfl rfl) ?_
  refine WPl.cs 15 rfl rfl rfl rfl (o_sig 14 (ren [(0, 0), (1, 1)]) (c45 exW (by decide)) e45 rfl rfl rfl w45 ⟨(lx rfl), (lx rfl), trivial⟩ r45) ?_
  refine WPl.v rfl (o_move rfl) ?_
  refine WPl.v rfl (o_extract rfl rfl) ?_
  refine WPl.v rfl (o_extract rfl rfl) ?_
  refine WPl.v rfl (o_assign rfl) ?_
  refine WPl.v rfl (o_assign rfl) ?_
  refine WPl.nil ?_
  refine EX.then ?_
  refine WP.seq ?_
  refine WP.region ?_
  refine WPl.v rfl (o_ldpa G31 rfl rfl rfl) ?_
  refine WPl.cs 15 rfl rfl rfl rfl (o_sig 15 (ren [(0, 4), (1, 5)]) (c57 exV (by decide)) e57 rfl rfl rfl w57 ⟨(lx rfl), (lx rfl), trivial⟩ r57) ?_
  refine WPl.v rfl (o_move rfl) ?_
  refine WPl.v rfl (o_extract rfl rfl) ?_
  refine WPl.v rfl (o_extract rfl rfl) ?_
  refine WPl.v rfl (o_assign rfl) ?_
  refine WPl.v rfl (o_assign rfl) ?_
  refine WPl.nil ?_
  refine EX.then ?_
  refine WP.seq ?_
  refine WP.region ?_
  refine WPl.v rfl (o_ldpa G31 rfl rfl rfl) ?_
  refine WPl.cs 15 rfl rfl rfl rfl (o_sig 15 (ren [(0, 2), (1, 3)]) (c43 exU (by decide)) e43 rfl rfl rfl w43 ⟨(lx rfl), (lx rfl), trivial⟩ r43) ?_
  refine WPl.v rfl (o_move rfl) ?_
  refine WPl.v rfl (o_extract rfl rfl) ?_
  refine WPl.v rfl (o_extract rfl rfl) ?_
  refine WPl.v rfl (o_assign rfl) ?_
  refine WPl.v rfl (o_assign rfl) ?_
  refine WPl.nil ?_
  refine EX.then ?_
  refine WP.seq ?_
  refine WP.region ?_
  refine WPl.v rfl (o_ldpa G31 rfl rfl rfl) ?_
  refine WPl.x 15 16 rfl rfl rfl (OpG.settle0 (o_bsl (E := EP.int) (l := [0]) R44 rfl rfl (.cons (rfl) rfl (eok_int) (.nil)) rfl rfl)) ?_
  refine WPl.x 16 17 rfl rfl rfl (OpG.settle0 (o_bsl (E := EP.int) (l := [0]) R44 rfl rfl (.cons (rfl) rfl (eok_int) (.nil)) rfl rfl)) ?_
  refine WPl.x 17 18 rfl rfl rfl (OpG.settle0 (o_bsl (E := EP.int) (l := [0]) R44 rfl rfl (.cons (rfl) rfl (eok_int) (.nil)) rfl rfl)) ?_
  refine WPl.x 18 19 rfl rfl rfl (OpG.settle0 (o_bsl (E := (EP.sl EP.int)) (l := [[0], [0], [0]]) R32 rfl rfl (.cons ((.inl ⟨_, (lx rfl), PL.one⟩)) rfl (eok_sl (lx rfl)) (.cons ((.inl ⟨_, (lx rfl), PL.one⟩)) rfl (eok_sl (lx rfl)) (.cons ((.inl ⟨_, (lx rfl), PL.one⟩)) rfl (eok_sl (lx rfl)) (.nil)))) rfl rfl)) ?_
  refine WPl.cs 19 rfl rfl rfl rfl (o_sig 19 (ren [(0, 0), (1, 1), (2, 18)]) (c23 exW [[0], [0], [0]] (by decide)) e23 rfl rfl rfl w23 ⟨(lx rfl), (lx rfl), (lx rfl), trivial⟩ r23) ?_
  refine WPl.v rfl (o_move rfl) ?_
  refine WPl.v rfl (o_extract rfl rfl) ?_
  refine WPl.v rfl (o_extract rfl rfl) ?_
  refine WPl.v rfl (o_assign rfl) ?_
  refine WPl.v rfl (o_assign rfl) ?_
  refine WPl.nil ?_
  refine EX.then ?_
  refine WP.seq ?_
  refine WP.region ?_
  refine WPl.v rfl (o_move rfl) ?_
  refine WPl.v rfl (o_eql rfl rfl) ?_
  refine WPl.imp (Imp.bitF 60 (b' := true) rfl (decide_eq_true ex_fE)) ?_
  refine WPl.v rfl (o_move rfl) ?_
  refine WPl.on rfl ⟨_, _, rfl, rfl, rfl⟩ (o_move rfl) ?_
  refine WPl.on rfl ⟨_, _, rfl, rfl, rfl⟩ (o_eql rfl rfl) ?_
  refine WPl.v rfl (o_pickT rfl rfl) ?_
  refine WPl.v rfl (o_move rfl) ?_
  refine WPl.bit 19 20 (decide ((errW exW.chk) = 0)) rfl rfl ?_
  refine WPl.gv 19 rfl rfl (.plain rfl Iff.rfl rfl) (fun hb => o_move rfl) ?_
  refine WPl.gv 19 rfl rfl (.plain rfl Iff.rfl rfl) (fun hb => o_eql rfl rfl) ?_
  refine WPl.v rfl (o_and rfl rfl rfl id) ?_
  refine WPl.v rfl (o_move rfl) ?_
  refine WPl.bit 20 21 ((decide ((errW exW.chk) = 0)) && (decide ((exW.leastE costG) = 0))) rfl rfl ?_
  refine WPl.gv 20 rfl rfl (.plain rfl Iff.rfl rfl) (fun hb => o_move rfl) ?_
  refine WPl.gv 20 rfl rfl (.plain rfl Iff.rfl rfl) (fun hb => o_eql rfl rfl) ?_
  refine WPl.v rfl (o_and rfl rfl rfl id) ?_
  refine WPl.v rfl (o_move rfl) ?_
  refine WPl.bit 21 22 (((decide ((errW exW.chk) = 0)) && (decide ((exW.leastE costG) = 0))) && (decide (exV.wKnownE = 0))) rfl rfl ?_
  refine WPl.gv 21 rfl rfl (.plain rfl Iff.rfl rfl) (fun hb => o_move rfl) ?_
  refine WPl.gv 21 rfl rfl (.plain rfl Iff.rfl rfl) (fun hb => o_eql rfl rfl) ?_
  refine WPl.v rfl (o_and rfl rfl rfl id) ?_
  refine WPl.v rfl (o_move rfl) ?_
  refine WPl.bit 22 23 ((((decide ((errW exW.chk) = 0)) && (decide ((exW.leastE costG) = 0))) && (decide (exV.wKnownE = 0))) && (decide ((exU.leastE costG) = 3))) rfl rfl ?_
  refine WPl.gv 22 rfl rfl (.plain rfl Iff.rfl rfl) (fun hb => o_move rfl) ?_
  refine WPl.gv 22 rfl rfl (.plain rfl Iff.rfl rfl) (fun hb => o_eql rfl rfl) ?_
  refine WPl.v rfl (o_and rfl rfl rfl id) ?_
  refine WPl.v rfl (o_move rfl) ?_
  rw [ex_f]
  refine WPl.bit 23 24 (((((decide ((errW exW.chk) = 0)) && (decide ((exW.leastE costG) = 0))) && (decide (exV.wKnownE = 0))) && (decide ((exU.leastE costG) = 3))) && (decide ((exW.wOpen (exW.wPlan [[0], [0], [0]])) = 0))) rfl rfl ?_
  refine WPl.gv 23 rfl rfl (.plain rfl Iff.rfl rfl) (fun hb => o_move rfl) ?_
  refine WPl.gx 23 24 25 rfl rfl rfl rfl (.plain rfl Iff.rfl rfl) (fun hb => OpG.settle0 (o_bsl (E := EP.int) (l := [0, 1]) R44 rfl rfl (.cons (rfl) rfl (eok_int) (.cons (rfl) rfl (eok_int) (.nil))) rfl rfl)) ?_
  refine WPl.gc0 23 rfl rfl (.plain rfl Iff.rfl rfl) (fun hb => o_sig 25 (ren [(0, 13), (1, 24)]) (c27 [0, 1] [0, 1] (by decide)) e27 rfl rfl rfl w27 ⟨(lx rfl), (lxi hb rfl), trivial⟩ r27) ?_
  refine WPl.v rfl (o_and rfl rfl rfl id) ?_
  refine WPl.v rfl (o_move rfl) ?_
  refine WPl.bit 25 26 ((((((decide ((errW exW.chk) = 0)) && (decide ((exW.leastE costG) = 0))) && (decide (exV.wKnownE = 0))) && (decide ((exU.leastE costG) = 3))) && (decide ((exW.wOpen (exW.wPlan [[0], [0], [0]])) = 0))) && (sameInts [0, 1] [0, 1])) rfl rfl ?_
  refine WPl.gv 25 rfl rfl (.plain rfl Iff.rfl rfl) (fun hb => o_move rfl) ?_
  refine WPl.gv 25 rfl rfl (.plain rfl Iff.rfl rfl) (fun hb => o_eql rfl rfl) ?_
  refine WPl.v rfl (o_and rfl rfl rfl id) ?_
  refine WPl.v rfl (o_move rfl) ?_
  rw [ex_plan]
  refine WPl.bit 26 27 (((((((decide ((errW exW.chk) = 0)) && (decide ((exW.leastE costG) = 0))) && (decide (exV.wKnownE = 0))) && (decide ((exU.leastE costG) = 3))) && (decide ((exW.wOpen (exW.wPlan [[0], [0], [0]])) = 0))) && (sameInts [0, 1] [0, 1])) && (decide (exW.wLastV = 2))) rfl rfl ?_
  refine WPl.gv 26 rfl rfl (.plain rfl Iff.rfl rfl) (fun hb => o_move rfl) ?_
  refine WPl.gx 26 27 28 rfl rfl rfl rfl (.plain rfl Iff.rfl rfl) (fun hb => OpG.settle0 (o_bsl (E := EP.int) (l := [0]) R44 rfl rfl (.cons (rfl) rfl (eok_int) (.nil)) rfl rfl)) ?_
  refine WPl.gx 26 28 29 rfl rfl rfl rfl (.plain rfl Iff.rfl rfl) (fun hb => OpG.settle0 (o_bsl (E := EP.int) (l := [0]) R44 rfl rfl (.cons (rfl) rfl (eok_int) (.nil)) rfl rfl)) ?_
  refine WPl.gx 26 29 30 rfl rfl rfl rfl (.plain rfl Iff.rfl rfl) (fun hb => OpG.settle0 (o_bsl (E := EP.int) (l := [1]) R44 rfl rfl (.cons (rfl) rfl (eok_int) (.nil)) rfl rfl)) ?_
  refine WPl.gx 26 30 31 rfl rfl rfl rfl (.plain rfl Iff.rfl rfl) (fun hb => OpG.settle0 (o_bsl (E := (EP.sl EP.int)) (l := [[0], [0], [1]]) R32 rfl rfl (.cons ((.inl ⟨_, (lxi hb rfl), PL.one⟩)) rfl (eok_sl (lxi hb rfl)) (.cons ((.inl ⟨_, (lxi hb rfl), PL.one⟩)) rfl (eok_sl (lxi hb rfl)) (.cons ((.inl ⟨_, (lxi hb rfl), PL.one⟩)) rfl (eok_sl (lxi hb rfl)) (.nil)))) rfl rfl)) ?_
  refine WPl.gc0 26 rfl rfl (.plain rfl Iff.rfl rfl) (fun hb => o_sig 31 (ren [(0, 14), (1, 30)]) (c31 [[0], [0], [1]] (by decide) (by decide)) e31 rfl rfl rfl w31 ⟨(lx rfl), (lxi hb rfl), trivial⟩ r31) ?_
  refine WPl.v rfl (o_and rfl rfl rfl id) ?_
  refine WPl.v rfl (o_move rfl) ?_
  refine WPl.bit 31 32 ((((((((decide ((errW exW.chk) = 0)) && (decide ((exW.leastE costG) = 0))) && (decide (exV.wKnownE = 0))) && (decide ((exU.leastE costG) = 3))) && (decide ((exW.wOpen (exW.wPlan [[0], [0], [0]])) = 0))) && (sameInts [0, 1] [0, 1])) && (decide (exW.wLastV = 2))) && true) rfl rfl ?_
  refine WPl.gv 31 rfl rfl (.plain rfl Iff.rfl rfl) (fun hb => o_move rfl) ?_
  refine WPl.gv 31 rfl rfl (.plain rfl Iff.rfl rfl) (fun hb => o_eql rfl rfl) ?_
  refine WPl.v rfl (o_and rfl rfl rfl id) ?_
  refine WPl.v rfl (o_move rfl) ?_
  refine WPl.bit 32 33 (((((((((decide ((errW exW.chk) = 0)) && (decide ((exW.leastE costG) = 0))) && (decide (exV.wKnownE = 0))) && (decide ((exU.leastE costG) = 3))) && (decide ((exW.wOpen (exW.wPlan [[0], [0], [0]])) = 0))) && (sameInts [0, 1] [0, 1])) && (decide (exW.wLastV = 2))) && true) && (decide (exV.wKnownV = 20))) rfl rfl ?_
  refine WPl.gv 32 rfl rfl (.plain rfl Iff.rfl rfl) (fun hb => o_move rfl) ?_
  refine WPl.gv 32 rfl rfl (.plain rfl Iff.rfl rfl) (fun hb => o_eql rfl rfl) ?_
  refine WPl.v rfl (o_and rfl rfl rfl id) ?_
  refine WPl.v rfl (o_assign rfl) ?_
  refine WPl.nil ?_
  refine EX.then ?_
  refine WP.ret ?_
  exact EX.fin id (.inl rfl) rfl (.tmp rfl .nil) rfl r16 trivial (by simp) (by simp)
end Go.Flong
namespace Go.Flong
open Go Go.Eng Go.Proofs
theorem e14 : Enters' Try.prog 14 := Try.call14
theorem w32 {f : Fnd} : ∀ x ∈ ([.e (.g [ai (f.shop.pounds), ai (f.shop.tl), ai (f.shop.th), ai (f.shop.al), ai (f.shop.ah), ai (f.shop.room), ai (f.shop.tpl), ai (f.shop.tph), ai (f.shop.apl), ai (f.shop.aph), .q 0, .q 1])] : List SV), x.res (keys (α := Pred) [(0, PL EPig (f.shop.pigs)), (1, PL ENight (f.nights))]) := by simp [SV.res, El.res, At.res, keys]
theorem r32 {f : Fnd} : SV.res (keys (α := Pred) []) (.b (f.rdy)) := by simp [SV.res, El.res, At.res, keys]
set_option maxHeartbeats 4000000 in
theorem c32 (f : Fnd)  : Sig Try.prog 32 [.e (.g [ai (f.shop.pounds), ai (f.shop.tl), ai (f.shop.th), ai (f.shop.al), ai (f.shop.ah), ai (f.shop.room), ai (f.shop.tpl), ai (f.shop.tph), ai (f.shop.apl), ai (f.shop.aph), .q 0, .q 1])] [(0, PL EPig (f.shop.pigs)), (1, PL ENight (f.nights))] (.b (f.rdy)) [] := by
  refine Sig.intro Try.func32 rfl 2 [(0, .e (.g [ai (f.shop.pounds), ai (f.shop.tl), ai (f.shop.th), ai (f.shop.al), ai (f.shop.ah), ai (f.shop.room), ai (f.shop.tpl), ai (f.shop.tph), ai (f.shop.apl), ai (f.shop.aph), .q 0, .q 1]))] rfl w32 rfl rfl fun I w => ?_
  refine WP.seq ?_
  refine WP.region ?_
  refine WPl.l 2 3 rfl rfl rfl (o_boxg rfl) ?_
  refine WPl.v rfl (o_assign rfl) ?_
  refine WPl.nil ?_
  refine EX.then ?_
  refine WP.seq ?_
  refine WP.region ?_
  refine WPl.v rfl (o_ldpa G31 rfl rfl rfl) ?_
  refine WPl.cs 3 rfl rfl rfl rfl (o_sig 3 (ren [(0, 0), (1, 1)]) (c14 f) e14 rfl rfl rfl w14 ⟨(lx rfl), (lx rfl), trivial⟩ r14) ?_
  refine WPl.v rfl (o_not rfl) ?_
  refine WPl.v rfl (o_move rfl) ?_
  refine WPl.bit 3 4 (!f.far) rfl rfl ?_
  refine WPl.gv 3 rfl rfl (.plain rfl Iff.rfl rfl) (fun hb => o_ldpa G31 rfl rfl rfl) ?_
  refine WPl.gc0 3 rfl rfl (.plain rfl Iff.rfl rfl) (fun hb => o_sig 4 (ren [(0, 0), (1, 1)]) (c22 f) e22 rfl rfl rfl w22 ⟨(lx rfl), (lx rfl), trivial⟩ r22) ?_
  refine WPl.gv 3 rfl rfl (.plain rfl Iff.rfl rfl) (fun hb => o_eql rfl rfl) ?_
  refine WPl.v rfl (o_and rfl rfl rfl id) ?_
  refine WPl.v rfl (o_assign rfl) ?_
  refine WPl.nil ?_
  refine EX.then ?_
  refine WP.ret ?_
  rw [show f.rdy = ((!f.far) && decide (errW f.chk = 0)) from by unfold Fnd.rdy; cases f.chk <;> simp [errW]]
  exact EX.fin id (.inl rfl) rfl (.tmp rfl .nil) rfl (by simp [SV.res, El.res, At.res, keys]) trivial (by simp) (by simp)
end Go.Flong
