/- Walks (printed by gen.py off the specs). -/
import Derived.Test.YtglbnodjcngefaaHP6
import Derived.Test.YtglbnodjcngefaaBase7
import Derived.Test.YtglbnodjcngefaaEngX
import Derived.Test.YtglbnodjcngefaaProg
set_option linter.unusedSimpArgs false
set_option linter.unusedVariables false
namespace Go.Flong
open Go Go.Eng Go.Proofs
theorem B185 : BldT Try.prog 185 [(0, 1), (1, 7), (8, 4)] [.int .i64 0, .int .i64 0, .int .i64 0, .int .i64 0, .int .i64 0, .int .i64 0, .int .i64 0, .int .i64 0, .int .i64 0, .int .i64 0, .int .i64 0, .int .i64 0] := BldT.mk (ns := [1, 7, 4]) Try.underlying185 ⟨Try.sizeOf3, Try.sizeOf105, Try.sizeOf110, trivial⟩ rfl Try.zeroValue185 rfl
theorem Z185 : Zero Try.prog 185 [ai (0), ai (0), ai (0), ai (0), ai (0), ai (0), ai (0), ai (0), ai (0), ai (0), ai (0), ai (0)] := .mk Try.zeroValue185 rfl rfl
theorem F100_1 : Fld Try.prog 100 1 12 := .mk Try.underlying100 rfl rfl rfl Try.sizeOf98 rfl
theorem S98 : TyS Try.prog 98 := ⟨Try.isAgg98, Try.sizeOf98⟩
theorem e110 : Enters' Try.prog 110 := Try.call110
theorem e145 : Enters' Try.prog 145 := Try.call145
theorem e146 : Enters' Try.prog 146 := Try.call146
theorem w110 {f : Fnd} {b : Nat} {night : Int} {p : Pt} {left : List Int} : ∀ x ∈ ([.e (.a (.q 0)), .i (night), .e (.g [ai (p.pounds), ai (p.tl), ai (p.th), ai (p.al), ai (p.ah), ai (p.dl), ai (p.dh)]), .e (.g [ai (nth left 0), ai (nth left 1), ai (nth left 2), ai (nth left 3)])] : List SV), x.res (keys (α := Pred) [(0, PP (EWk (some b)) (f))]) := by simp [SV.res, El.res, At.res, keys]
theorem r110 {f : Fnd} {n : Nat} {night : Int} {p : Pt} {left : List Int} : SV.res (keys (α := Pred) []) (.i (f.ahW n night p left)) := by simp [SV.res, El.res, At.res, keys]
theorem w145 {f : Fnd} {b : Nat} {night : Int} {p : Pt} {left : List Int} : ∀ x ∈ ([.e (.a (.q 0)), .i (night), .e (.g [ai (p.pounds), ai (p.tl), ai (p.th), ai (p.al), ai (p.ah), ai (p.dl), ai (p.dh)]), .e (.g [ai (nth left 0), ai (nth left 1), ai (nth left 2), ai (nth left 3)])] : List SV), x.res (keys (α := Pred) [(0, PP (EWk (some b)) (f))]) := by simp [SV.res, El.res, At.res, keys]
theorem r145 {f : Fnd} {n : Nat} {night : Int} {p : Pt} {left : List Int} : SV.res (keys (α := Pred) []) (.i (f.chW n night p left)) := by simp [SV.res, El.res, At.res, keys]
set_option maxHeartbeats 4000000 in
theorem c145 (f : Fnd) (b : Nat) (n : Nat) (night : Int) (p : Pt) (left : List Int) (hf : f.chk = true) (hnt : night + n = f.nights.length) (hn0 : 0 ≤ night) (hp : ChB p night) (hl : bnd4 left) (ahC : ∀ (k : Nat), n = k + 1 → ∀ (p : Pt) (left : List Int), AhB p (night + 1) → bnd4 left → SigX Try.prog 110 [.e (.a (.q 0)), .i ((night + 1)), .e (.g [ai (p.pounds), ai (p.tl), ai (p.th), ai (p.al), ai (p.ah), ai (p.dl), ai (p.dh)]), .e (.g [ai (nth left 0), ai (nth left 1), ai (nth left 2), ai (nth left 3)])] [(0, PP (EWk (some b)) (f))] (memoXP true 12 b (MemoK f)) (.i (f.ahW k (night + 1) p left)) []) : SigX Try.prog 145 [.e (.a (.q 0)), .i (night), .e (.g [ai (p.pounds), ai (p.tl), ai (p.th), ai (p.al), ai (p.ah), ai (p.dl), ai (p.dh)]), .e (.g [ai (nth left 0), ai (nth left 1), ai (nth left 2), ai (nth left 3)])] [(0, PP (EWk (some b)) (f))] (memoXP true 12 b (MemoK f)) (.i (f.chW n night p left)) [] := by
  have hpg := Shop.pigsOK (Fnd.shopOK hf)
  have hp4 := hpg.2
  have hn := Fnd.nightsOK hf
  have hn4 := hn.2
  refine SigX.intro memoXP.plain Try.func145 rfl 2 1 [(0, .e (.a (.q 0))), (1, .i (night)), (2, .e (.g [ai (p.pounds), ai (p.tl), ai (p.th), ai (p.al), ai (p.ah), ai (p.dl), ai (p.dh)])), (3, .e (.g [ai (nth left 0), ai (nth left 1), ai (nth left 2), ai (nth left 3)]))] rfl w145 rfl rfl rfl fun I w => ?_
  refine WP.seq ?_
  refine WP.region ?_
  refine WPl.l 2 3 rfl rfl rfl (o_boxa rfl (.inl ⟨_, (lx rfl), PP.one⟩)) ?_
  refine WPl.l 3 4 rfl rfl rfl (o_boxa rfl rfl) ?_
  refine WPl.l 4 5 rfl rfl rfl (o_boxg rfl) ?_
  refine WPl.l 5 6 rfl rfl rfl (o_boxg rfl) ?_
  refine WPl.v rfl (o_assign rfl) ?_
  refine WPl.nil ?_
  refine EX.then ?_
  refine WP.seq ?_
  refine WP.seq ?_
  refine WP.draw (nf := 7) [⟨[18, 19, 20, 21, 22, 23], [6], [], [], []⟩, ⟨[17], [], [], [], []⟩, ⟨[17], [], [], [], [1]⟩, ⟨[17], [], [], [], [1, 2]⟩, ⟨[17], [], [], [], [1, 2, 3]⟩, ⟨[17], [], [6], [6], [1, 2, 3, 4]⟩, ⟨[17], [], [], [], [1, 2, 3, 4, 5]⟩, ⟨[], [], [], [], [0, 1, 2, 3, 4, 5, 6]⟩] (by kernel_rfl) (by kernel_rfl) ?_
  refine DRQ.v rfl rfl rfl (o_ldp S3 rfl rfl rfl) ?_
  refine DRQ.v rfl rfl rfl (o_ldp S95 rfl rfl rfl) ?_
  refine DRQ.v rfl rfl rfl (o_nilq rfl (lx rfl)) ?_
  refine DRQ.v rfl rfl rfl (o_fldq F100_0 rfl (lx rfl)) ?_
  refine DRQ.v rfl rfl rfl (o_flde F31_1 rfl (lx rfl)) ?_
  refine DRQ.x 6 rfl rfl rfl rfl (o_ldex S29 rfl (lx rfl) (strS rfl)) ?_
  refine DRQ.v rfl rfl rfl (o_lenq L29 rfl (lx rfl)) ?_
  refine DRQ.v rfl rfl rfl (o_eql rfl rfl) ?_
  refine DRQ.nil' ?_
  refine EX.then ?_
  refine WP.cond rfl (fun hc1 => ?_) (fun hc1 => ?_)
  · try simp only [decide_eq_true_eq, decide_eq_false_iff_not, Bool.and_eq_true, Bool.or_eq_true, Bool.and_eq_false_iff, Bool.or_eq_false_iff, Bool.not_eq_true', Bool.not_eq_false', ne_eq, Decidable.not_not] at hc1
    obtain rfl : n = 0 := by omega
    refine WP.seq ?_
    refine WP.region ?_
    refine WPl.v rfl (o_assign rfl) ?_
    refine WPl.nil ?_
    refine EX.then ?_
    refine WP.ret ?_
    refine EX.ret_then ?_
    rw [show f.chW 0 night p left = 0 from rfl]
    exact EX.finX id 1 rfl (.inl rfl) rfl (.tmp rfl .nil) rfl (by simp [SV.res, El.res, At.res, keys]) trivial rfl (by simp) (by simp)
  · try simp only [decide_eq_true_eq, decide_eq_false_iff_not, Bool.and_eq_true, Bool.or_eq_true, Bool.and_eq_false_iff, Bool.or_eq_false_iff, Bool.not_eq_true', Bool.not_eq_false', ne_eq, Decidable.not_not] at hc1
    obtain ⟨k, rfl⟩ : ∃ k, n = k + 1 := ⟨n - 1, by omega⟩
    have hnc := hn.at (show night.toNat < f.nights.length by omega)
    rw [show ((night.toNat : Nat) : Int) = night by omega] at hnc
    have hpb := hp.1
    refine WP.skip ?_
    refine EX.then ?_
    refine WP.seq ?_
    refine WP.region ?_
    refine WPl.v rfl (o_ldp S3 rfl rfl rfl) ?_
    refine WPl.v rfl (o_ldpa G105 rfl rfl rfl) ?_
    refine WPl.v rfl (o_ldpa G110 rfl rfl rfl) ?_
    refine WPl.v rfl (o_build B185 rfl ⟨rfl, trivial⟩ rfl rfl) ?_
    refine WPl.l 7 8 rfl rfl rfl (o_alloc Z185) ?_
    refine WPl.s1 (o_stag G185 rfl rfl rfl ⟨rfl, rfl, rfl, rfl, rfl, rfl, rfl, rfl, rfl, rfl, rfl, rfl, trivial⟩ rfl rfl) ?_
    refine WPl.nil ?_
    refine EX.then ?_
    refine WP.seq ?_
    refine WP.seq ?_
    refine WP.openX (km := 1) rfl fun ml hml => ?_
    refine WP.draw (nf := 8) [⟨[34], [], [], [], []⟩, ⟨[34], [], [], [], [0]⟩, ⟨[34], [], [], [], [0, 1]⟩, ⟨[34], [], [], [], [0, 1, 2]⟩, ⟨[30, 31, 32, 33], [], [], [], []⟩, ⟨[], [], [], [], [0, 1, 2, 3, 4]⟩, ⟨[], [], [], [], [0, 1, 2, 3, 4, 5]⟩, ⟨[37], [], [], [], [0, 1, 2, 3, 4, 5, 6]⟩, ⟨[36, 10], [], [], [], [0, 1, 2, 3, 4, 5, 6]⟩, ⟨[37], [], [], [], [0, 1, 2, 3, 4, 5, 6, 7]⟩, ⟨[], [], [], [], [0, 1, 2, 3, 4, 5, 6, 7, 8, 9]⟩] (by kernel_rfl) (by kernel_rfl) ?_
    refine DRQ.v rfl rfl rfl (o_ldp S95 rfl rfl rfl) ?_
    refine DRQ.v rfl rfl rfl (o_nilq rfl (lx rfl)) ?_
    refine DRQ.v rfl rfl rfl (o_fldq F100_1 rfl (lx rfl)) ?_
    refine DRQ.v rfl rfl rfl (o_lde S98 rfl (lx rfl) (strV rfl)) ?_
    refine DRQ.v rfl rfl rfl (o_ldpa G185 rfl rfl rfl) ?_
    refine DRQ.v rfl rfl rfl (o_look2 (km := 1) (a := [night, p.pounds, p.tl, p.th, p.al, p.ah, p.dl, p.dh, nth left 0, nth left 1, nth left 2, nth left 3]) M98 rfl rfl isKey.g rfl rfl) ?_
    refine DRQ.v rfl rfl rfl (o_move rfl) ?_
    refine DRQ.v rfl rfl rfl (o_extract rfl rfl) ?_
    refine DRQ.v rfl rfl rfl (o_extract rfl rfl) ?_
    refine DRQ.v rfl rfl rfl (o_assign rfl) ?_
    refine DRQ.v rfl rfl rfl (o_assign rfl) ?_
    refine DRQ.nil' ?_
    refine EX.then ?_
    refine WP.seq ?_
    refine WP.region ?_
    refine WPl.v rfl (o_move rfl) ?_
    refine WPl.nil ?_
    refine EX.then ?_
    refine WP.cond rfl (fun hc2 => ?_) (fun hc2 => ?_)
    · try simp only [decide_eq_true_eq, decide_eq_false_iff_not, Bool.and_eq_true, Bool.or_eq_true, Bool.and_eq_false_iff, Bool.or_eq_false_iff, Bool.not_eq_true', Bool.not_eq_false', ne_eq, Decidable.not_not] at hc2
      refine WP.imp (Imp.closeX (km := 1) (Kp := (MemoK f)) rfl hml) ?_
      refine WP.seq ?_
      refine WP.region ?_
      refine WPl.v rfl (o_move rfl) ?_
      refine WPl.v rfl (o_assign rfl) ?_
      refine WPl.nil ?_
      refine EX.then ?_
      refine WP.ret ?_
      refine EX.ret_then ?_
      rw [show f.chW (k + 1) night p left = (mget ml [night, p.pounds, p.tl, p.th, p.al, p.ah, p.dl, p.dh, nth left 0, nth left 1, nth left 2, nth left 3]).getD 0 from (memo_get hl.1 hnt hml hc2).symm]
      exact EX.finX id 1 rfl (.inl rfl) rfl (.tmp rfl .nil) rfl (by simp [SV.res, El.res, At.res, keys]) trivial rfl (by simp) (by simp)
    · try simp only [decide_eq_true_eq, decide_eq_false_iff_not, Bool.and_eq_true, Bool.or_eq_true, Bool.and_eq_false_iff, Bool.or_eq_false_iff, Bool.not_eq_true', Bool.not_eq_false', ne_eq, Decidable.not_not] at hc2
      refine WP.imp (Imp.closeX (km := 1) (Kp := (MemoK f)) rfl hml) ?_
      refine WP.skip ?_
      refine EX.then ?_
      refine WP.seq ?_
      refine WP.region ?_
      refine WPl.l 8 9 rfl rfl rfl (o_alloc Z3) ?_
      refine WPl.s1 (o_sta S3 rfl rfl rfl rfl rfl) ?_
      refine WPl.nil ?_
      refine EX.then ?_
      refine WP.seq ?_
      refine WP.seq ?_
      refine WP.region ?_
      refine WPl.v rfl (o_ldp S95 rfl rfl rfl) ?_
      refine WPl.v rfl (o_ldpa G105 rfl rfl rfl) ?_
      refine WPl.v rfl (o_ldpa G110 rfl rfl rfl) ?_
      refine WPl.cs 10 rfl rfl rfl rfl (o_sig 9 (ren [(0, 0)]) (c140 f (some b) p left (1040 + 400100 * night) hf hpb (by omega) hl) e140 rfl rfl rfl w140 ⟨(lx rfl), trivial⟩ r140) ?_
      refine WPl.nil ?_
      refine EX.then ?_
      refine WP.block ?_
      refine WP.leR (S' := ⟨10, [(4, .e (.a (.p 2 (0)))), (5, .e (.a (.p 3 (0)))), (7, .e (.a (.p 5 (0)))), (8, .i (0)), (9, .e (.a (.p 7 (0)))), (12, .e (.a (.p 8 (0)))), (43, .e (.a (.q 9)))], [(0, PP (EWk (some b)) (f)), (9, ItP Try.prog (f.chItems p left))], [(1, .ext (memoXP true 12 b (MemoK f))), (2, .blk [.q 0] 95), (3, .blk [ai (night)] 3), (5, .blk [ai (nth left 0), ai (nth left 1), ai (nth left 2), ai (nth left 3)] 110), (7, .blk [ai (night), ai (p.pounds), ai (p.tl), ai (p.th), ai (p.al), ai (p.ah), ai (p.dl), ai (p.dh), ai (nth left 0), ai (nth left 1), ai (nth left 2), ai (nth left 3)] 185), (8, .blk [ai (1073741824)] 3)], [], []⟩) id (LeR.of ⟨rfl, rfl, rfl, rfl, rfl, rfl, rfl, trivial⟩ ⟨(lx rfl), (lx rfl), trivial⟩ ⟨rfl, rfl, rfl, rfl, rfl, rfl, trivial⟩ rfl rfl rfl rfl rfl) ?_
      refine WP.rangeG 12 1 ((f.chL p left).length) (fun i => ⟨[.e (.a (.q 0)), .e (.g [ai ((p.addL f.shop.pigs (nth (f.chL p left) (i : Int))).pounds), ai ((p.addL f.shop.pigs (nth (f.chL p left) (i : Int))).tl), ai ((p.addL f.shop.pigs (nth (f.chL p left) (i : Int))).th), ai ((p.addL f.shop.pigs (nth (f.chL p left) (i : Int))).al), ai ((p.addL f.shop.pigs (nth (f.chL p left) (i : Int))).ah), ai ((p.addL f.shop.pigs (nth (f.chL p left) (i : Int))).dl), ai ((p.addL f.shop.pigs (nth (f.chL p left) (i : Int))).dh)])], [], [(0, PL EP.int ((nth (f.chL p left) (i : Int))))]⟩) (fun i => ⟨12, [(4, .e (.a (.p 2 (0)))), (5, .e (.a (.p 3 (0)))), (7, .e (.a (.p 5 (0)))), (8, .i (0)), (9, .e (.a (.p 7 (0)))), (12, .e (.a (.p 8 (0)))), (43, .e (.a (.q 9)))], [(0, PP (EWk (some b)) (f)), (9, ItP Try.prog (f.chItems p left))], [(1, .ext (memoXP true 12 b (MemoK f))), (2, .blk [.q 0] 95), (3, .blk [ai (night)] 3), (5, .blk [ai (nth left 0), ai (nth left 1), ai (nth left 2), ai (nth left 3)] 110), (7, .blk [ai (night), ai (p.pounds), ai (p.tl), ai (p.th), ai (p.al), ai (p.ah), ai (p.dl), ai (p.dh), ai (nth left 0), ai (nth left 1), ai (nth left 2), ai (nth left 3)] 185), (8, .blk [ai (chRows f.shop.pigs (fun r => f.aheadOf (fun q => f.chW k (night + 1) q (takeL left r)) (night + 1) ((p.addL f.shop.pigs r).lose (nth f.nights night))) (f.chL p left) i)] 3), (10, .ob (.deferred (some [])))], [10], []⟩) (fun _ _ => False) rfl rfl (lx rfl) (rfl) (fun _ => RSt.of1 1 rfl rfl rfl rfl rfl rfl memoXP.plain rfl) (fun _ _ h => h.elim) rfl rfl rfl (fun _ _ => ItemOK.of rfl) rfl rfl id (LeR.of ⟨rfl, rfl, rfl, rfl, rfl, rfl, rfl, trivial⟩ ⟨(lx rfl), (lx rfl), trivial⟩ ⟨rfl, rfl, rfl, rfl, rfl, (congrArg (fun z => some (Ent.blk z 3)) (List.cons_eq_cons.2 ⟨(congrArg (fun z => ai z) (show (1073741824) = ((fun i => chRows f.shop.pigs (fun r => f.aheadOf (fun q => f.chW k (night + 1) q (takeL left r)) (night + 1) ((p.addL f.shop.pigs r).lose (nth f.nights night))) (f.chL p left) i) 0) from rfl)), (Eq.refl [])⟩)), rfl, trivial⟩ rfl rfl rfl rfl rfl) ?_ ?_ ?_
      · intro i hi w1 E1 I1 R1 pβ1 pν1 us1
        have hr := chL_at (p := p) hl hp4 hi
        have hnx := ChB.next hp hn0 hpg hr.1 hr.2.1 hnc
        have hpe := pence_bnd hpg hr.1 hr.2.1
        have hab := ahW_bnd hpg k (night + 1) ((p.addL f.shop.pigs (nth (f.chL p left) (i : Int))).lose (nth f.nights night)) hr.2.2
        have hnv : neverC = 1073741824 := rfl
        refine WP.seq ?_
        refine WP.region ?_
        refine WPl.v rfl (o_assign rfl) ?_
        refine WPl.nil ?_
        refine EX.then ?_
        refine WP.region ?_
        refine WPl.l 13 14 rfl rfl rfl (o_alloc Z105) ?_
        refine WPl.s1 (o_stag G105 rfl rfl rfl ⟨rfl, rfl, rfl, rfl, rfl, rfl, rfl, trivial⟩ rfl rfl) ?_
        refine WPl.nil ?_
        refine EX.beg rfl ?_
        refine WP.block ?_
        refine WP.seq ?_
        refine WP.region ?_
        refine WPl.v rfl (o_ldp S95 rfl rfl rfl) ?_
        refine WPl.v rfl (o_ldpa G110 rfl rfl rfl) ?_
        refine WPl.v rfl (o_move rfl) ?_
        refine WPl.cs 14 rfl rfl rfl rfl (o_sigbc 14 (ren [(0, 0), (1, 12)]) (Sig.free (c141 f (some b) left (nth (f.chL p left) (i : Int)) hpg hl.1 (fun j hj => hl.2 j (by rw [← hl.1]; exact hj)) hr.1 hr.2.1)) e141 rfl rfl SvsOK.rf w141 ⟨.x (lx rfl), .ext (lx rfl) rfl, trivial⟩ r141) ?_
        refine WPl.v rfl (o_move rfl) ?_
        refine WPl.v rfl (o_extract rfl rfl) ?_
        refine WPl.v rfl (o_extract rfl rfl) ?_
        refine WPl.l 14 15 rfl rfl rfl (o_alloc Z110) ?_
        refine WPl.s1 (o_stag G110 rfl rfl rfl ⟨rfl, rfl, rfl, rfl, trivial⟩ rfl rfl) ?_
        refine WPl.v rfl (o_assign rfl) ?_
        refine WPl.nil ?_
        refine EX.then ?_
        refine WP.draw (nf := 17) [⟨[54, 55, 56, 57, 58, 59, 60, 61, 62, 63, 64, 65, 66, 67, 68, 69, 70], [1, 15, 16], [], [], []⟩, ⟨[53, 55, 56, 57, 58, 59, 60, 61, 62, 63, 64, 65, 66, 67, 68, 69], [1, 15, 16], [], [], []⟩, ⟨[53, 54, 56, 57, 58, 59, 60, 61, 62, 63, 64, 65, 66, 67, 68], [15, 16], [], [], []⟩, ⟨[53, 54, 55, 58, 59, 60, 61, 62, 63, 64, 65, 66, 67, 68], [15, 16], [], [], []⟩, ⟨[53, 54, 55, 58, 59, 60, 61, 62, 63, 64, 65, 66, 67, 68], [15, 16], [], [], [3]⟩, ⟨[53, 54, 55, 56, 57, 59, 60, 61, 62, 63, 64, 65, 66, 68], [15, 16], [], [], []⟩, ⟨[53, 54, 55, 56, 57, 58, 64, 68], [], [], [], []⟩, ⟨[53, 54, 55, 56, 57, 58, 64, 68], [], [], [], [6]⟩, ⟨[53, 54, 55, 56, 57, 58, 64, 68], [], [], [], [6, 7]⟩, ⟨[53, 54, 55, 56, 57, 58, 64, 68], [], [], [], [6, 7, 8]⟩, ⟨[53, 54, 55, 56, 57, 58, 64, 68], [], [15], [15], [6, 7, 8, 9]⟩, ⟨[53, 54, 55, 56, 57, 58, 59, 60, 61, 62, 63, 68], [15], [], [], []⟩, ⟨[53, 54, 55, 56, 57, 58, 68], [], [16], [16], [6, 7, 8, 9, 10, 11]⟩, ⟨[53, 54, 55, 56, 57, 58, 68], [], [], [], [6, 7, 8, 9, 10, 11, 12]⟩, ⟨[53, 54, 55, 56, 57, 68], [], [], [], [5, 6, 7, 8, 9, 10, 11, 12, 13]⟩, ⟨[53, 54, 55, 56, 57, 58, 59, 60, 61, 62, 63, 64, 65, 66, 67], [15, 16], [], [], []⟩, ⟨[53, 54], [], [], [1], [2, 3, 4, 5, 6, 7, 8, 9, 10, 11, 12, 13, 14, 15]⟩, ⟨[53], [], [], [], [1, 2, 3, 4, 5, 6, 7, 8, 9, 10, 11, 12, 13, 14, 15, 16]⟩, ⟨[], [], [], [], [0, 1, 2, 3, 4, 5, 6, 7, 8, 9, 10, 11, 12, 13, 14, 15, 16, 17]⟩, ⟨[], [], [], [8], [0, 1, 2, 3, 4, 5, 6, 7, 8, 9, 10, 11, 12, 13, 14, 15, 16, 17, 18]⟩] (by kernel_rfl) (by kernel_rfl) ?_
        refine DRQ.v rfl rfl rfl (o_ldp S3 rfl rfl rfl) ?_
        refine DRQ.v rfl rfl rfl (o_move rfl) ?_
        refine DRQ.v rfl rfl rfl (o_ldp S95 rfl rfl rfl) ?_
        refine DRQ.v rfl rfl rfl (o_ldp S3 rfl rfl rfl) ?_
        refine DRQ.v rfl rfl rfl (o_add rfl rfl (by first | omega | (simp; omega)) (by first | omega | (simp; omega))) ?_
        refine DRQ.v rfl rfl rfl (o_ldpa G105 rfl rfl rfl) ?_
        refine DRQ.v rfl rfl rfl (o_ldp S95 rfl rfl rfl) ?_
        refine DRQ.v rfl rfl rfl (o_nilq rfl (lx rfl)) ?_
        refine DRQ.v rfl rfl rfl (o_fldq F100_0 rfl (lx rfl)) ?_
        refine DRQ.v rfl rfl rfl (o_flde F31_1 rfl (lx rfl)) ?_
        refine DRQ.x 15 rfl rfl rfl rfl (o_ldex S29 rfl (lx rfl) (strS rfl)) ?_
        refine DRQ.v rfl rfl rfl (o_ldp S3 rfl rfl rfl) ?_
        refine DRQ.x 16 rfl rfl rfl rfl (o_idx L29 rfl (lx rfl) rfl (by first | omega | (simp; omega)) (by first | omega | (simp; omega))) ?_
        refine DRQ.v rfl rfl rfl (o_ldqg G75 rfl (lx rfl) (strG rfl) rfl rfl) ?_
        refine DRQ.cs rfl rfl rfl rfl (o_sig 17 id (c130 (p.addL f.shop.pigs (nth (f.chL p left) (i : Int))) (nth f.nights night) (1040 + 400100 * night + 400000) hnx.1 (by omega) hnc) e130 rfl rfl rfl w130 trivial r130) ?_
        refine DRQ.v rfl rfl rfl (o_ldpa G110 rfl rfl rfl) ?_
        refine DRQ.cL (X' := []) rfl rfl rfl rfl (o_sigx 17 (ren [(0, 0)]) 1 (ahC k rfl ((p.addL f.shop.pigs (nth (f.chL p left) (i : Int))).lose (nth f.nights night)) (takeL left (nth (f.chL p left) (i : Int))) hnx.2 hr.2.2) memoXP.plain e110 rfl rfl rfl SvsOK.rf w110 ⟨(lx rfl), trivial⟩ r110) ?_
        refine DRQ.v rfl rfl rfl (o_add rfl rfl (by first | omega | (simp; omega)) (by first | omega | (simp; omega))) ?_
        refine DRQ.v rfl rfl rfl (o_min rfl rfl) ?_
        refine DRQ.s 8 rfl rfl rfl (o_sta S3 rfl rfl rfl rfl rfl) ?_
        refine DRQ.nil' ?_
        refine EX.blk ?_
        exact EX.next id (LeR.of trivial ⟨(lx rfl), (lx rfl), trivial⟩ ⟨rfl, rfl, rfl, rfl, rfl, rfl, (congrArg (fun z => some (Ent.blk z 3)) (List.cons_eq_cons.2 ⟨(congrArg (fun z => ai z) (show (min (chRows f.shop.pigs (fun r => f.aheadOf (fun q => f.chW k (night + 1) q (takeL left r)) (night + 1) ((p.addL f.shop.pigs r).lose (nth f.nights night))) (f.chL p left) i) ((sumOf Pig.pence f.shop.pigs (nth (f.chL p left) (i : Int))) + (f.ahW k (night + 1) ((p.addL f.shop.pigs (nth (f.chL p left) (i : Int))).lose (nth f.nights night)) (takeL left (nth (f.chL p left) (i : Int)))))) = ((fun i => chRows f.shop.pigs (fun r => f.aheadOf (fun q => f.chW k (night + 1) q (takeL left r)) (night + 1) ((p.addL f.shop.pigs r).lose (nth f.nights night))) (f.chL p left) i) (i + 1)) from rfl)), (Eq.refl [])⟩)), rfl, trivial⟩ rfl rfl rfl rfl rfl)
      · exact fun _ _ h => h.elim
      · skip
        refine EX.blk ?_
        refine EX.then ?_
        refine WP.seq ?_
        refine WP.region ?_
        refine WPl.v rfl (o_ldp S3 rfl rfl rfl) ?_
        refine WPl.v rfl (o_min rfl rfl) ?_
        refine WPl.s1 (o_sta S3 rfl rfl rfl rfl rfl) ?_
        refine WPl.nil ?_
        refine EX.then ?_
        refine WP.seq ?_
        refine WP.openX (km := 1) rfl fun mm hmm => ?_
        refine WP.draw (nf := 12) [⟨[78, 79], [], [], [], []⟩, ⟨[78, 79], [], [], [], [0]⟩, ⟨[78, 79], [], [], [], [0, 1]⟩, ⟨[78, 79], [], [], [], [0, 1, 2]⟩, ⟨[74, 75, 76, 77, 79], [], [], [], []⟩, ⟨[74, 75, 76, 77, 78], [], [], [], []⟩, ⟨[], [], [], [1], [0, 1, 2, 3, 4, 5]⟩] (by kernel_rfl) (by kernel_rfl) ?_
        refine DRQ.v rfl rfl rfl (o_ldp S95 rfl rfl rfl) ?_
        refine DRQ.v rfl rfl rfl (o_nilq rfl (lx rfl)) ?_
        refine DRQ.v rfl rfl rfl (o_fldq F100_1 rfl (lx rfl)) ?_
        refine DRQ.v rfl rfl rfl (o_lde S98 rfl (lx rfl) (strV rfl)) ?_
        refine DRQ.v rfl rfl rfl (o_ldpa G185 rfl rfl rfl) ?_
        refine DRQ.v rfl rfl rfl (o_ldp S3 rfl rfl rfl) ?_
        refine DRQ.s 1 rfl rfl rfl (o_mapup (km := 1) (a := [night, p.pounds, p.tl, p.th, p.al, p.ah, p.dl, p.dh, nth left 0, nth left 1, nth left 2, nth left 3]) M98 rfl rfl isKey.g rfl rfl rfl) ?_
        refine DRQ.nil' ?_
        refine EX.then ?_
        refine WP.seq ?_
        refine WP.region ?_
        refine WPl.v rfl (o_ldp S3 rfl rfl rfl) ?_
        refine WPl.v rfl (o_assign rfl) ?_
        refine WPl.nil ?_
        refine EX.then ?_
        refine WP.ret ?_
        refine EX.imp (Imp.closeX (km := 1) (Kp := (MemoK f)) rfl (mset_all hmm ⟨k + 1, night, p, left, hl.1, hnt, rfl, rfl⟩)) ?_
        rw [show f.chW (k + 1) night p left = min (chRows f.shop.pigs (fun r => f.aheadOf (fun q => f.chW k (night + 1) q (takeL left r)) (night + 1) ((p.addL f.shop.pigs r).lose (nth f.nights night))) (f.chL p left) (f.chL p left).length) 1073741824 from rfl]
        exact EX.finX id 1 rfl (.inl rfl) rfl (.tmp rfl .nil) rfl (by simp [SV.res, El.res, At.res, keys]) trivial rfl (marks rfl) (by simp)
theorem w146 {n : Int} : ∀ x ∈ ([.i (n)] : List SV), x.res (keys (α := Pred) []) := by simp [SV.res, El.res, At.res, keys]
theorem r146 {n : Int} : SV.res (keys (α := Pred) []) (.e (.g [ai (n), ai (n)])) := by simp [SV.res, El.res, At.res, keys]
set_option maxHeartbeats 4000000 in
theorem c146 (n : Int)  : Sig Try.prog 146 [.i (n)] [] (.e (.g [ai (n), ai (n)])) [] := by
  refine Sig.intro Try.func146 rfl 0 [(0, .i (n))] rfl w146 rfl rfl fun I w => ?_
  refine WP.seq ?_
  refine WP.region ?_
  refine WPl.l 0 1 rfl rfl rfl (o_alloc Z23) ?_
  refine WPl.nil ?_
  refine EX.then ?_
  refine WP.seq ?_
  refine WP.region ?_
  refine WPl.v rfl (o_move rfl) ?_
  refine WPl.v rfl (o_move rfl) ?_
  refine WPl.v rfl (o_build B23 rfl ⟨rfl, rfl, trivial⟩ rfl rfl) ?_
  refine WPl.s1 (o_stag G23 rfl rfl rfl ⟨rfl, rfl, trivial⟩ rfl rfl) ?_
  refine WPl.nil ?_
  refine EX.then ?_
  refine WP.ret ?_
  exact EX.fin id (.inl rfl) rfl (.cellg G23 rfl rfl rfl (.nil)) rfl r146 trivial (by simp) (by simp)
set_option maxHeartbeats 4000000 in
theorem c110 (f : Fnd) (b : Nat) (n : Nat) (night : Int) (p : Pt) (left : List Int) (hf : f.chk = true) (hnt : night + n = f.nights.length) (hn0 : 0 ≤ night) (hp : AhB p night) (hl : bnd4 left) : SigX Try.prog 110 [.e (.a (.q 0)), .i (night), .e (.g [ai (p.pounds), ai (p.tl), ai (p.th), ai (p.al), ai (p.ah), ai (p.dl), ai (p.dh)]), .e (.g [ai (nth left 0), ai (nth left 1), ai (nth left 2), ai (nth left 3)])] [(0, PP (EWk (some b)) (f))] (memoXP true 12 b (MemoK f)) (.i (f.ahW n night p left)) [] := by
  have hpg := Shop.pigsOK (Fnd.shopOK hf)
  have hp4 := hpg.2
  have hn := Fnd.nightsOK hf
  have hn4 := hn.2
  have hpb := hp.1
  have hpd := hp.2
  unfold PtB at hpb
  have hcw := fun q => chW_bnd hpg n night q left hl
  refine SigX.intro memoXP.plain Try.func110 rfl 2 1 [(0, .e (.a (.q 0))), (1, .i (night)), (2, .e (.g [ai (p.pounds), ai (p.tl), ai (p.th), ai (p.al), ai (p.ah), ai (p.dl), ai (p.dh)])), (3, .e (.g [ai (nth left 0), ai (nth left 1), ai (nth left 2), ai (nth left 3)]))] rfl w110 rfl rfl rfl fun I w => ?_
  refine WP.seq ?_
  refine WP.region ?_
  refine WPl.l 2 3 rfl rfl rfl (o_boxg rfl) ?_
  refine WPl.l 3 4 rfl rfl rfl (o_boxg rfl) ?_
  refine WPl.v rfl (o_assign rfl) ?_
  refine WPl.nil ?_
  refine EX.then ?_
  refine WP.seq ?_
  refine WP.seq ?_
  refine WP.region ?_
  refine WPl.v rfl (o_move rfl) ?_
  refine WPl.v rfl (o_move rfl) ?_
  refine WPl.v rfl (o_nilq rfl (lx rfl)) ?_
  refine WPl.v rfl (o_fldq F100_0 rfl (lx rfl)) ?_
  refine WPl.v rfl (o_flde F31_1 rfl (lx rfl)) ?_
  refine WPl.x 4 5 rfl rfl rfl (o_ldex S29 rfl (lx rfl) (strS rfl)) ?_
  refine WPl.v rfl (o_lenq L29 rfl (lx rfl)) ?_
  refine WPl.v rfl (o_eql rfl rfl) ?_
  refine WPl.v rfl (o_move rfl) ?_
  refine WPl.bit 5 6 (!(decide (night = (f.nights.length : Int)))) rfl rfl ?_
  refine WPl.gv 5 rfl rfl (.plain rfl (by simp) rfl) (fun hb => o_move rfl) ?_
  refine WPl.gv 5 rfl rfl (.plain rfl (by simp) rfl) (fun hb => o_nilq rfl (lx rfl)) ?_
  refine WPl.gv 5 rfl rfl (.plain rfl (by simp) rfl) (fun hb => o_fldq F100_0 rfl (lx rfl)) ?_
  refine WPl.gv 5 rfl rfl (.plain rfl (by simp) rfl) (fun hb => o_flde F31_1 rfl (lx rfl)) ?_
  refine WPl.gx 5 6 7 rfl rfl rfl rfl (.plain rfl (by simp) rfl) (fun hb => o_ldex S29 rfl (lx rfl) (strS rfl)) ?_
  refine WPl.gv 5 rfl rfl (.plain rfl (by simp) rfl) (fun hb => o_move rfl) ?_
  refine WPl.gx 5 7 8 rfl rfl rfl rfl (.plain rfl (by simp) rfl) (fun hb => have hb2 : ¬ night = f.nights.length := (by simpa using hb); o_idx L29 rfl (lxi hb rfl) rfl (by first | omega | (simp; omega)) (by first | omega | (simp; omega))) ?_
  refine WPl.gv 5 rfl rfl (.plain rfl (by simp) rfl) (fun hb => o_fldq F75_1 rfl (lxi hb rfl)) ?_
  refine WPl.gv 5 rfl rfl (.plain rfl (by simp) rfl) (fun hb => o_lde S3 rfl (lxi hb rfl) (strI rfl)) ?_
  refine WPl.gv 5 rfl rfl (.plain rfl (by simp) rfl) (fun hb => o_eql rfl rfl) ?_
  refine WPl.v rfl (o_or rfl rfl rfl (by first | (simp; done) | simp_all)) ?_
  refine WPl.nil ?_
  refine EX.then ?_
  refine WP.cond rfl (fun hc1 => ?_) (fun hc1 => ?_)
  · try simp only [decide_eq_true_eq, decide_eq_false_iff_not, Bool.and_eq_true, Bool.or_eq_true, Bool.and_eq_false_iff, Bool.or_eq_false_iff, Bool.not_eq_true', Bool.not_eq_false', ne_eq, Decidable.not_not] at hc1
    refine WP.seq ?_
    refine WP.region ?_
    refine WPl.v rfl (o_move rfl) ?_
    refine WPl.v rfl (o_move rfl) ?_
    refine WPl.v rfl (o_ldpa G105 rfl rfl rfl) ?_
    refine WPl.v rfl (o_ldpa G110 rfl rfl rfl) ?_
    refine WPl.cL (X' := []) 8 rfl rfl rfl rfl rfl (o_sigx 8 (ren [(0, 0)]) 1 (c145 f b n night p left hf hnt hn0 hp.ch hl (fun k hk p left h1 h2 => c110 f b k (night + 1) p left hf (by omega) (by omega) h1 h2)) memoXP.plain e145 rfl rfl rfl SvsOK.rf w145 ⟨(lx rfl), trivial⟩ r145) ?_
    refine WPl.v rfl (o_assign rfl) ?_
    refine WPl.nil ?_
    refine EX.then ?_
    refine WP.ret ?_
    refine EX.ret_then ?_
    rw [show f.ahW n night p left = f.chW n night p left from if_pos (by simpa using hc1)]
    exact EX.finX id 1 rfl (.inl rfl) rfl (.tmp rfl .nil) rfl (by simp [SV.res, El.res, At.res, keys]) trivial rfl (by simp) (by simp)
  · try simp only [decide_eq_true_eq, decide_eq_false_iff_not, Bool.and_eq_true, Bool.or_eq_true, Bool.and_eq_false_iff, Bool.or_eq_false_iff, Bool.not_eq_true', Bool.not_eq_false', ne_eq, Decidable.not_not] at hc1
    have hno : ¬ (night = f.nights.length ∨ (nth f.nights night).test = 0) := by simpa using hc1
    refine WP.skip ?_
    refine EX.then ?_
    refine WP.seq ?_
    refine WP.region ?_
    refine WPl.v rfl (o_assign rfl) ?_
    refine WPl.nil ?_
    refine EX.then ?_
    refine WP.seq ?_
    refine WP.region ?_
    refine WPl.v rfl (o_assign rfl) ?_
    refine WPl.nil ?_
    refine EX.then ?_
    refine WP.seq ?_
    refine WP.seq ?_
    refine WP.region ?_
    refine WPl.v rfl (o_fldp F105_1 rfl) ?_
    refine WPl.v rfl (o_fldp F23_0 rfl) ?_
    refine WPl.v rfl (o_ldp S3 rfl rfl rfl) ?_
    refine WPl.v rfl (o_assign rfl) ?_
    refine WPl.nil ?_
    refine EX.then ?_
    refine WP.block ?_
    refine WP.loop (Gh := Nat) (fun i => ⟨8, [(0, .e (.a (.q 0))), (1, .i (night)), (6, .e (.a (.p 2 (0)))), (7, .e (.a (.p 3 (0)))), (8, .i (0)), (9, .i (wi3 (fun t a d => f.chW n night (p.one t a d) left) (⟨p.tl, p.th, p.al, p.ah, p.dl, p.dh⟩ : Sp) i)), (10, .e (.a (.f 146 []))), (11, .i (p.tl + (i : Int)))], [(0, PP (EWk (some b)) (f))], [(1, .ext (memoXP true 12 b (MemoK f))), (2, .blk [ai (p.pounds), ai (p.tl), ai (p.th), ai (p.al), ai (p.ah), ai (p.dl), ai (p.dh)] 105), (3, .blk [ai (nth left 0), ai (nth left 1), ai (nth left 2), ai (nth left 3)] 110)], [], []⟩) (fun i => i ≤ (p.th - p.tl + 1).toNat) (fun i => (p.th - p.tl + 1).toNat - i) (0) id ?_ (LeR.of ⟨rfl, rfl, rfl, rfl, rfl, rfl, rfl, (congrArg (fun z => some (SV.i z)) (show (p.tl) = ((fun i => p.tl + (i : Int)) 0) from by simp)), trivial⟩ ⟨(lx rfl), trivial⟩ ⟨rfl, rfl, rfl, trivial⟩ rfl rfl rfl rfl rfl) ?_
    · first | trivial | omega | (constructor <;> omega) | simp
    intro i hφ
    have hi : i ≤ (p.th - p.tl + 1).toNat := hφ
    refine WP.seq ?_
    refine WP.seq ?_
    refine WP.region ?_
    refine WPl.v rfl (o_move rfl) ?_
    refine WPl.v rfl (o_fldp F105_1 rfl) ?_
    refine WPl.v rfl (o_fldp F23_1 rfl) ?_
    refine WPl.v rfl (o_ldp S3 rfl rfl rfl) ?_
    refine WPl.v rfl (o_leq rfl rfl) ?_
    refine WPl.nil ?_
    refine EX.then ?_
    refine WP.cond rfl (fun hc2 => ?_) (fun hc2 => ?_)
    · try simp only [decide_eq_true_eq, decide_eq_false_iff_not, Bool.and_eq_true, Bool.or_eq_true, Bool.and_eq_false_iff, Bool.or_eq_false_iff, Bool.not_eq_true', Bool.not_eq_false', ne_eq, Decidable.not_not] at hc2
      refine WP.skip ?_
      refine EX.then ?_
      refine WP.seq ?_
      refine WP.block ?_
      refine WP.seq ?_
      refine WP.region ?_
      refine WPl.v rfl (o_fldp F105_2 rfl) ?_
      refine WPl.v rfl (o_fldp F23_0 rfl) ?_
      refine WPl.v rfl (o_ldp S3 rfl rfl rfl) ?_
      refine WPl.v rfl (o_assign rfl) ?_
      refine WPl.nil ?_
      refine EX.then ?_
      refine WP.block ?_
      refine WP.loop (Gh := Nat) (fun j => ⟨8, [(0, .e (.a (.q 0))), (1, .i (night)), (6, .e (.a (.p 2 (0)))), (7, .e (.a (.p 3 (0)))), (8, .i (0)), (9, .i (wj3 (fun t a d => f.chW n night (p.one t a d) left) (⟨p.tl, p.th, p.al, p.ah, p.dl, p.dh⟩ : Sp) (p.tl + (i : Int)) (wi3 (fun t a d => f.chW n night (p.one t a d) left) (⟨p.tl, p.th, p.al, p.ah, p.dl, p.dh⟩ : Sp) i) j)), (10, .e (.a (.f 146 []))), (11, .i (p.tl + (i : Int))), (42, .i (p.tl + (i : Int))), (43, .e (.a (.p 2 (1)))), (44, .e (.a (.p 2 (2)))), (45, .i (p.th)), (46, .b (decide ((p.tl + (i : Int)) ≤ p.th))), (49, .e (.a (.p 2 (3)))), (50, .e (.a (.p 2 (3)))), (51, .i (p.al)), (12, .i (p.al + (j : Int)))], [(0, PP (EWk (some b)) (f))], [(1, .ext (memoXP true 12 b (MemoK f))), (2, .blk [ai (p.pounds), ai (p.tl), ai (p.th), ai (p.al), ai (p.ah), ai (p.dl), ai (p.dh)] 105), (3, .blk [ai (nth left 0), ai (nth left 1), ai (nth left 2), ai (nth left 3)] 110)], [], []⟩) (fun j => j ≤ (p.ah - p.al + 1).toNat) (fun j => (p.ah - p.al + 1).toNat - j) (0) id ?_ (LeR.of ⟨rfl, rfl, rfl, rfl, rfl, rfl, rfl, rfl, rfl, rfl, rfl, rfl, rfl, rfl, rfl, rfl, (congrArg (fun z => some (SV.i z)) (show (p.al) = ((fun j => p.al + (j : Int)) 0) from by simp)), trivial⟩ ⟨(lx rfl), trivial⟩ ⟨rfl, rfl, rfl, trivial⟩ rfl rfl rfl rfl rfl) ?_
      · first | trivial | omega | (constructor <;> omega) | simp
      intro j hφ
      have hj : j ≤ (p.ah - p.al + 1).toNat := hφ
      refine WP.seq ?_
      refine WP.seq ?_
      refine WP.region ?_
      refine WPl.v rfl (o_move rfl) ?_
      refine WPl.v rfl (o_fldp F105_2 rfl) ?_
      refine WPl.v rfl (o_fldp F23_1 rfl) ?_
      refine WPl.v rfl (o_ldp S3 rfl rfl rfl) ?_
      refine WPl.v rfl (o_leq rfl rfl) ?_
      refine WPl.nil ?_
      refine EX.then ?_
      refine WP.cond rfl (fun hc3 => ?_) (fun hc3 => ?_)
      · try simp only [decide_eq_true_eq, decide_eq_false_iff_not, Bool.and_eq_true, Bool.or_eq_true, Bool.and_eq_false_iff, Bool.or_eq_false_iff, Bool.not_eq_true', Bool.not_eq_false', ne_eq, Decidable.not_not] at hc3
        refine WP.skip ?_
        refine EX.then ?_
        refine WP.seq ?_
        refine WP.block ?_
        refine WP.seq ?_
        refine WP.region ?_
        refine WPl.v rfl (o_fldp F105_3 rfl) ?_
        refine WPl.v rfl (o_fldp F23_0 rfl) ?_
        refine WPl.v rfl (o_ldp S3 rfl rfl rfl) ?_
        refine WPl.v rfl (o_assign rfl) ?_
        refine WPl.nil ?_
        refine EX.then ?_
        refine WP.block ?_
        refine WP.loop (Gh := Nat) (fun k => ⟨8, [(0, .e (.a (.q 0))), (1, .i (night)), (6, .e (.a (.p 2 (0)))), (7, .e (.a (.p 3 (0)))), (8, .i (0)), (9, .i (wk3 (fun t a d => f.chW n night (p.one t a d) left) (⟨p.tl, p.th, p.al, p.ah, p.dl, p.dh⟩ : Sp) (p.tl + (i : Int)) (p.al + (j : Int)) (wj3 (fun t a d => f.chW n night (p.one t a d) left) (⟨p.tl, p.th, p.al, p.ah, p.dl, p.dh⟩ : Sp) (p.tl + (i : Int)) (wi3 (fun t a d => f.chW n night (p.one t a d) left) (⟨p.tl, p.th, p.al, p.ah, p.dl, p.dh⟩ : Sp) i) j) k)), (10, .e (.a (.f 146 []))), (11, .i (p.tl + (i : Int))), (42, .i (p.tl + (i : Int))), (43, .e (.a (.p 2 (1)))), (44, .e (.a (.p 2 (2)))), (45, .i (p.th)), (46, .b (decide ((p.tl + (i : Int)) ≤ p.th))), (49, .e (.a (.p 2 (3)))), (50, .e (.a (.p 2 (3)))), (51, .i (p.al)), (12, .i (p.al + (j : Int))), (52, .i (p.al + (j : Int))), (53, .e (.a (.p 2 (3)))), (54, .e (.a (.p 2 (4)))), (55, .i (p.ah)), (56, .b (decide ((p.al + (j : Int)) ≤ p.ah))), (59, .e (.a (.p 2 (5)))), (60, .e (.a (.p 2 (5)))), (61, .i (p.dl)), (13, .i (p.dl + (k : Int)))], [(0, PP (EWk (some b)) (f))], [(1, .ext (memoXP true 12 b (MemoK f))), (2, .blk [ai (p.pounds), ai (p.tl), ai (p.th), ai (p.al), ai (p.ah), ai (p.dl), ai (p.dh)] 105), (3, .blk [ai (nth left 0), ai (nth left 1), ai (nth left 2), ai (nth left 3)] 110)], [], []⟩) (fun k => k ≤ (p.dh - p.dl + 1).toNat) (fun k => (p.dh - p.dl + 1).toNat - k) (0) id ?_ (LeR.of ⟨rfl, rfl, rfl, rfl, rfl, rfl, rfl, rfl, rfl, rfl, rfl, rfl, rfl, rfl, rfl, rfl, rfl, rfl, rfl, rfl, rfl, rfl, rfl, rfl, rfl, (congrArg (fun z => some (SV.i z)) (show (p.dl) = ((fun k => p.dl + (k : Int)) 0) from by simp)), trivial⟩ ⟨(lx rfl), trivial⟩ ⟨rfl, rfl, rfl, trivial⟩ rfl rfl rfl rfl rfl) ?_
        · first | trivial | omega | (constructor <;> omega) | simp
        intro k hφ
        have hk : k ≤ (p.dh - p.dl + 1).toNat := hφ
        refine WP.seq ?_
        refine WP.seq ?_
        refine WP.region ?_
        refine WPl.v rfl (o_move rfl) ?_
        refine WPl.v rfl (o_fldp F105_3 rfl) ?_
        refine WPl.v rfl (o_fldp F23_1 rfl) ?_
        refine WPl.v rfl (o_ldp S3 rfl rfl rfl) ?_
        refine WPl.v rfl (o_leq rfl rfl) ?_
        refine WPl.nil ?_
        refine EX.then ?_
        refine WP.cond rfl (fun hc4 => ?_) (fun hc4 => ?_)
        · try simp only [decide_eq_true_eq, decide_eq_false_iff_not, Bool.and_eq_true, Bool.or_eq_true, Bool.and_eq_false_iff, Bool.or_eq_false_iff, Bool.not_eq_true', Bool.not_eq_false', ne_eq, Decidable.not_not] at hc4
          refine WP.skip ?_
          refine EX.then ?_
          refine WP.seq ?_
          refine WP.block ?_
          refine WP.draw (nf := 8) [⟨[70, 71, 72, 73, 74, 75, 76, 77, 78, 79, 80, 81, 82, 83, 84, 85, 86], [1], [], [], []⟩, ⟨[69, 71, 72, 73, 74, 75, 76, 77, 78, 79, 80, 81, 82, 83, 84, 85], [], [], [], []⟩, ⟨[69, 70, 72, 73, 74, 75, 76, 77, 78, 79, 80, 81, 82, 83, 84, 85], [], [], [], []⟩, ⟨[69, 70, 71, 74, 76, 77, 78, 79, 80, 81, 82, 83, 85], [], [], [], []⟩, ⟨[69, 70, 71, 74, 76, 77, 78, 79, 80, 81, 82, 83, 85], [], [], [], [3]⟩, ⟨[69, 70, 71, 72, 73, 76, 77, 78, 79, 80, 81, 82, 83, 85], [], [], [], []⟩, ⟨[69, 70, 71, 76, 77, 78, 79, 80, 81, 82, 83, 85], [], [], [], [3, 4, 5]⟩, ⟨[69, 70, 71, 72, 73, 74, 75, 77, 78, 79, 81, 82, 85], [], [], [], []⟩, ⟨[69, 70, 71, 72, 73, 74, 75, 76, 78, 81, 82, 85], [], [], [], []⟩, ⟨[69, 70, 71, 72, 73, 74, 75, 76, 77, 81, 82, 85], [], [], [], []⟩, ⟨[69, 70, 71, 72, 73, 74, 75, 76, 81, 82, 85], [], [], [], [8, 9]⟩, ⟨[69, 70, 71, 72, 73, 74, 75, 81, 82, 85], [], [], [], [7, 8, 9, 10]⟩, ⟨[69, 70, 71, 72, 73, 74, 75, 76, 77, 78, 79, 80, 82, 85], [], [], [], []⟩, ⟨[69, 70, 71, 72, 73, 74, 75, 76, 77, 78, 79, 80, 81, 85], [], [], [], []⟩, ⟨[69, 70, 71, 72, 73, 74, 75, 85], [], [], [], [7, 8, 9, 10, 11, 12, 13]⟩, ⟨[69, 70, 71, 85], [], [], [], [3, 4, 5, 6, 7, 8, 9, 10, 11, 12, 13, 14]⟩, ⟨[69, 70, 71, 72, 73, 74, 75, 76, 77, 78, 79, 80, 81, 82, 83, 84], [], [], [], []⟩, ⟨[69], [], [], [1], [1, 2, 3, 4, 5, 6, 7, 8, 9, 10, 11, 12, 13, 14, 15, 16]⟩, ⟨[], [], [], [], [0, 1, 2, 3, 4, 5, 6, 7, 8, 9, 10, 11, 12, 13, 14, 15, 16, 17]⟩, ⟨[], [], [], [], [0, 1, 2, 3, 4, 5, 6, 7, 8, 9, 10, 11, 12, 13, 14, 15, 16, 17, 18]⟩] (by kernel_rfl) (by kernel_rfl) ?_
          refine DRQ.v rfl rfl rfl (o_move rfl) ?_
          refine DRQ.v rfl rfl rfl (o_move rfl) ?_
          refine DRQ.v rfl rfl rfl (o_move rfl) ?_
          refine DRQ.v rfl rfl rfl (o_fldp F105_0 rfl) ?_
          refine DRQ.v rfl rfl rfl (o_ldp S3 rfl rfl rfl) ?_
          refine DRQ.v rfl rfl rfl (o_move rfl) ?_
          refine DRQ.v rfl rfl rfl (o_sub rfl rfl (by first | omega | (simp; omega)) (by first | omega | (simp; omega))) ?_
          refine DRQ.v rfl rfl rfl (o_move rfl) ?_
          refine DRQ.v rfl rfl rfl (o_move rfl) ?_
          refine DRQ.v rfl rfl rfl (o_move rfl) ?_
          refine DRQ.v rfl rfl rfl (o_sub rfl rfl (by first | omega | (simp; omega)) (by first | omega | (simp; omega))) ?_
          refine DRQ.cs rfl rfl rfl rfl (o_sigt rfl 8 id (c146 ((p.tl + (i : Int)) - (p.dl + (k : Int)))) e146 rfl rfl rfl w146 trivial r146) ?_
          refine DRQ.v rfl rfl rfl (o_move rfl) ?_
          refine DRQ.v rfl rfl rfl (o_move rfl) ?_
          refine DRQ.cs rfl rfl rfl rfl (o_sigt rfl 8 id (c146 (p.al + (j : Int))) e146 rfl rfl rfl w146 trivial r146) ?_
          refine DRQ.v rfl rfl rfl (o_build B105 rfl ⟨rfl, trivial⟩ rfl rfl) ?_
          refine DRQ.v rfl rfl rfl (o_ldpa G110 rfl rfl rfl) ?_
          refine DRQ.cL (X' := []) rfl rfl rfl rfl (o_sigx 8 (ren [(0, 0)]) 1 (c145 f b n night (p.one (p.tl + (i : Int)) (p.al + (j : Int)) (p.dl + (k : Int))) left hf hnt hn0 (hp.one hn0 (by omega) (by omega) (by omega) (by omega) (by omega) (by omega) (by omega)) hl (fun k hk p left h1 h2 => c110 f b k (night + 1) p left hf (by omega) (by omega) h1 h2)) memoXP.plain e145 rfl rfl rfl SvsOK.rf w145 ⟨(lx rfl), trivial⟩ r145) ?_
          refine DRQ.v rfl rfl rfl (o_max rfl rfl) ?_
          refine DRQ.v rfl rfl rfl (o_assign rfl) ?_
          refine DRQ.nil' ?_
          refine EX.blk ?_
          refine EX.then ?_
          refine WP.region ?_
          refine WPl.v rfl (o_move rfl) ?_
          refine WPl.v rfl (o_add rfl rfl (by first | omega | (simp; omega)) (by first | omega | (simp; omega))) ?_
          refine WPl.v rfl (o_assign rfl) ?_
          refine WPl.nil ?_
          refine EX.again (k + 1) id (by first | omega | (constructor <;> omega)) (by omega) (LeR.of ⟨rfl, rfl, rfl, rfl, rfl, (congrArg (fun z => some (SV.i z)) (show (max (wk3 (fun t a d => f.chW n night (p.one t a d) left) (⟨p.tl, p.th, p.al, p.ah, p.dl, p.dh⟩ : Sp) (p.tl + (i : Int)) (p.al + (j : Int)) (wj3 (fun t a d => f.chW n night (p.one t a d) left) (⟨p.tl, p.th, p.al, p.ah, p.dl, p.dh⟩ : Sp) (p.tl + (i : Int)) (wi3 (fun t a d => f.chW n night (p.one t a d) left) (⟨p.tl, p.th, p.al, p.ah, p.dl, p.dh⟩ : Sp) i) j) k) (f.chW n night (p.one (p.tl + (i : Int)) (p.al + (j : Int)) (p.dl + (k : Int))) left)) = ((fun k => wk3 (fun t a d => f.chW n night (p.one t a d) left) (⟨p.tl, p.th, p.al, p.ah, p.dl, p.dh⟩ : Sp) (p.tl + (i : Int)) (p.al + (j : Int)) (wj3 (fun t a d => f.chW n night (p.one t a d) left) (⟨p.tl, p.th, p.al, p.ah, p.dl, p.dh⟩ : Sp) (p.tl + (i : Int)) (wi3 (fun t a d => f.chW n night (p.one t a d) left) (⟨p.tl, p.th, p.al, p.ah, p.dl, p.dh⟩ : Sp) i) j) k) (k + 1)) from rfl)), rfl, rfl, rfl, rfl, rfl, rfl, rfl, rfl, rfl, rfl, rfl, rfl, rfl, rfl, rfl, rfl, rfl, rfl, rfl, (congrArg (fun z => some (SV.i z)) (show ((p.dl + (k : Int)) + 1) = ((fun k => p.dl + (k : Int)) (k + 1)) from by show p.dl + (k : Int) + 1 = p.dl + ((k + 1 : Nat) : Int); omega)), trivial⟩ ⟨(lx rfl), trivial⟩ ⟨rfl, rfl, rfl, trivial⟩ rfl rfl rfl rfl rfl)
        · try simp only [decide_eq_true_eq, decide_eq_false_iff_not, Bool.and_eq_true, Bool.or_eq_true, Bool.and_eq_false_iff, Bool.or_eq_false_iff, Bool.not_eq_true', Bool.not_eq_false', ne_eq, Decidable.not_not] at hc4
          refine WP.exit ?_
          refine EX.exit_then ?_
          refine EX.exit_then ?_
          refine EX.exit_blk ?_
          refine EX.blk ?_
          refine EX.then ?_
          refine WP.region ?_
          refine WPl.v rfl (o_move rfl) ?_
          refine WPl.v rfl (o_add rfl rfl (by first | omega | (simp; omega)) (by first | omega | (simp; omega))) ?_
          refine WPl.v rfl (o_assign rfl) ?_
          refine WPl.nil ?_
          refine EX.again (j + 1) id (by first | omega | (constructor <;> omega)) (by omega) (LeR.of ⟨rfl, rfl, rfl, rfl, rfl, (congrArg (fun z => some (SV.i z)) (show (wk3 (fun t a d => f.chW n night (p.one t a d) left) (⟨p.tl, p.th, p.al, p.ah, p.dl, p.dh⟩ : Sp) (p.tl + (i : Int)) (p.al + (j : Int)) (wj3 (fun t a d => f.chW n night (p.one t a d) left) (⟨p.tl, p.th, p.al, p.ah, p.dl, p.dh⟩ : Sp) (p.tl + (i : Int)) (wi3 (fun t a d => f.chW n night (p.one t a d) left) (⟨p.tl, p.th, p.al, p.ah, p.dl, p.dh⟩ : Sp) i) j) k) = ((fun j => wj3 (fun t a d => f.chW n night (p.one t a d) left) (⟨p.tl, p.th, p.al, p.ah, p.dl, p.dh⟩ : Sp) (p.tl + (i : Int)) (wi3 (fun t a d => f.chW n night (p.one t a d) left) (⟨p.tl, p.th, p.al, p.ah, p.dl, p.dh⟩ : Sp) i) j) (j + 1)) from by rw [show k = (p.dh - p.dl + 1).toNat by omega]; rfl)), rfl, rfl, rfl, rfl, rfl, rfl, rfl, rfl, rfl, rfl, (congrArg (fun z => some (SV.i z)) (show ((p.al + (j : Int)) + 1) = ((fun j => p.al + (j : Int)) (j + 1)) from by show p.al + (j : Int) + 1 = p.al + ((j + 1 : Nat) : Int); omega)), trivial⟩ ⟨(lx rfl), trivial⟩ ⟨rfl, rfl, rfl, trivial⟩ rfl rfl rfl rfl rfl)
      · try simp only [decide_eq_true_eq, decide_eq_false_iff_not, Bool.and_eq_true, Bool.or_eq_true, Bool.and_eq_false_iff, Bool.or_eq_false_iff, Bool.not_eq_true', Bool.not_eq_false', ne_eq, Decidable.not_not] at hc3
        refine WP.exit ?_
        refine EX.exit_then ?_
        refine EX.exit_then ?_
        refine EX.exit_blk ?_
        refine EX.blk ?_
        refine EX.then ?_
        refine WP.region ?_
        refine WPl.v rfl (o_move rfl) ?_
        refine WPl.v rfl (o_add rfl rfl (by first | omega | (simp; omega)) (by first | omega | (simp; omega))) ?_
        refine WPl.v rfl (o_assign rfl) ?_
        refine WPl.nil ?_
        refine EX.again (i + 1) id (by first | omega | (constructor <;> omega)) (by omega) (LeR.of ⟨rfl, rfl, rfl, rfl, rfl, (congrArg (fun z => some (SV.i z)) (show (wj3 (fun t a d => f.chW n night (p.one t a d) left) (⟨p.tl, p.th, p.al, p.ah, p.dl, p.dh⟩ : Sp) (p.tl + (i : Int)) (wi3 (fun t a d => f.chW n night (p.one t a d) left) (⟨p.tl, p.th, p.al, p.ah, p.dl, p.dh⟩ : Sp) i) j) = ((fun i => wi3 (fun t a d => f.chW n night (p.one t a d) left) (⟨p.tl, p.th, p.al, p.ah, p.dl, p.dh⟩ : Sp) i) (i + 1)) from by rw [show j = (p.ah - p.al + 1).toNat by omega]; rfl)), rfl, (congrArg (fun z => some (SV.i z)) (show ((p.tl + (i : Int)) + 1) = ((fun i => p.tl + (i : Int)) (i + 1)) from by show p.tl + (i : Int) + 1 = p.tl + ((i + 1 : Nat) : Int); omega)), trivial⟩ ⟨(lx rfl), trivial⟩ ⟨rfl, rfl, rfl, trivial⟩ rfl rfl rfl rfl rfl)
    · try simp only [decide_eq_true_eq, decide_eq_false_iff_not, Bool.and_eq_true, Bool.or_eq_true, Bool.and_eq_false_iff, Bool.or_eq_false_iff, Bool.not_eq_true', Bool.not_eq_false', ne_eq, Decidable.not_not] at hc2
      refine WP.exit ?_
      refine EX.exit_then ?_
      refine EX.exit_then ?_
      refine EX.exit_blk ?_
      refine EX.then ?_
      refine WP.seq ?_
      refine WP.region ?_
      refine WPl.v rfl (o_move rfl) ?_
      refine WPl.v rfl (o_assign rfl) ?_
      refine WPl.nil ?_
      refine EX.then ?_
      refine WP.ret ?_
      have he : i = (p.th - p.tl + 1).toNat := by omega
      subst he
      rw [show f.ahW n night p left = wi3 (fun t a d => f.chW n night (p.one t a d) left) (⟨p.tl, p.th, p.al, p.ah, p.dl, p.dh⟩ : Sp) (p.th - p.tl + 1).toNat from by unfold Fnd.ahW Fnd.aheadOf; rw [if_neg hno]; rfl]
      exact EX.finX id 1 rfl (.inl rfl) rfl (.tmp rfl .nil) rfl (by simp [SV.res, El.res, At.res, keys]) trivial rfl (by simp) (by simp)
termination_by n
decreasing_by all_goals omega
theorem w57 {f : Fnd} : ∀ x ∈ ([.e (.g [ai (f.shop.pounds), ai (f.shop.tl), ai (f.shop.th), ai (f.shop.al), ai (f.shop.ah), ai (f.shop.room), ai (f.shop.tpl), ai (f.shop.tph), ai (f.shop.apl), ai (f.shop.aph), .q 0, .q 1])] : List SV), x.res (keys (α := Pred) [(0, PL EPig (f.shop.pigs)), (1, PL ENight (f.nights))]) := by simp [SV.res, El.res, At.res, keys]
theorem r57 {f : Fnd} : SV.res (keys (α := Pred) []) (.t [.a (ai (f.wKnownV)), .a (ai (f.wKnownE))]) := by simp [SV.res, El.res, At.res, keys]
set_option maxHeartbeats 4000000 in
theorem c57 (f : Fnd) (hl : f.shop.pigs.length ≤ 40) : Sig Try.prog 57 [.e (.g [ai (f.shop.pounds), ai (f.shop.tl), ai (f.shop.th), ai (f.shop.al), ai (f.shop.ah), ai (f.shop.room), ai (f.shop.tpl), ai (f.shop.tph), ai (f.shop.apl), ai (f.shop.aph), .q 0, .q 1])] [(0, PL EPig (f.shop.pigs)), (1, PL ENight (f.nights))] (.t [.a (ai (f.wKnownV)), .a (ai (f.wKnownE))]) [] := by
  rcases Bool.eq_false_or_eq_true f.chk with hf | hf
  · skip
    refine Sig.intro Try.func57 rfl 2 [(0, .e (.g [ai (f.shop.pounds), ai (f.shop.tl), ai (f.shop.th), ai (f.shop.al), ai (f.shop.ah), ai (f.shop.room), ai (f.shop.tpl), ai (f.shop.tph), ai (f.shop.apl), ai (f.shop.aph), .q 0, .q 1]))] rfl w57 rfl rfl fun I w => ?_
    refine WP.seq ?_
    refine WP.region ?_
    refine WPl.l 2 3 rfl rfl rfl (o_boxg rfl) ?_
    refine WPl.v rfl (o_assign rfl) ?_
    refine WPl.v rfl (o_assign rfl) ?_
    refine WPl.nil ?_
    refine EX.then ?_
    refine WP.seq ?_
    refine WP.region ?_
    refine WPl.v rfl (o_ldpa G31 rfl rfl rfl) ?_
    refine WPl.cM 5 (o_sigm (J := [0]) 3 4 (ren [(0, 0), (1, 1)]) (c76N f hf) e76 rfl rfl SvsOK.rf w76N ⟨(lx rfl), (lx rfl), trivial⟩ (fun _ => rfl) (by simp [SV.res, El.res, At.res, keys]) rfl) rfl rfl rfl fun b11 => ?_
    refine WPl.v rfl (o_move rfl) ?_
    refine WPl.v rfl (o_extract rfl rfl) ?_
    refine WPl.v rfl (o_extract rfl rfl) ?_
    refine WPl.v rfl (o_assign rfl) ?_
    refine WPl.v rfl (o_assign rfl) ?_
    refine WPl.nil ?_
    refine EX.then ?_
    refine WP.seq ?_
    refine WP.seq ?_
    refine WP.region ?_
    refine WPl.v rfl (o_move rfl) ?_
    refine WPl.v rfl (o_neq rfl rfl) ?_
    refine WPl.nil ?_
    refine EX.then ?_
    refine WP.cond rfl (fun hc1 => ?_) (fun hc1 => ?_)
    · try simp only [decide_eq_true_eq, decide_eq_false_iff_not, Bool.and_eq_true, Bool.or_eq_true, Bool.and_eq_false_iff, Bool.or_eq_false_iff, Bool.not_eq_true', Bool.not_eq_false', ne_eq, Decidable.not_not] at hc1
      simp at hc1
    · try simp only [decide_eq_true_eq, decide_eq_false_iff_not, Bool.and_eq_true, Bool.or_eq_true, Bool.and_eq_false_iff, Bool.or_eq_false_iff, Bool.not_eq_true', Bool.not_eq_false', ne_eq, Decidable.not_not] at hc1
      have hcb := Fnd.chkB hf
      have hpg := Shop.pigsOK (Fnd.shopOK hf)
      refine WP.imp (Imp.closeX (km := 4) (Kp := (MemoK f)) rfl (fun p hp => by cases hp)) ?_
      refine WP.skip ?_
      refine EX.then ?_
      refine WP.seq ?_
      refine WP.region ?_
      refine WPl.v rfl (o_move rfl) ?_
      refine WPl.cs 5 rfl rfl rfl rfl (o_sig 5 (ren [(0, 3)]) (c88 f (some b11) (by omega)) e88 rfl rfl rfl w88 ⟨(lx rfl), trivial⟩ r88) ?_
      refine WPl.v rfl (o_move rfl) ?_
      refine WPl.v rfl (o_extract rfl rfl) ?_
      refine WPl.v rfl (o_extract rfl rfl) ?_
      refine WPl.l 5 6 rfl rfl rfl (o_alloc Z105) ?_
      refine WPl.l 6 7 rfl rfl rfl (o_alloc Z110) ?_
      refine WPl.s1 (o_stag G105 rfl rfl rfl ⟨rfl, rfl, rfl, rfl, rfl, rfl, rfl, trivial⟩ rfl rfl) ?_
      refine WPl.s1 (o_stag G110 rfl rfl rfl ⟨rfl, rfl, rfl, rfl, trivial⟩ rfl rfl) ?_
      refine WPl.nil ?_
      refine EX.then ?_
      refine WP.seq ?_
      refine WP.region ?_
      refine WPl.v rfl (o_move rfl) ?_
      refine WPl.v rfl (o_ldpa G105 rfl rfl rfl) ?_
      refine WPl.v rfl (o_ldpa G110 rfl rfl rfl) ?_
      refine WPl.cL (X' := []) 7 rfl rfl rfl rfl rfl (o_sigx 7 (ren [(0, 3)]) 4 (c110 f b11 f.nights.length 0 f.pt0 (left0 f.shop.pigs) hf (by omega) (by omega) ⟨PtB.mono (pt0_bnd hf) (by omega), by simp [Fnd.pt0], by simp [Fnd.pt0]⟩ (left0_b hpg)) memoXP.plain e110 rfl rfl rfl SvsOK.rf w110 ⟨(lx rfl), trivial⟩ r110) ?_
      refine WPl.v rfl (o_assign rfl) ?_
      refine WPl.nil ?_
      refine EX.then ?_
      refine WP.seq ?_
      refine WP.seq ?_
      refine WP.region ?_
      refine WPl.v rfl (o_move rfl) ?_
      refine WPl.v rfl (o_geq rfl rfl) ?_
      refine WPl.nil ?_
      refine EX.then ?_
      refine WP.cond rfl (fun hc2 => ?_) (fun hc2 => ?_)
      · try simp only [decide_eq_true_eq, decide_eq_false_iff_not, Bool.and_eq_true, Bool.or_eq_true, Bool.and_eq_false_iff, Bool.or_eq_false_iff, Bool.not_eq_true', Bool.not_eq_false', ne_eq, Decidable.not_not] at hc2
        have hkn : f.wKnownN ≥ neverC := hc2
        refine WP.seq ?_
        refine WP.region ?_
        refine WPl.v rfl (o_assign rfl) ?_
        refine WPl.v rfl (o_assign rfl) ?_
        refine WPl.nil ?_
        refine EX.then ?_
        refine WP.ret ?_
        refine EX.ret_then ?_
        have hE : f.wKnownE = 3 := by simp only [Fnd.wKnownE, hf]; rw [if_pos hkn]; rfl
        rw [hE, show f.wKnownV = 0 from by simp [Fnd.wKnownV, hE]]
        exact EX.fin id (.inl rfl) rfl (.tmp rfl (.tmp rfl .nil)) rfl (by simp [SV.res, El.res, At.res, keys]) trivial (by simp) (by simp)
      · try simp only [decide_eq_true_eq, decide_eq_false_iff_not, Bool.and_eq_true, Bool.or_eq_true, Bool.and_eq_false_iff, Bool.or_eq_false_iff, Bool.not_eq_true', Bool.not_eq_false', ne_eq, Decidable.not_not] at hc2
        have hkn : ¬ f.wKnownN ≥ neverC := hc2
        refine WP.skip ?_
        refine EX.then ?_
        refine WP.seq ?_
        refine WP.region ?_
        refine WPl.v rfl (o_move rfl) ?_
        refine WPl.v rfl (o_assign rfl) ?_
        refine WPl.v rfl (o_assign rfl) ?_
        refine WPl.nil ?_
        refine EX.then ?_
        refine WP.ret ?_
        have hE : f.wKnownE = 0 := by simp only [Fnd.wKnownE, hf]; rw [if_neg hkn]; rfl
        rw [hE, show f.wKnownV = f.wKnownN from by simp [Fnd.wKnownV, hE]]
        exact EX.fin id (.inl rfl) rfl (.tmp rfl (.tmp rfl .nil)) rfl (by simp [SV.res, El.res, At.res, keys]) trivial (by simp) (by simp)
  · skip
    refine Sig.intro Try.func57 rfl 2 [(0, .e (.g [ai (f.shop.pounds), ai (f.shop.tl), ai (f.shop.th), ai (f.shop.al), ai (f.shop.ah), ai (f.shop.room), ai (f.shop.tpl), ai (f.shop.tph), ai (f.shop.apl), ai (f.shop.aph), .q 0, .q 1]))] rfl w57 rfl rfl fun I w => ?_
    refine WP.seq ?_
    refine WP.region ?_
    refine WPl.l 2 3 rfl rfl rfl (o_boxg rfl) ?_
    refine WPl.v rfl (o_assign rfl) ?_
    refine WPl.v rfl (o_assign rfl) ?_
    refine WPl.nil ?_
    refine EX.then ?_
    refine WP.seq ?_
    refine WP.region ?_
    refine WPl.v rfl (o_ldpa G31 rfl rfl rfl) ?_
    refine WPl.cs 3 rfl rfl rfl rfl (o_sig 3 (ren [(0, 0), (1, 1)]) (c76NE f hf hl) e76 rfl rfl rfl w76NE ⟨(lx rfl), (lx rfl), trivial⟩ r76NE) ?_
    refine WPl.v rfl (o_move rfl) ?_
    refine WPl.v rfl (o_extract rfl rfl) ?_
    refine WPl.v rfl (o_extract rfl rfl) ?_
    refine WPl.v rfl (o_assign rfl) ?_
    refine WPl.v rfl (o_assign rfl) ?_
    refine WPl.nil ?_
    refine EX.then ?_
    refine WP.seq ?_
    refine WP.seq ?_
    refine WP.region ?_
    refine WPl.v rfl (o_move rfl) ?_
    refine WPl.v rfl (o_neq rfl rfl) ?_
    refine WPl.nil ?_
    refine EX.then ?_
    refine WP.cond rfl (fun hc1 => ?_) (fun hc1 => ?_)
    · try simp only [decide_eq_true_eq, decide_eq_false_iff_not, Bool.and_eq_true, Bool.or_eq_true, Bool.and_eq_false_iff, Bool.or_eq_false_iff, Bool.not_eq_true', Bool.not_eq_false', ne_eq, Decidable.not_not] at hc1
      refine WP.seq ?_
      refine WP.region ?_
      refine WPl.v rfl (o_move rfl) ?_
      refine WPl.v rfl (o_assign rfl) ?_
      refine WPl.v rfl (o_assign rfl) ?_
      refine WPl.nil ?_
      refine EX.then ?_
      refine WP.ret ?_
      refine EX.ret_then ?_
      have hE : f.wKnownE = 130 := by simp only [Fnd.wKnownE, hf]; rfl
      rw [hE, show f.wKnownV = 0 from by simp [Fnd.wKnownV, hE]]
      exact EX.fin id (.inl rfl) rfl (.tmp rfl (.tmp rfl .nil)) rfl (by simp [SV.res, El.res, At.res, keys]) trivial (by simp) (by simp)
    · try simp only [decide_eq_true_eq, decide_eq_false_iff_not, Bool.and_eq_true, Bool.or_eq_true, Bool.and_eq_false_iff, Bool.or_eq_false_iff, Bool.not_eq_true', Bool.not_eq_false', ne_eq, Decidable.not_not] at hc1
      simp at hc1
end Go.Flong
