/- WeeksOne returns true for every input and leaves its argument as it was (one night alone). No condition. -/
import Derived.Test.YtkpejbekobkdfaaGreatUW4
set_option linter.unusedSimpArgs false
set_option linter.unusedVariables false
namespace Go.Flong
open Go Go.Eng Go.Proofs
theorem B130 : BldT Tryz.prog 130 [(0, 1), (1, 7), (8, 4)] [.int .i64 0, .int .i64 0, .int .i64 0, .int .i64 0, .int .i64 0, .int .i64 0, .int .i64 0, .int .i64 0, .int .i64 0, .int .i64 0, .int .i64 0, .int .i64 0] := BldT.mk (ns := [1, 7, 4]) Tryz.underlying130 ⟨Tryz.sizeOf3, Tryz.sizeOf64, Tryz.sizeOf66, trivial⟩ rfl Tryz.zeroValue130 rfl
theorem Z130 : Zero Tryz.prog 130 [ai (0), ai (0), ai (0), ai (0), ai (0), ai (0), ai (0), ai (0), ai (0), ai (0), ai (0), ai (0)] := .mk Tryz.zeroValue130 rfl rfl
theorem F92_1 : Fld Tryz.prog 92 1 12 := .mk Tryz.underlying92 rfl rfl rfl Tryz.sizeOf90 rfl
theorem S90 : TyS Tryz.prog 90 := ⟨Tryz.isAgg90, Tryz.sizeOf90⟩
theorem e28 : Enters' Tryz.prog 28 := Tryz.call28
theorem e54 : Enters' Tryz.prog 54 := Tryz.call54
theorem e55 : Enters' Tryz.prog 55 := Tryz.call55
theorem w28 {f : Fnd} {b : Nat} {night : Int} {p : Pt} {left : List Int} : ∀ x ∈ ([.e (.a (.q 0)), .i (night), .e (.g [ai (p.pounds), ai (p.tl), ai (p.th), ai (p.al), ai (p.ah), ai (p.dl), ai (p.dh)]), .e (.g [ai (nth left 0), ai (nth left 1), ai (nth left 2), ai (nth left 3)])] : List SV), x.res (keys (α := Pred) [(0, PP (EWk (some b)) (f))]) := by simp [SV.res, El.res, At.res, keys]
theorem r28 {f : Fnd} {n : Nat} {night : Int} {p : Pt} {left : List Int} : SV.res (keys (α := Pred) []) (.i (f.ahW n night p left)) := by simp [SV.res, El.res, At.res, keys]
theorem w54 {f : Fnd} {b : Nat} {night : Int} {p : Pt} {left : List Int} : ∀ x ∈ ([.e (.a (.q 0)), .i (night), .e (.g [ai (p.pounds), ai (p.tl), ai (p.th), ai (p.al), ai (p.ah), ai (p.dl), ai (p.dh)]), .e (.g [ai (nth left 0), ai (nth left 1), ai (nth left 2), ai (nth left 3)])] : List SV), x.res (keys (α := Pred) [(0, PP (EWk (some b)) (f))]) := by simp [SV.res, El.res, At.res, keys]
theorem r54 {f : Fnd} {n : Nat} {night : Int} {p : Pt} {left : List Int} : SV.res (keys (α := Pred) []) (.i (f.chW n night p left)) := by simp [SV.res, El.res, At.res, keys]
set_option maxHeartbeats 4000000 in
theorem c54 (f : Fnd) (b : Nat) (n : Nat) (night : Int) (p : Pt) (left : List Int) (hf : f.chk = true) (hnt : night + n = f.nights.length) (hn0 : 0 ≤ night) (hp : ChB p night) (hl : bnd4 left) (ahC : ∀ (k : Nat), n = k + 1 → ∀ (p : Pt) (left : List Int), AhB p (night + 1) → bnd4 left → SigX Tryz.prog 28 [.e (.a (.q 0)), .i ((night + 1)), .e (.g [ai (p.pounds), ai (p.tl), ai (p.th), ai (p.al), ai (p.ah), ai (p.dl), ai (p.dh)]), .e (.g [ai (nth left 0), ai (nth left 1), ai (nth left 2), ai (nth left 3)])] [(0, PP (EWk (some b)) (f))] (memoXP true 12 b (MemoK f)) (.i (f.ahW k (night + 1) p left)) []) : SigX Tryz.prog 54 [.e (.a (.q 0)), .i (night), .e (.g [ai (p.pounds), ai (p.tl), ai (p.th), ai (p.al), ai (p.ah), ai (p.dl), ai (p.dh)]), .e (.g [ai (nth left 0), ai (nth left 1), ai (nth left 2), ai (nth left 3)])] [(0, PP (EWk (some b)) (f))] (memoXP true 12 b (MemoK f)) (.i (f.chW n night p left)) [] := by
  have hpg := Shop.pigsOK (Fnd.shopOK hf)
  have hp4 := hpg.2
  have hn := Fnd.nightsOK hf
  have hn4 := hn.2
  refine SigX.intro memoXP.plain Tryz.func54 rfl 2 1 [(0, .e (.a (.q 0))), (1, .i (night)), (2, .e (.g [ai (p.pounds), ai (p.tl), ai (p.th), ai (p.al), ai (p.ah), ai (p.dl), ai (p.dh)])), (3, .e (.g [ai (nth left 0), ai (nth left 1), ai (nth left 2), ai (nth left 3)]))] rfl w54 rfl rfl rfl fun I w => ?_
  refine WP.seq (WP.region ?_)
  refine WPl.l 2 3 rfl rfl rfl (o_boxa rfl (.inl ⟨_, (lx rfl), PP.one⟩)) ?_
  refine WPl.l 3 4 rfl rfl rfl (o_boxa rfl rfl) ?_
  refine WPl.l 4 5 rfl rfl rfl (o_boxg rfl) ?_
  refine WPl.l 5 6 rfl rfl rfl (o_boxg rfl) ?_
  refine WPl.v rfl (o_assign rfl) ?_
  refine WPl.nil (EX.then (WP.seq (WP.seq ?_)))
  refine WP.draw (nf := 7) [⟨[18, 19, 20, 21, 22, 23], [6], [], [], []⟩, ⟨[17], [], [], [], []⟩, ⟨[17], [], [], [], [1]⟩, ⟨[17], [], [], [], [1, 2]⟩, ⟨[17], [], [], [], [1, 2, 3]⟩, ⟨[17], [], [6], [6], [1, 2, 3, 4]⟩, ⟨[17], [], [], [], [1, 2, 3, 4, 5]⟩, ⟨[], [], [], [], [0, 1, 2, 3, 4, 5, 6]⟩] (by kernel_rfl) (by kernel_rfl) ?_
  refine DRQ.v rfl rfl rfl (o_ldp S3 rfl rfl rfl) ?_
  refine DRQ.v rfl rfl rfl (o_ldp S60 rfl rfl rfl) ?_
  refine DRQ.v rfl rfl rfl (o_nilq rfl (lx rfl)) ?_
  refine DRQ.v rfl rfl rfl (o_fldq F92_0 rfl (lx rfl)) ?_
  refine DRQ.v rfl rfl rfl (o_flde F31_1 rfl (lx rfl)) ?_
  refine DRQ.x 6 rfl rfl rfl rfl (o_ldex S29 rfl (lx rfl) (strS rfl)) ?_
  refine DRQ.v rfl rfl rfl (o_lenq L29 rfl (lx rfl)) ?_
  refine DRQ.v rfl rfl rfl (o_eql rfl rfl) ?_
  refine DRQ.nil' ?_
  refine EX.then ?_
  refine WP.cond rfl (fun hc1 => ?_) (fun hc1 => ?_)
  · try simp only [cnd] at hc1
    obtain rfl : n = 0 := by omega
    refine WP.seq (WP.region ?_)
    refine WPl.v rfl (o_assign rfl) ?_
    refine WPl.nil (EX.then (WP.ret (EX.ret_then ?_)))
    rw [show f.chW 0 night p left = 0 from rfl]
    exact EX.finX id 1 rfl (.inl rfl) rfl (.tmp rfl .nil) rfl (by simp [SV.res, El.res, At.res, keys]) trivial rfl (by simp) (by simp)
  · try simp only [cnd] at hc1
    obtain ⟨k, rfl⟩ : ∃ k, n = k + 1 := ⟨n - 1, by omega⟩
    have hnc := hn.at (show night.toNat < f.nights.length by omega)
    rw [show ((night.toNat : Nat) : Int) = night by omega] at hnc
    have hpb := hp.1
    refine WP.skip (EX.then (WP.seq (WP.region ?_)))
    refine WPl.v rfl (o_ldp S3 rfl rfl rfl) ?_
    refine WPl.v rfl (o_ldpa G64 rfl rfl rfl) ?_
    refine WPl.v rfl (o_ldpa G66 rfl rfl rfl) ?_
    refine WPl.v rfl (o_build B130 rfl ⟨rfl, trivial⟩ rfl rfl) ?_
    refine WPl.l 7 8 rfl rfl rfl (o_alloc Z130) ?_
    refine WPl.s1 (o_stag G130 rfl rfl rfl ⟨rfl, rfl, rfl, rfl, rfl, rfl, rfl, rfl, rfl, rfl, rfl, rfl, trivial⟩ rfl rfl) ?_
    refine WPl.nil (EX.then (WP.seq (WP.seq ?_)))
    refine WP.openX (km := 1) rfl fun ml hml => ?_
    refine WP.draw (nf := 8) [⟨[34], [], [], [], []⟩, ⟨[34], [], [], [], [0]⟩, ⟨[34], [], [], [], [0, 1]⟩, ⟨[34], [], [], [], [0, 1, 2]⟩, ⟨[30, 31, 32, 33], [], [], [], []⟩, ⟨[], [], [], [], [0, 1, 2, 3, 4]⟩, ⟨[], [], [], [], [0, 1, 2, 3, 4, 5]⟩, ⟨[37], [], [], [], [0, 1, 2, 3, 4, 5, 6]⟩, ⟨[36, 10], [], [], [], [0, 1, 2, 3, 4, 5, 6]⟩, ⟨[37], [], [], [], [0, 1, 2, 3, 4, 5, 6, 7]⟩, ⟨[], [], [], [], [0, 1, 2, 3, 4, 5, 6, 7, 8, 9]⟩] (by kernel_rfl) (by kernel_rfl) ?_
    refine DRQ.v rfl rfl rfl (o_ldp S60 rfl rfl rfl) ?_
    refine DRQ.v rfl rfl rfl (o_nilq rfl (lx rfl)) ?_
    refine DRQ.v rfl rfl rfl (o_fldq F92_1 rfl (lx rfl)) ?_
    refine DRQ.v rfl rfl rfl (o_lde S90 rfl (lx rfl) (strV rfl)) ?_
    refine DRQ.v rfl rfl rfl (o_ldpa G130 rfl rfl rfl) ?_
    refine DRQ.v rfl rfl rfl (o_look2 (km := 1) (a := [night, p.pounds, p.tl, p.th, p.al, p.ah, p.dl, p.dh, nth left 0, nth left 1, nth left 2, nth left 3]) M90 rfl rfl isKey.g rfl rfl) ?_
    refine DRQ.v rfl rfl rfl (o_move rfl) ?_
    refine DRQ.v rfl rfl rfl (o_extract rfl rfl) ?_
    refine DRQ.v rfl rfl rfl (o_extract rfl rfl) ?_
    refine DRQ.v rfl rfl rfl (o_assign rfl) ?_
    refine DRQ.v rfl rfl rfl (o_assign rfl) ?_
    refine DRQ.nil' ?_
    refine EX.then (WP.seq (WP.region ?_))
    refine WPl.v rfl (o_move rfl) ?_
    refine WPl.nil (EX.then ?_)
    refine WP.cond rfl (fun hc2 => ?_) (fun hc2 => ?_)
    · try simp only [cnd] at hc2
      refine WP.imp (Imp.closeX (km := 1) (Kp := (MemoK f)) rfl hml) ?_
      refine WP.seq (WP.region ?_)
      refine WPl.v rfl (o_move rfl) ?_
      refine WPl.v rfl (o_assign rfl) ?_
      refine WPl.nil (EX.then (WP.ret (EX.ret_then ?_)))
      rw [show f.chW (k + 1) night p left = (mget ml [night, p.pounds, p.tl, p.th, p.al, p.ah, p.dl, p.dh, nth left 0, nth left 1, nth left 2, nth left 3]).getD 0 from (memo_get hl.1 hnt hml hc2).symm]
      exact EX.finX id 1 rfl (.inl rfl) rfl (.tmp rfl .nil) rfl (by simp [SV.res, El.res, At.res, keys]) trivial rfl (by simp) (by simp)
    · try simp only [cnd] at hc2
      refine WP.imp (Imp.closeX (km := 1) (Kp := (MemoK f)) rfl hml) ?_
      refine WP.skip (EX.then (WP.seq (WP.region ?_)))
      refine WPl.l 8 9 rfl rfl rfl (o_alloc Z3) ?_
      refine WPl.s1 (o_sta S3 rfl rfl rfl rfl rfl) ?_
      refine WPl.nil (EX.then (WP.seq (WP.seq (WP.region ?_))))
      refine WPl.v rfl (o_ldp S60 rfl rfl rfl) ?_
      refine WPl.v rfl (o_ldpa G64 rfl rfl rfl) ?_
      refine WPl.v rfl (o_ldpa G66 rfl rfl rfl) ?_
      refine WPl.cs 10 rfl rfl rfl rfl (o_sig 9 (ren [(0, 0)]) (c73 f (some b) p left (1040 + 400100 * night) hf hpb (by omega) hl) e73 rfl rfl rfl w73 ⟨(lx rfl), trivial⟩ r73) ?_
      refine WPl.nil (EX.then (WP.block ?_))
      refine WP.leR (S' := ⟨10, [(4, .e (.a (.p 2 (0)))), (5, .e (.a (.p 3 (0)))), (7, .e (.a (.p 5 (0)))), (8, .i (0)), (9, .e (.a (.p 7 (0)))), (12, .e (.a (.p 8 (0)))), (43, .e (.a (.q 9)))], [(0, PP (EWk (some b)) (f)), (9, ItP Tryz.prog (f.chItems p left))], [(1, .ext (memoXP true 12 b (MemoK f))), (2, .blk [.q 0] 60), (3, .blk [ai (night)] 3), (5, .blk [ai (nth left 0), ai (nth left 1), ai (nth left 2), ai (nth left 3)] 66), (7, .blk [ai (night), ai (p.pounds), ai (p.tl), ai (p.th), ai (p.al), ai (p.ah), ai (p.dl), ai (p.dh), ai (nth left 0), ai (nth left 1), ai (nth left 2), ai (nth left 3)] 130), (8, .blk [ai (1073741824)] 3)], [], []⟩) id (LeR.of ⟨rfl, rfl, rfl, rfl, rfl, rfl, rfl, trivial⟩ ⟨(lx rfl), (lx rfl), trivial⟩ ⟨rfl, rfl, rfl, rfl, rfl, rfl, trivial⟩ rfl rfl rfl rfl rfl) ?_
      refine WP.rangeG 12 1 ((f.chL p left).length) (fun i => ⟨[.e (.a (.q 0)), .e (.g [ai ((p.addL f.shop.pigs (nth (f.chL p left) (i : Int))).pounds), ai ((p.addL f.shop.pigs (nth (f.chL p left) (i : Int))).tl), ai ((p.addL f.shop.pigs (nth (f.chL p left) (i : Int))).th), ai ((p.addL f.shop.pigs (nth (f.chL p left) (i : Int))).al), ai ((p.addL f.shop.pigs (nth (f.chL p left) (i : Int))).ah), ai ((p.addL f.shop.pigs (nth (f.chL p left) (i : Int))).dl), ai ((p.addL f.shop.pigs (nth (f.chL p left) (i : Int))).dh)])], [], [(0, PL EP.int ((nth (f.chL p left) (i : Int))))]⟩) (fun i => ⟨12, [(4, .e (.a (.p 2 (0)))), (5, .e (.a (.p 3 (0)))), (7, .e (.a (.p 5 (0)))), (8, .i (0)), (9, .e (.a (.p 7 (0)))), (12, .e (.a (.p 8 (0)))), (43, .e (.a (.q 9)))], [(0, PP (EWk (some b)) (f)), (9, ItP Tryz.prog (f.chItems p left))], [(1, .ext (memoXP true 12 b (MemoK f))), (2, .blk [.q 0] 60), (3, .blk [ai (night)] 3), (5, .blk [ai (nth left 0), ai (nth left 1), ai (nth left 2), ai (nth left 3)] 66), (7, .blk [ai (night), ai (p.pounds), ai (p.tl), ai (p.th), ai (p.al), ai (p.ah), ai (p.dl), ai (p.dh), ai (nth left 0), ai (nth left 1), ai (nth left 2), ai (nth left 3)] 130), (8, .blk [ai (chRows f.shop.pigs (fun r => f.aheadOf (fun q => f.chW k (night + 1) q (takeL left r)) (night + 1) ((p.addL f.shop.pigs r).lose (nth f.nights night))) (f.chL p left) i)] 3), (10, .ob (.deferred (some [])))], [10], []⟩) (fun _ _ => False) rfl rfl (lx rfl) (rfl) (fun _ => RSt.of1 1 rfl rfl rfl rfl rfl rfl memoXP.plain rfl) (fun _ _ h => h.elim) rfl rfl rfl (fun _ _ => ItemOK.of rfl) rfl rfl id (LeR.of ⟨rfl, rfl, rfl, rfl, rfl, rfl, rfl, trivial⟩ ⟨(lx rfl), (lx rfl), trivial⟩ ⟨rfl, rfl, rfl, rfl, rfl, (congrArg (fun z => some (Ent.blk z 3)) (List.cons_eq_cons.2 ⟨(congrArg (fun z => ai z) (show (1073741824) = ((fun i => chRows f.shop.pigs (fun r => f.aheadOf (fun q => f.chW k (night + 1) q (takeL left r)) (night + 1) ((p.addL f.shop.pigs r).lose (nth f.nights night))) (f.chL p left) i) 0) from rfl)), (Eq.refl [])⟩)), rfl, trivial⟩ rfl rfl rfl rfl rfl) ?_ ?_ ?_
      · intro i hi w1 E1 I1 R1 pβ1 pν1 us1
        have hr := chL_at (p := p) hl hp4 hi
        have hnx := ChB.next hp hn0 hpg hr.1 hr.2.1 hnc
        have hpe := pence_bnd hpg hr.1 hr.2.1
        have hab := ahW_bnd hpg k (night + 1) ((p.addL f.shop.pigs (nth (f.chL p left) (i : Int))).lose (nth f.nights night)) hr.2.2
        have hnv : neverC = 1073741824 := rfl
        refine WP.seq (WP.region ?_)
        refine WPl.v rfl (o_assign rfl) ?_
        refine WPl.nil (EX.then (WP.region ?_))
        refine WPl.l 13 14 rfl rfl rfl (o_alloc Z64) ?_
        refine WPl.s1 (o_stag G64 rfl rfl rfl ⟨rfl, rfl, rfl, rfl, rfl, rfl, rfl, trivial⟩ rfl rfl) ?_
        refine WPl.nil ?_
        refine EX.beg rfl ?_
        refine WP.block (WP.seq (WP.region ?_))
        refine WPl.v rfl (o_ldp S60 rfl rfl rfl) ?_
        refine WPl.v rfl (o_ldpa G66 rfl rfl rfl) ?_
        refine WPl.v rfl (o_move rfl) ?_
        refine WPl.cs 14 rfl rfl rfl rfl (o_sigbc 14 (ren [(0, 0), (1, 12)]) (Sig.free (c74 f (some b) left (nth (f.chL p left) (i : Int)) hpg hl.1 (fun j hj => hl.2 j (by rw [← hl.1]; exact hj)) hr.1 hr.2.1)) e74 rfl rfl SvsOK.rf w74 ⟨.x (lx rfl), .ext (lx rfl) rfl, trivial⟩ r74) ?_
        refine WPl.v rfl (o_move rfl) ?_
        refine WPl.v rfl (o_extract rfl rfl) ?_
        refine WPl.v rfl (o_extract rfl rfl) ?_
        refine WPl.l 14 15 rfl rfl rfl (o_alloc Z66) ?_
        refine WPl.s1 (o_stag G66 rfl rfl rfl ⟨rfl, rfl, rfl, rfl, trivial⟩ rfl rfl) ?_
        refine WPl.v rfl (o_assign rfl) ?_
        refine WPl.nil (EX.then ?_)
        refine WP.draw (nf := 17) [⟨[54, 55, 56, 57, 58, 59, 60, 61, 62, 63, 64, 65, 66, 67, 68, 69, 70], [1, 15, 16], [], [], []⟩, ⟨[53, 55, 56, 57, 58, 59, 60, 61, 62, 63, 64, 65, 66, 67, 68, 69], [1, 15, 16], [], [], []⟩, ⟨[53, 54, 56, 57, 58, 59, 60, 61, 62, 63, 64, 65, 66, 67, 68], [15, 16], [], [], []⟩, ⟨[53, 54, 55, 58, 59, 60, 61, 62, 63, 64, 65, 66, 67, 68], [15, 16], [], [], []⟩, ⟨[53, 54, 55, 58, 59, 60, 61, 62, 63, 64, 65, 66, 67, 68], [15, 16], [], [], [3]⟩, ⟨[53, 54, 55, 56, 57, 59, 60, 61, 62, 63, 64, 65, 66, 68], [15, 16], [], [], []⟩, ⟨[53, 54, 55, 56, 57, 58, 64, 68], [], [], [], []⟩, ⟨[53, 54, 55, 56, 57, 58, 64, 68], [], [], [], [6]⟩, ⟨[53, 54, 55, 56, 57, 58, 64, 68], [], [], [], [6, 7]⟩, ⟨[53, 54, 55, 56, 57, 58, 64, 68], [], [], [], [6, 7, 8]⟩, ⟨[53, 54, 55, 56, 57, 58, 64, 68], [], [15], [15], [6, 7, 8, 9]⟩, ⟨[53, 54, 55, 56, 57, 58, 59, 60, 61, 62, 63, 68], [15], [], [], []⟩, ⟨[53, 54, 55, 56, 57, 58, 68], [], [16], [16], [6, 7, 8, 9, 10, 11]⟩, ⟨[53, 54, 55, 56, 57, 58, 68], [], [], [], [6, 7, 8, 9, 10, 11, 12]⟩, ⟨[53, 54, 55, 56, 57, 68], [], [], [], [5, 6, 7, 8, 9, 10, 11, 12, 13]⟩, ⟨[53, 54, 55, 56, 57, 58, 59, 60, 61, 62, 63, 64, 65, 66, 67], [15, 16], [], [], []⟩, ⟨[53, 54], [], [], [1], [2, 3, 4, 5, 6, 7, 8, 9, 10, 11, 12, 13, 14, 15]⟩, ⟨[53], [], [], [], [1, 2, 3, 4, 5, 6, 7, 8, 9, 10, 11, 12, 13, 14, 15, 16]⟩, ⟨[], [], [], [], [0, 1, 2, 3, 4, 5, 6, 7, 8, 9, 10, 11, 12, 13, 14, 15, 16, 17]⟩, ⟨[], [], [], [8], [0, 1, 2, 3, 4, 5, 6, 7, 8, 9, 10, 11, 12, 13, 14, 15, 16, 17, 18]⟩] (by kernel_rfl) (by kernel_rfl) ?_
        refine DRQ.v rfl rfl rfl (o_ldp S3 rfl rfl rfl) ?_
        refine DRQ.v rfl rfl rfl (o_move rfl) ?_
        refine DRQ.v rfl rfl rfl (o_ldp S60 rfl rfl rfl) ?_
        refine DRQ.v rfl rfl rfl (o_ldp S3 rfl rfl rfl) ?_
        refine DRQ.v rfl rfl rfl (o_add rfl rfl (by first | omega | (simp; omega)) (by first | omega | (simp; omega))) ?_
        refine DRQ.v rfl rfl rfl (o_ldpa G64 rfl rfl rfl) ?_
        refine DRQ.v rfl rfl rfl (o_ldp S60 rfl rfl rfl) ?_
        refine DRQ.v rfl rfl rfl (o_nilq rfl (lx rfl)) ?_
        refine DRQ.v rfl rfl rfl (o_fldq F92_0 rfl (lx rfl)) ?_
        refine DRQ.v rfl rfl rfl (o_flde F31_1 rfl (lx rfl)) ?_
        refine DRQ.x 15 rfl rfl rfl rfl (o_ldex S29 rfl (lx rfl) (strS rfl)) ?_
        refine DRQ.v rfl rfl rfl (o_ldp S3 rfl rfl rfl) ?_
        refine DRQ.x 16 rfl rfl rfl rfl (o_idx L29 rfl (lx rfl) rfl (by first | omega | (simp; omega)) (by first | omega | (simp; omega))) ?_
        refine DRQ.v rfl rfl rfl (o_ldqg G71 rfl (lx rfl) (strG rfl) rfl rfl) ?_
        refine DRQ.cs rfl rfl rfl rfl (o_sig 17 id (c75 (p.addL f.shop.pigs (nth (f.chL p left) (i : Int))) (nth f.nights night) (1040 + 400100 * night + 400000) hnx.1 (by omega) hnc) e75 rfl rfl rfl w75 trivial r75) ?_
        refine DRQ.v rfl rfl rfl (o_ldpa G66 rfl rfl rfl) ?_
        refine DRQ.cL (X' := []) rfl rfl rfl rfl (o_sigx 17 (ren [(0, 0)]) 1 (ahC k rfl ((p.addL f.shop.pigs (nth (f.chL p left) (i : Int))).lose (nth f.nights night)) (takeL left (nth (f.chL p left) (i : Int))) hnx.2 hr.2.2) memoXP.plain e28 rfl rfl rfl SvsOK.rf w28 ⟨(lx rfl), trivial⟩ r28) ?_
        refine DRQ.v rfl rfl rfl (o_add rfl rfl (by first | omega | (simp; omega)) (by first | omega | (simp; omega))) ?_
        refine DRQ.v rfl rfl rfl (o_min rfl rfl) ?_
        refine DRQ.s 8 rfl rfl rfl (o_sta S3 rfl rfl rfl rfl rfl) ?_
        refine DRQ.nil' ?_
        refine EX.blk ?_
        exact EX.next id (LeR.of trivial ⟨(lx rfl), (lx rfl), trivial⟩ ⟨rfl, rfl, rfl, rfl, rfl, rfl, (congrArg (fun z => some (Ent.blk z 3)) (List.cons_eq_cons.2 ⟨(congrArg (fun z => ai z) (show (min (chRows f.shop.pigs (fun r => f.aheadOf (fun q => f.chW k (night + 1) q (takeL left r)) (night + 1) ((p.addL f.shop.pigs r).lose (nth f.nights night))) (f.chL p left) i) ((sumOf Pig.pence f.shop.pigs (nth (f.chL p left) (i : Int))) + (f.ahW k (night + 1) ((p.addL f.shop.pigs (nth (f.chL p left) (i : Int))).lose (nth f.nights night)) (takeL left (nth (f.chL p left) (i : Int)))))) = ((fun i => chRows f.shop.pigs (fun r => f.aheadOf (fun q => f.chW k (night + 1) q (takeL left r)) (night + 1) ((p.addL f.shop.pigs r).lose (nth f.nights night))) (f.chL p left) i) (i + 1)) from rfl)), (Eq.refl [])⟩)), rfl, trivial⟩ rfl rfl rfl rfl rfl)
      · exact fun _ _ h => h.elim
      · skip
        refine EX.blk (EX.then (WP.seq (WP.region ?_)))
        refine WPl.v rfl (o_ldp S3 rfl rfl rfl) ?_
        refine WPl.v rfl (o_min rfl rfl) ?_
        refine WPl.s1 (o_sta S3 rfl rfl rfl rfl rfl) ?_
        refine WPl.nil (EX.then (WP.seq ?_))
        refine WP.openX (km := 1) rfl fun mm hmm => ?_
        refine WP.draw (nf := 12) [⟨[78, 79], [], [], [], []⟩, ⟨[78, 79], [], [], [], [0]⟩, ⟨[78, 79], [], [], [], [0, 1]⟩, ⟨[78, 79], [], [], [], [0, 1, 2]⟩, ⟨[74, 75, 76, 77, 79], [], [], [], []⟩, ⟨[74, 75, 76, 77, 78], [], [], [], []⟩, ⟨[], [], [], [1], [0, 1, 2, 3, 4, 5]⟩] (by kernel_rfl) (by kernel_rfl) ?_
        refine DRQ.v rfl rfl rfl (o_ldp S60 rfl rfl rfl) ?_
        refine DRQ.v rfl rfl rfl (o_nilq rfl (lx rfl)) ?_
        refine DRQ.v rfl rfl rfl (o_fldq F92_1 rfl (lx rfl)) ?_
        refine DRQ.v rfl rfl rfl (o_lde S90 rfl (lx rfl) (strV rfl)) ?_
        refine DRQ.v rfl rfl rfl (o_ldpa G130 rfl rfl rfl) ?_
        refine DRQ.v rfl rfl rfl (o_ldp S3 rfl rfl rfl) ?_
        refine DRQ.s 1 rfl rfl rfl (o_mapup (km := 1) (a := [night, p.pounds, p.tl, p.th, p.al, p.ah, p.dl, p.dh, nth left 0, nth left 1, nth left 2, nth left 3]) M90 rfl rfl isKey.g rfl rfl rfl) ?_
        refine DRQ.nil' ?_
        refine EX.then (WP.seq (WP.region ?_))
        refine WPl.v rfl (o_ldp S3 rfl rfl rfl) ?_
        refine WPl.v rfl (o_assign rfl) ?_
        refine WPl.nil (EX.then (WP.ret ?_))
        refine EX.imp (Imp.closeX (km := 1) (Kp := (MemoK f)) rfl (mset_all hmm ⟨k + 1, night, p, left, hl.1, hnt, rfl, rfl⟩)) ?_
        rw [show f.chW (k + 1) night p left = min (chRows f.shop.pigs (fun r => f.aheadOf (fun q => f.chW k (night + 1) q (takeL left r)) (night + 1) ((p.addL f.shop.pigs r).lose (nth f.nights night))) (f.chL p left) (f.chL p left).length) 1073741824 from rfl]
        exact EX.finX id 1 rfl (.inl rfl) rfl (.tmp rfl .nil) rfl (by simp [SV.res, El.res, At.res, keys]) trivial rfl (marks rfl) (by simp)
theorem w55 {n : Int} : ∀ x ∈ ([.i (n)] : List SV), x.res (keys (α := Pred) []) := by simp [SV.res, El.res, At.res, keys]
theorem r55 {n : Int} : SV.res (keys (α := Pred) []) (.e (.g [ai (n), ai (n)])) := by simp [SV.res, El.res, At.res, keys]
set_option maxHeartbeats 4000000 in
theorem c55 (n : Int)  : Sig Tryz.prog 55 [.i (n)] [] (.e (.g [ai (n), ai (n)])) [] := by
  refine Sig.intro Tryz.func55 rfl 0 [(0, .i (n))] rfl w55 rfl rfl fun I w => ?_
  refine WP.seq (WP.region ?_)
  refine WPl.l 0 1 rfl rfl rfl (o_alloc Z23) ?_
  refine WPl.nil (EX.then (WP.seq (WP.region ?_)))
  refine WPl.v rfl (o_move rfl) ?_
  refine WPl.v rfl (o_move rfl) ?_
  refine WPl.v rfl (o_build B23 rfl ⟨rfl, rfl, trivial⟩ rfl rfl) ?_
  refine WPl.s1 (o_stag G23 rfl rfl rfl ⟨rfl, rfl, trivial⟩ rfl rfl) ?_
  refine WPl.nil (EX.then (WP.ret ?_))
  exact EX.fin id (.inl rfl) rfl (.cellg G23 rfl rfl rfl (.nil)) rfl r55 trivial (by simp) (by simp)
set_option maxHeartbeats 4000000 in
theorem c28 (f : Fnd) (b : Nat) (n : Nat) (night : Int) (p : Pt) (left : List Int) (hf : f.chk = true) (hnt : night + n = f.nights.length) (hn0 : 0 ≤ night) (hp : AhB p night) (hl : bnd4 left) : SigX Tryz.prog 28 [.e (.a (.q 0)), .i (night), .e (.g [ai (p.pounds), ai (p.tl), ai (p.th), ai (p.al), ai (p.ah), ai (p.dl), ai (p.dh)]), .e (.g [ai (nth left 0), ai (nth left 1), ai (nth left 2), ai (nth left 3)])] [(0, PP (EWk (some b)) (f))] (memoXP true 12 b (MemoK f)) (.i (f.ahW n night p left)) [] := by
  have hpg := Shop.pigsOK (Fnd.shopOK hf)
  have hp4 := hpg.2
  have hn := Fnd.nightsOK hf
  have hn4 := hn.2
  have hpb := hp.1
  have hpd := hp.2
  unfold PtB at hpb
  have hcw := fun q => chW_bnd hpg n night q left hl
  refine SigX.intro memoXP.plain Tryz.func28 rfl 2 1 [(0, .e (.a (.q 0))), (1, .i (night)), (2, .e (.g [ai (p.pounds), ai (p.tl), ai (p.th), ai (p.al), ai (p.ah), ai (p.dl), ai (p.dh)])), (3, .e (.g [ai (nth left 0), ai (nth left 1), ai (nth left 2), ai (nth left 3)]))] rfl w28 rfl rfl rfl fun I w => ?_
  refine WP.seq (WP.region ?_)
  refine WPl.l 2 3 rfl rfl rfl (o_boxg rfl) ?_
  refine WPl.l 3 4 rfl rfl rfl (o_boxg rfl) ?_
  refine WPl.v rfl (o_assign rfl) ?_
  refine WPl.nil (EX.then (WP.seq (WP.seq (WP.region ?_))))
  refine WPl.v rfl (o_move rfl) ?_
  refine WPl.v rfl (o_move rfl) ?_
  refine WPl.v rfl (o_nilq rfl (lx rfl)) ?_
  refine WPl.v rfl (o_fldq F92_0 rfl (lx rfl)) ?_
  refine WPl.v rfl (o_flde F31_1 rfl (lx rfl)) ?_
  refine WPl.x 4 5 rfl rfl rfl (o_ldex S29 rfl (lx rfl) (strS rfl)) ?_
  refine WPl.v rfl (o_lenq L29 rfl (lx rfl)) ?_
  refine WPl.v rfl (o_eql rfl rfl) ?_
  refine WPl.v rfl (o_move rfl) ?_
  refine WPl.bit 5 6 (!(decide (night = (f.nights.length : Int)))) rfl rfl ?_
  refine WPl.gv 5 rfl rfl (.plain rfl (by simp) rfl) (fun hb => o_move rfl) ?_
  refine WPl.gv 5 rfl rfl (.plain rfl (by simp) rfl) (fun hb => o_nilq rfl (lx rfl)) ?_
  refine WPl.gv 5 rfl rfl (.plain rfl (by simp) rfl) (fun hb => o_fldq F92_0 rfl (lx rfl)) ?_
  refine WPl.gv 5 rfl rfl (.plain rfl (by simp) rfl) (fun hb => o_flde F31_1 rfl (lx rfl)) ?_
  refine WPl.gx 5 6 7 rfl rfl rfl rfl (.plain rfl (by simp) rfl) (fun hb => o_ldex S29 rfl (lx rfl) (strS rfl)) ?_
  refine WPl.gv 5 rfl rfl (.plain rfl (by simp) rfl) (fun hb => o_move rfl) ?_
  refine WPl.gx 5 7 8 rfl rfl rfl rfl (.plain rfl (by simp) rfl) (fun hb => have hb2 : ¬ night = f.nights.length := (by simpa using hb); o_idx L29 rfl (lxi hb rfl) rfl (by first | omega | (simp; omega)) (by first | omega | (simp; omega))) ?_
  refine WPl.gv 5 rfl rfl (.plain rfl (by simp) rfl) (fun hb => o_fldq F71_1 rfl (lxi hb rfl)) ?_
  refine WPl.gv 5 rfl rfl (.plain rfl (by simp) rfl) (fun hb => o_lde S3 rfl (lxi hb rfl) (strI rfl)) ?_
  refine WPl.gv 5 rfl rfl (.plain rfl (by simp) rfl) (fun hb => o_eql rfl rfl) ?_
  refine WPl.v rfl (o_or rfl rfl rfl (by first | (simp; done) | simp_all)) ?_
  refine WPl.nil (EX.then ?_)
  refine WP.cond rfl (fun hc1 => ?_) (fun hc1 => ?_)
  · try simp only [cnd] at hc1
    refine WP.seq (WP.region ?_)
    refine WPl.v rfl (o_move rfl) ?_
    refine WPl.v rfl (o_move rfl) ?_
    refine WPl.v rfl (o_ldpa G64 rfl rfl rfl) ?_
    refine WPl.v rfl (o_ldpa G66 rfl rfl rfl) ?_
    refine WPl.cL (X' := []) 8 rfl rfl rfl rfl rfl (o_sigx 8 (ren [(0, 0)]) 1 (c54 f b n night p left hf hnt hn0 hp.ch hl (fun k hk p left h1 h2 => c28 f b k (night + 1) p left hf (by omega) (by omega) h1 h2)) memoXP.plain e54 rfl rfl rfl SvsOK.rf w54 ⟨(lx rfl), trivial⟩ r54) ?_
    refine WPl.v rfl (o_assign rfl) ?_
    refine WPl.nil (EX.then (WP.ret (EX.ret_then ?_)))
    rw [show f.ahW n night p left = f.chW n night p left from if_pos (by simpa using hc1)]
    exact EX.finX id 1 rfl (.inl rfl) rfl (.tmp rfl .nil) rfl (by simp [SV.res, El.res, At.res, keys]) trivial rfl (by simp) (by simp)
  · try simp only [cnd] at hc1
    have hno : ¬ (night = f.nights.length ∨ (nth f.nights night).test = 0) := by simpa using hc1
    refine WP.skip (EX.then (WP.seq (WP.region ?_)))
    refine WPl.v rfl (o_assign rfl) ?_
    refine WPl.nil (EX.then (WP.seq (WP.region ?_)))
    refine WPl.v rfl (o_assign rfl) ?_
    refine WPl.nil (EX.then (WP.seq (WP.seq (WP.region ?_))))
    refine WPl.v rfl (o_fldp F64_1 rfl) ?_
    refine WPl.v rfl (o_fldp F23_0 rfl) ?_
    refine WPl.v rfl (o_ldp S3 rfl rfl rfl) ?_
    refine WPl.v rfl (o_assign rfl) ?_
    refine WPl.nil (EX.then (WP.block ?_))
    refine WP.loop (Gh := Nat) (fun i => ⟨8, [(0, .e (.a (.q 0))), (1, .i (night)), (6, .e (.a (.p 2 (0)))), (7, .e (.a (.p 3 (0)))), (8, .i (0)), (9, .i (wi3 (fun t a d => f.chW n night (p.one t a d) left) (⟨p.tl, p.th, p.al, p.ah, p.dl, p.dh⟩ : Sp) i)), (10, .e (.a (.f 55 []))), (11, .i (p.tl + (i : Int)))], [(0, PP (EWk (some b)) (f))], [(1, .ext (memoXP true 12 b (MemoK f))), (2, .blk [ai (p.pounds), ai (p.tl), ai (p.th), ai (p.al), ai (p.ah), ai (p.dl), ai (p.dh)] 64), (3, .blk [ai (nth left 0), ai (nth left 1), ai (nth left 2), ai (nth left 3)] 66)], [], []⟩) (fun i => i ≤ (p.th - p.tl + 1).toNat) (fun i => (p.th - p.tl + 1).toNat - i) (0) id ?_ (LeR.of ⟨rfl, rfl, rfl, rfl, rfl, rfl, rfl, (congrArg (fun z => some (SV.i z)) (show (p.tl) = ((fun i => p.tl + (i : Int)) 0) from by simp)), trivial⟩ ⟨(lx rfl), trivial⟩ ⟨rfl, rfl, rfl, trivial⟩ rfl rfl rfl rfl rfl) ?_
    · first | trivial | omega | (constructor <;> omega) | simp
    intro i hφ
    have hi : i ≤ (p.th - p.tl + 1).toNat := hφ
    refine WP.seq (WP.seq (WP.region ?_))
    refine WPl.v rfl (o_move rfl) ?_
    refine WPl.v rfl (o_fldp F64_1 rfl) ?_
    refine WPl.v rfl (o_fldp F23_1 rfl) ?_
    refine WPl.v rfl (o_ldp S3 rfl rfl rfl) ?_
    refine WPl.v rfl (o_leq rfl rfl) ?_
    refine WPl.nil (EX.then ?_)
    refine WP.cond rfl (fun hc2 => ?_) (fun hc2 => ?_)
    · try simp only [cnd] at hc2
      refine WP.skip (EX.then (WP.seq (WP.block (WP.seq (WP.region ?_)))))
      refine WPl.v rfl (o_fldp F64_2 rfl) ?_
      refine WPl.v rfl (o_fldp F23_0 rfl) ?_
      refine WPl.v rfl (o_ldp S3 rfl rfl rfl) ?_
      refine WPl.v rfl (o_assign rfl) ?_
      refine WPl.nil (EX.then (WP.block ?_))
      refine WP.loop (Gh := Nat) (fun j => ⟨8, [(0, .e (.a (.q 0))), (1, .i (night)), (6, .e (.a (.p 2 (0)))), (7, .e (.a (.p 3 (0)))), (8, .i (0)), (9, .i (wj3 (fun t a d => f.chW n night (p.one t a d) left) (⟨p.tl, p.th, p.al, p.ah, p.dl, p.dh⟩ : Sp) (p.tl + (i : Int)) (wi3 (fun t a d => f.chW n night (p.one t a d) left) (⟨p.tl, p.th, p.al, p.ah, p.dl, p.dh⟩ : Sp) i) j)), (10, .e (.a (.f 55 []))), (11, .i (p.tl + (i : Int))), (42, .i (p.tl + (i : Int))), (43, .e (.a (.p 2 (1)))), (44, .e (.a (.p 2 (2)))), (45, .i (p.th)), (46, .b (decide ((p.tl + (i : Int)) ≤ p.th))), (49, .e (.a (.p 2 (3)))), (50, .e (.a (.p 2 (3)))), (51, .i (p.al)), (12, .i (p.al + (j : Int)))], [(0, PP (EWk (some b)) (f))], [(1, .ext (memoXP true 12 b (MemoK f))), (2, .blk [ai (p.pounds), ai (p.tl), ai (p.th), ai (p.al), ai (p.ah), ai (p.dl), ai (p.dh)] 64), (3, .blk [ai (nth left 0), ai (nth left 1), ai (nth left 2), ai (nth left 3)] 66)], [], []⟩) (fun j => j ≤ (p.ah - p.al + 1).toNat) (fun j => (p.ah - p.al + 1).toNat - j) (0) id ?_ (LeR.of ⟨rfl, rfl, rfl, rfl, rfl, rfl, rfl, rfl, rfl, rfl, rfl, rfl, rfl, rfl, rfl, rfl, (congrArg (fun z => some (SV.i z)) (show (p.al) = ((fun j => p.al + (j : Int)) 0) from by simp)), trivial⟩ ⟨(lx rfl), trivial⟩ ⟨rfl, rfl, rfl, trivial⟩ rfl rfl rfl rfl rfl) ?_
      · first | trivial | omega | (constructor <;> omega) | simp
      intro j hφ
      have hj : j ≤ (p.ah - p.al + 1).toNat := hφ
      refine WP.seq (WP.seq (WP.region ?_))
      refine WPl.v rfl (o_move rfl) ?_
      refine WPl.v rfl (o_fldp F64_2 rfl) ?_
      refine WPl.v rfl (o_fldp F23_1 rfl) ?_
      refine WPl.v rfl (o_ldp S3 rfl rfl rfl) ?_
      refine WPl.v rfl (o_leq rfl rfl) ?_
      refine WPl.nil (EX.then ?_)
      refine WP.cond rfl (fun hc3 => ?_) (fun hc3 => ?_)
      · try simp only [cnd] at hc3
        refine WP.skip (EX.then (WP.seq (WP.block (WP.seq (WP.region ?_)))))
        refine WPl.v rfl (o_fldp F64_3 rfl) ?_
        refine WPl.v rfl (o_fldp F23_0 rfl) ?_
        refine WPl.v rfl (o_ldp S3 rfl rfl rfl) ?_
        refine WPl.v rfl (o_assign rfl) ?_
        refine WPl.nil (EX.then (WP.block ?_))
        refine WP.loop (Gh := Nat) (fun k => ⟨8, [(0, .e (.a (.q 0))), (1, .i (night)), (6, .e (.a (.p 2 (0)))), (7, .e (.a (.p 3 (0)))), (8, .i (0)), (9, .i (wk3 (fun t a d => f.chW n night (p.one t a d) left) (⟨p.tl, p.th, p.al, p.ah, p.dl, p.dh⟩ : Sp) (p.tl + (i : Int)) (p.al + (j : Int)) (wj3 (fun t a d => f.chW n night (p.one t a d) left) (⟨p.tl, p.th, p.al, p.ah, p.dl, p.dh⟩ : Sp) (p.tl + (i : Int)) (wi3 (fun t a d => f.chW n night (p.one t a d) left) (⟨p.tl, p.th, p.al, p.ah, p.dl, p.dh⟩ : Sp) i) j) k)), (10, .e (.a (.f 55 []))), (11, .i (p.tl + (i : Int))), (42, .i (p.tl + (i : Int))), (43, .e (.a (.p 2 (1)))), (44, .e (.a (.p 2 (2)))), (45, .i (p.th)), (46, .b (decide ((p.tl + (i : Int)) ≤ p.th))), (49, .e (.a (.p 2 (3)))), (50, .e (.a (.p 2 (3)))), (51, .i (p.al)), (12, .i (p.al + (j : Int))), (52, .i (p.al + (j : Int))), (53, .e (.a (.p 2 (3)))), (54, .e (.a (.p 2 (4)))), (55, .i (p.ah)), (56, .b (decide ((p.al + (j : Int)) ≤ p.ah))), (59, .e (.a (.p 2 (5)))), (60, .e (.a (.p 2 (5)))), (61, .i (p.dl)), (13, .i (p.dl + (k : Int)))], [(0, PP (EWk (some b)) (f))], [(1, .ext (memoXP true 12 b (MemoK f))), (2, .blk [ai (p.pounds), ai (p.tl), ai (p.th), ai (p.al), ai (p.ah), ai (p.dl), ai (p.dh)] 64), (3, .blk [ai (nth left 0), ai (nth left 1), ai (nth left 2), ai (nth left 3)] 66)], [], []⟩) (fun k => k ≤ (p.dh - p.dl + 1).toNat) (fun k => (p.dh - p.dl + 1).toNat - k) (0) id ?_ (LeR.of ⟨rfl, rfl, rfl, rfl, rfl, rfl, rfl, rfl, rfl, rfl, rfl, rfl, rfl, rfl, rfl, rfl, rfl, rfl, rfl, rfl, rfl, rfl, rfl, rfl, rfl, (congrArg (fun z => some (SV.i z)) (show (p.dl) = ((fun k => p.dl + (k : Int)) 0) from by simp)), trivial⟩ ⟨(lx rfl), trivial⟩ ⟨rfl, rfl, rfl, trivial⟩ rfl rfl rfl rfl rfl) ?_
        · first | trivial | omega | (constructor <;> omega) | simp
        intro k hφ
        have hk : k ≤ (p.dh - p.dl + 1).toNat := hφ
        refine WP.seq (WP.seq (WP.region ?_))
        refine WPl.v rfl (o_move rfl) ?_
        refine WPl.v rfl (o_fldp F64_3 rfl) ?_
        refine WPl.v rfl (o_fldp F23_1 rfl) ?_
        refine WPl.v rfl (o_ldp S3 rfl rfl rfl) ?_
        refine WPl.v rfl (o_leq rfl rfl) ?_
        refine WPl.nil (EX.then ?_)
        refine WP.cond rfl (fun hc4 => ?_) (fun hc4 => ?_)
        · try simp only [cnd] at hc4
          refine WP.skip (EX.then (WP.seq (WP.block ?_)))
          refine WP.draw (nf := 8) [⟨[70, 71, 72, 73, 74, 75, 76, 77, 78, 79, 80, 81, 82, 83, 84, 85, 86], [1], [], [], []⟩, ⟨[69, 71, 72, 73, 74, 75, 76, 77, 78, 79, 80, 81, 82, 83, 84, 85], [], [], [], []⟩, ⟨[69, 70, 72, 73, 74, 75, 76, 77, 78, 79, 80, 81, 82, 83, 84, 85], [], [], [], []⟩, ⟨[69, 70, 71, 74, 76, 77, 78, 79, 80, 81, 82, 83, 85], [], [], [], []⟩, ⟨[69, 70, 71, 74, 76, 77, 78, 79, 80, 81, 82, 83, 85], [], [], [], [3]⟩, ⟨[69, 70, 71, 72, 73, 76, 77, 78, 79, 80, 81, 82, 83, 85], [], [], [], []⟩, ⟨[69, 70, 71, 76, 77, 78, 79, 80, 81, 82, 83, 85], [], [], [], [3, 4, 5]⟩, ⟨[69, 70, 71, 72, 73, 74, 75, 77, 78, 79, 81, 82, 85], [], [], [], []⟩, ⟨[69, 70, 71, 72, 73, 74, 75, 76, 78, 81, 82, 85], [], [], [], []⟩, ⟨[69, 70, 71, 72, 73, 74, 75, 76, 77, 81, 82, 85], [], [], [], []⟩, ⟨[69, 70, 71, 72, 73, 74, 75, 76, 81, 82, 85], [], [], [], [8, 9]⟩, ⟨[69, 70, 71, 72, 73, 74, 75, 81, 82, 85], [], [], [], [7, 8, 9, 10]⟩, ⟨[69, 70, 71, 72, 73, 74, 75, 76, 77, 78, 79, 80, 82, 85], [], [], [], []⟩, ⟨[69, 70, 71, 72, 73, 74, 75, 76, 77, 78, 79, 80, 81, 85], [], [], [], []⟩, ⟨[69, 70, 71, 72, 73, 74, 75, 85], [], [], [], [7, 8, 9, 10, 11, 12, 13]⟩, ⟨[69, 70, 71, 85], [], [], [], [3, 4, 5, 6, 7, 8, 9, 10, 11, 12, 13, 14]⟩, ⟨[69, 70, 71, 72, 73, 74, 75, 76, 77, 78, 79, 80, 81, 82, 83, 84], [], [], [], []⟩, ⟨[69], [], [], [1], [1, 2, 3, 4, 5, 6, 7, 8, 9, 10, 11, 12, 13, 14, 15, 16]⟩, ⟨[], [], [], [], [0, 1, 2, 3, 4, 5, 6, 7, 8, 9, 10, 11, 12, 13, 14, 15, 16, 17]⟩, ⟨[], [], [], [], [0, 1, 2, 3, 4, 5, 6, 7, 8, 9, 10, 11, 12, 13, 14, 15, 16, 17, 18]⟩] (by kernel_rfl) (by kernel_rfl) ?_
          refine DRQ.v rfl rfl rfl (o_move rfl) ?_
          refine DRQ.v rfl rfl rfl (o_move rfl) ?_
          refine DRQ.v rfl rfl rfl (o_move rfl) ?_
          refine DRQ.v rfl rfl rfl (o_fldp F64_0 rfl) ?_
          refine DRQ.v rfl rfl rfl (o_ldp S3 rfl rfl rfl) ?_
          refine DRQ.v rfl rfl rfl (o_move rfl) ?_
          refine DRQ.v rfl rfl rfl (o_sub rfl rfl (by first | omega | (simp; omega)) (by first | omega | (simp; omega))) ?_
          refine DRQ.v rfl rfl rfl (o_move rfl) ?_
          refine DRQ.v rfl rfl rfl (o_move rfl) ?_
          refine DRQ.v rfl rfl rfl (o_move rfl) ?_
          refine DRQ.v rfl rfl rfl (o_sub rfl rfl (by first | omega | (simp; omega)) (by first | omega | (simp; omega))) ?_
          refine DRQ.cs rfl rfl rfl rfl (o_sigt rfl 8 id (c55 ((p.tl + (i : Int)) - (p.dl + (k : Int)))) e55 rfl rfl rfl w55 trivial r55) ?_
          refine DRQ.v rfl rfl rfl (o_move rfl) ?_
          refine DRQ.v rfl rfl rfl (o_move rfl) ?_
          refine DRQ.cs rfl rfl rfl rfl (o_sigt rfl 8 id (c55 (p.al + (j : Int))) e55 rfl rfl rfl w55 trivial r55) ?_
          refine DRQ.v rfl rfl rfl (o_build B64 rfl ⟨rfl, trivial⟩ rfl rfl) ?_
          refine DRQ.v rfl rfl rfl (o_ldpa G66 rfl rfl rfl) ?_
          refine DRQ.cL (X' := []) rfl rfl rfl rfl (o_sigx 8 (ren [(0, 0)]) 1 (c54 f b n night (p.one (p.tl + (i : Int)) (p.al + (j : Int)) (p.dl + (k : Int))) left hf hnt hn0 (hp.one hn0 (by omega) (by omega) (by omega) (by omega) (by omega) (by omega) (by omega)) hl (fun k hk p left h1 h2 => c28 f b k (night + 1) p left hf (by omega) (by omega) h1 h2)) memoXP.plain e54 rfl rfl rfl SvsOK.rf w54 ⟨(lx rfl), trivial⟩ r54) ?_
          refine DRQ.v rfl rfl rfl (o_max rfl rfl) ?_
          refine DRQ.v rfl rfl rfl (o_assign rfl) ?_
          refine DRQ.nil' ?_
          refine EX.blk (EX.then (WP.region ?_))
          refine WPl.v rfl (o_move rfl) ?_
          refine WPl.v rfl (o_add rfl rfl (by first | omega | (simp; omega)) (by first | omega | (simp; omega))) ?_
          refine WPl.v rfl (o_assign rfl) ?_
          refine WPl.nil ?_
          refine EX.again (k + 1) id (by first | omega | (constructor <;> omega)) (by omega) (LeR.of ⟨rfl, rfl, rfl, rfl, rfl, (congrArg (fun z => some (SV.i z)) (show (max (wk3 (fun t a d => f.chW n night (p.one t a d) left) (⟨p.tl, p.th, p.al, p.ah, p.dl, p.dh⟩ : Sp) (p.tl + (i : Int)) (p.al + (j : Int)) (wj3 (fun t a d => f.chW n night (p.one t a d) left) (⟨p.tl, p.th, p.al, p.ah, p.dl, p.dh⟩ : Sp) (p.tl + (i : Int)) (wi3 (fun t a d => f.chW n night (p.one t a d) left) (⟨p.tl, p.th, p.al, p.ah, p.dl, p.dh⟩ : Sp) i) j) k) (f.chW n night (p.one (p.tl + (i : Int)) (p.al + (j : Int)) (p.dl + (k : Int))) left)) = ((fun k => wk3 (fun t a d => f.chW n night (p.one t a d) left) (⟨p.tl, p.th, p.al, p.ah, p.dl, p.dh⟩ : Sp) (p.tl + (i : Int)) (p.al + (j : Int)) (wj3 (fun t a d => f.chW n night (p.one t a d) left) (⟨p.tl, p.th, p.al, p.ah, p.dl, p.dh⟩ : Sp) (p.tl + (i : Int)) (wi3 (fun t a d => f.chW n night (p.one t a d) left) (⟨p.tl, p.th, p.al, p.ah, p.dl, p.dh⟩ : Sp) i) j) k) (k + 1)) from rfl)), rfl, rfl, rfl, rfl, rfl, rfl, rfl, rfl, rfl, rfl, rfl, rfl, rfl, rfl, rfl, rfl, rfl, rfl, rfl, (congrArg (fun z => some (SV.i z)) (show ((p.dl + (k : Int)) + 1) = ((fun k => p.dl + (k : Int)) (k + 1)) from by show p.dl + (k : Int) + 1 = p.dl + ((k + 1 : Nat) : Int); omega)), trivial⟩ ⟨(lx rfl), trivial⟩ ⟨rfl, rfl, rfl, trivial⟩ rfl rfl rfl rfl rfl)
        · try simp only [cnd] at hc4
          refine WP.exit (EX.exit_then (EX.exit_then (EX.exit_blk (EX.blk (EX.then (WP.region ?_))))))
          refine WPl.v rfl (o_move rfl) ?_
          refine WPl.v rfl (o_add rfl rfl (by first | omega | (simp; omega)) (by first | omega | (simp; omega))) ?_
          refine WPl.v rfl (o_assign rfl) ?_
          refine WPl.nil ?_
          refine EX.again (j + 1) id (by first | omega | (constructor <;> omega)) (by omega) (LeR.of ⟨rfl, rfl, rfl, rfl, rfl, (congrArg (fun z => some (SV.i z)) (show (wk3 (fun t a d => f.chW n night (p.one t a d) left) (⟨p.tl, p.th, p.al, p.ah, p.dl, p.dh⟩ : Sp) (p.tl + (i : Int)) (p.al + (j : Int)) (wj3 (fun t a d => f.chW n night (p.one t a d) left) (⟨p.tl, p.th, p.al, p.ah, p.dl, p.dh⟩ : Sp) (p.tl + (i : Int)) (wi3 (fun t a d => f.chW n night (p.one t a d) left) (⟨p.tl, p.th, p.al, p.ah, p.dl, p.dh⟩ : Sp) i) j) k) = ((fun j => wj3 (fun t a d => f.chW n night (p.one t a d) left) (⟨p.tl, p.th, p.al, p.ah, p.dl, p.dh⟩ : Sp) (p.tl + (i : Int)) (wi3 (fun t a d => f.chW n night (p.one t a d) left) (⟨p.tl, p.th, p.al, p.ah, p.dl, p.dh⟩ : Sp) i) j) (j + 1)) from by rw [show k = (p.dh - p.dl + 1).toNat by omega]; rfl)), rfl, rfl, rfl, rfl, rfl, rfl, rfl, rfl, rfl, rfl, (congrArg (fun z => some (SV.i z)) (show ((p.al + (j : Int)) + 1) = ((fun j => p.al + (j : Int)) (j + 1)) from by show p.al + (j : Int) + 1 = p.al + ((j + 1 : Nat) : Int); omega)), trivial⟩ ⟨(lx rfl), trivial⟩ ⟨rfl, rfl, rfl, trivial⟩ rfl rfl rfl rfl rfl)
      · try simp only [cnd] at hc3
        refine WP.exit (EX.exit_then (EX.exit_then (EX.exit_blk (EX.blk (EX.then (WP.region ?_))))))
        refine WPl.v rfl (o_move rfl) ?_
        refine WPl.v rfl (o_add rfl rfl (by first | omega | (simp; omega)) (by first | omega | (simp; omega))) ?_
        refine WPl.v rfl (o_assign rfl) ?_
        refine WPl.nil ?_
        refine EX.again (i + 1) id (by first | omega | (constructor <;> omega)) (by omega) (LeR.of ⟨rfl, rfl, rfl, rfl, rfl, (congrArg (fun z => some (SV.i z)) (show (wj3 (fun t a d => f.chW n night (p.one t a d) left) (⟨p.tl, p.th, p.al, p.ah, p.dl, p.dh⟩ : Sp) (p.tl + (i : Int)) (wi3 (fun t a d => f.chW n night (p.one t a d) left) (⟨p.tl, p.th, p.al, p.ah, p.dl, p.dh⟩ : Sp) i) j) = ((fun i => wi3 (fun t a d => f.chW n night (p.one t a d) left) (⟨p.tl, p.th, p.al, p.ah, p.dl, p.dh⟩ : Sp) i) (i + 1)) from by rw [show j = (p.ah - p.al + 1).toNat by omega]; rfl)), rfl, (congrArg (fun z => some (SV.i z)) (show ((p.tl + (i : Int)) + 1) = ((fun i => p.tl + (i : Int)) (i + 1)) from by show p.tl + (i : Int) + 1 = p.tl + ((i + 1 : Nat) : Int); omega)), trivial⟩ ⟨(lx rfl), trivial⟩ ⟨rfl, rfl, rfl, trivial⟩ rfl rfl rfl rfl rfl)
    · try simp only [cnd] at hc2
      refine WP.exit (EX.exit_then (EX.exit_then (EX.exit_blk (EX.then (WP.seq (WP.region ?_))))))
      refine WPl.v rfl (o_move rfl) ?_
      refine WPl.v rfl (o_assign rfl) ?_
      refine WPl.nil (EX.then (WP.ret ?_))
      have he : i = (p.th - p.tl + 1).toNat := by omega
      subst he
      rw [show f.ahW n night p left = wi3 (fun t a d => f.chW n night (p.one t a d) left) (⟨p.tl, p.th, p.al, p.ah, p.dl, p.dh⟩ : Sp) (p.th - p.tl + 1).toNat from by unfold Fnd.ahW Fnd.aheadOf; rw [if_neg hno]; rfl]
      exact EX.finX id 1 rfl (.inl rfl) rfl (.tmp rfl .nil) rfl (by simp [SV.res, El.res, At.res, keys]) trivial rfl (by simp) (by simp)
termination_by n
decreasing_by all_goals omega
theorem w9 {f : Fnd} : ∀ x ∈ ([.e (.g [ai (f.shop.pounds), ai (f.shop.tl), ai (f.shop.th), ai (f.shop.al), ai (f.shop.ah), ai (f.shop.room), ai (f.shop.tpl), ai (f.shop.tph), ai (f.shop.apl), ai (f.shop.aph), .q 0, .q 1])] : List SV), x.res (keys (α := Pred) [(0, PL EPig (f.shop.pigs)), (1, PL ENight (f.nights))]) := by simp [SV.res, El.res, At.res, keys]
theorem r9 {f : Fnd} : SV.res (keys (α := Pred) []) (.t [.a (ai (f.wKnownV)), .a (ai (f.wKnownE))]) := by simp [SV.res, El.res, At.res, keys]
set_option maxHeartbeats 4000000 in
theorem c9 (f : Fnd) (hl : f.shop.pigs.length ≤ 40) : Sig Tryz.prog 9 [.e (.g [ai (f.shop.pounds), ai (f.shop.tl), ai (f.shop.th), ai (f.shop.al), ai (f.shop.ah), ai (f.shop.room), ai (f.shop.tpl), ai (f.shop.tph), ai (f.shop.apl), ai (f.shop.aph), .q 0, .q 1])] [(0, PL EPig (f.shop.pigs)), (1, PL ENight (f.nights))] (.t [.a (ai (f.wKnownV)), .a (ai (f.wKnownE))]) [] := by
  rcases Bool.eq_false_or_eq_true f.chk with hf | hf
  · skip
    refine Sig.intro Tryz.func9 rfl 2 [(0, .e (.g [ai (f.shop.pounds), ai (f.shop.tl), ai (f.shop.th), ai (f.shop.al), ai (f.shop.ah), ai (f.shop.room), ai (f.shop.tpl), ai (f.shop.tph), ai (f.shop.apl), ai (f.shop.aph), .q 0, .q 1]))] rfl w9 rfl rfl fun I w => ?_
    refine WP.seq (WP.region ?_)
    refine WPl.l 2 3 rfl rfl rfl (o_boxg rfl) ?_
    refine WPl.v rfl (o_assign rfl) ?_
    refine WPl.v rfl (o_assign rfl) ?_
    refine WPl.nil (EX.then (WP.seq (WP.region ?_)))
    refine WPl.v rfl (o_ldpa G31 rfl rfl rfl) ?_
    refine WPl.cM 5 (o_sigm (J := [0]) 3 4 (ren [(0, 0), (1, 1)]) (c26N f hf) e26 rfl rfl SvsOK.rf w26N ⟨(lx rfl), (lx rfl), trivial⟩ (fun _ => rfl) (by simp [SV.res, El.res, At.res, keys]) rfl) rfl rfl rfl fun b11 => ?_
    refine WPl.v rfl (o_move rfl) ?_
    refine WPl.v rfl (o_extract rfl rfl) ?_
    refine WPl.v rfl (o_extract rfl rfl) ?_
    refine WPl.v rfl (o_assign rfl) ?_
    refine WPl.v rfl (o_assign rfl) ?_
    refine WPl.nil (EX.then (WP.seq (WP.seq (WP.region ?_))))
    refine WPl.v rfl (o_move rfl) ?_
    refine WPl.v rfl (o_neq rfl rfl) ?_
    refine WPl.nil (EX.then ?_)
    refine WP.cond rfl (fun hc1 => ?_) (fun hc1 => ?_)
    · try simp only [cnd] at hc1
      simp at hc1
    · try simp only [cnd] at hc1
      have hcb := Fnd.chkB hf
      have hpg := Shop.pigsOK (Fnd.shopOK hf)
      refine WP.imp (Imp.closeX (km := 4) (Kp := (MemoK f)) rfl (fun p hp => by cases hp)) ?_
      refine WP.skip (EX.then (WP.seq (WP.region ?_)))
      refine WPl.v rfl (o_move rfl) ?_
      refine WPl.cs 5 rfl rfl rfl rfl (o_sig 5 (ren [(0, 3)]) (c27 f (some b11) (by omega)) e27 rfl rfl rfl w27 ⟨(lx rfl), trivial⟩ r27) ?_
      refine WPl.v rfl (o_move rfl) ?_
      refine WPl.v rfl (o_extract rfl rfl) ?_
      refine WPl.v rfl (o_extract rfl rfl) ?_
      refine WPl.l 5 6 rfl rfl rfl (o_alloc Z64) ?_
      refine WPl.l 6 7 rfl rfl rfl (o_alloc Z66) ?_
      refine WPl.s1 (o_stag G64 rfl rfl rfl ⟨rfl, rfl, rfl, rfl, rfl, rfl, rfl, trivial⟩ rfl rfl) ?_
      refine WPl.s1 (o_stag G66 rfl rfl rfl ⟨rfl, rfl, rfl, rfl, trivial⟩ rfl rfl) ?_
      refine WPl.nil (EX.then (WP.seq (WP.region ?_)))
      refine WPl.v rfl (o_move rfl) ?_
      refine WPl.v rfl (o_ldpa G64 rfl rfl rfl) ?_
      refine WPl.v rfl (o_ldpa G66 rfl rfl rfl) ?_
      refine WPl.cL (X' := []) 7 rfl rfl rfl rfl rfl (o_sigx 7 (ren [(0, 3)]) 4 (c28 f b11 f.nights.length 0 f.pt0 (left0 f.shop.pigs) hf (by omega) (by omega) ⟨PtB.mono (pt0_bnd hf) (by omega), by simp [Fnd.pt0], by simp [Fnd.pt0]⟩ (left0_b hpg)) memoXP.plain e28 rfl rfl rfl SvsOK.rf w28 ⟨(lx rfl), trivial⟩ r28) ?_
      refine WPl.v rfl (o_assign rfl) ?_
      refine WPl.nil (EX.then (WP.seq (WP.seq (WP.region ?_))))
      refine WPl.v rfl (o_move rfl) ?_
      refine WPl.v rfl (o_geq rfl rfl) ?_
      refine WPl.nil (EX.then ?_)
      refine WP.cond rfl (fun hc2 => ?_) (fun hc2 => ?_)
      · try simp only [cnd] at hc2
        have hkn : f.wKnownN ≥ neverC := hc2
        refine WP.seq (WP.region ?_)
        refine WPl.v rfl (o_assign rfl) ?_
        refine WPl.v rfl (o_assign rfl) ?_
        refine WPl.nil (EX.then (WP.ret (EX.ret_then ?_)))
        have hE : f.wKnownE = 3 := by simp only [Fnd.wKnownE, hf]; rw [if_pos hkn]; rfl
        rw [hE, show f.wKnownV = 0 from by simp [Fnd.wKnownV, hE]]
        exact EX.fin id (.inl rfl) rfl (.tmp rfl (.tmp rfl .nil)) rfl (by simp [SV.res, El.res, At.res, keys]) trivial (by simp) (by simp)
      · try simp only [cnd] at hc2
        have hkn : ¬ f.wKnownN ≥ neverC := hc2
        refine WP.skip (EX.then (WP.seq (WP.region ?_)))
        refine WPl.v rfl (o_move rfl) ?_
        refine WPl.v rfl (o_assign rfl) ?_
        refine WPl.v rfl (o_assign rfl) ?_
        refine WPl.nil (EX.then (WP.ret ?_))
        have hE : f.wKnownE = 0 := by simp only [Fnd.wKnownE, hf]; rw [if_neg hkn]; rfl
        rw [hE, show f.wKnownV = f.wKnownN from by simp [Fnd.wKnownV, hE]]
        exact EX.fin id (.inl rfl) rfl (.tmp rfl (.tmp rfl .nil)) rfl (by simp [SV.res, El.res, At.res, keys]) trivial (by simp) (by simp)
  · skip
    refine Sig.intro Tryz.func9 rfl 2 [(0, .e (.g [ai (f.shop.pounds), ai (f.shop.tl), ai (f.shop.th), ai (f.shop.al), ai (f.shop.ah), ai (f.shop.room), ai (f.shop.tpl), ai (f.shop.tph), ai (f.shop.apl), ai (f.shop.aph), .q 0, .q 1]))] rfl w9 rfl rfl fun I w => ?_
    refine WP.seq (WP.region ?_)
    refine WPl.l 2 3 rfl rfl rfl (o_boxg rfl) ?_
    refine WPl.v rfl (o_assign rfl) ?_
    refine WPl.v rfl (o_assign rfl) ?_
    refine WPl.nil (EX.then (WP.seq (WP.region ?_)))
    refine WPl.v rfl (o_ldpa G31 rfl rfl rfl) ?_
    refine WPl.cs 3 rfl rfl rfl rfl (o_sig 3 (ren [(0, 0), (1, 1)]) (c26NE f hf hl) e26 rfl rfl rfl w26NE ⟨(lx rfl), (lx rfl), trivial⟩ r26NE) ?_
    refine WPl.v rfl (o_move rfl) ?_
    refine WPl.v rfl (o_extract rfl rfl) ?_
    refine WPl.v rfl (o_extract rfl rfl) ?_
    refine WPl.v rfl (o_assign rfl) ?_
    refine WPl.v rfl (o_assign rfl) ?_
    refine WPl.nil (EX.then (WP.seq (WP.seq (WP.region ?_))))
    refine WPl.v rfl (o_move rfl) ?_
    refine WPl.v rfl (o_neq rfl rfl) ?_
    refine WPl.nil (EX.then ?_)
    refine WP.cond rfl (fun hc1 => ?_) (fun hc1 => ?_)
    · try simp only [cnd] at hc1
      refine WP.seq (WP.region ?_)
      refine WPl.v rfl (o_move rfl) ?_
      refine WPl.v rfl (o_assign rfl) ?_
      refine WPl.v rfl (o_assign rfl) ?_
      refine WPl.nil (EX.then (WP.ret (EX.ret_then ?_)))
      have hE : f.wKnownE = 130 := by simp only [Fnd.wKnownE, hf]; rfl
      rw [hE, show f.wKnownV = 0 from by simp [Fnd.wKnownV, hE]]
      exact EX.fin id (.inl rfl) rfl (.tmp rfl (.tmp rfl .nil)) rfl (by simp [SV.res, El.res, At.res, keys]) trivial (by simp) (by simp)
    · try simp only [cnd] at hc1
      simp at hc1
end Go.Flong
namespace Go.Eng
open Go
section
variable {cx : Cx} {Q : Exit → Act → World → Prop} {ops : Array Oper} {n : Nat} {fr : List (Nat × SV)} {X : List (Nat × Pred)} {L : List (Nat × Ent)} {D : List Nat} {G : List (Nat × Bool)} {rest : List Oper} {dst : Option Tmp} {op : Op} {ty : TypeId} {pos : String} {af : Array Edge} {gd : Option (Nat × Bool)}
theorem WPl.ung (hg : GOK ops fr gd true) (K : WPl cx ops ⟨n, fr, X, L, D, G⟩ (⟨dst, op, ty, pos, af, none⟩ :: rest) Q) : WPl cx ops ⟨n, fr, X, L, D, G⟩ (⟨dst, op, ty, pos, af, gd⟩ :: rest) Q := by
  intro ε I a w hs
  have h := K ε I a w hs
  have h1 : Region.wanted (⟨dst, op, ty, pos, af, none⟩ : Oper) (yielded ops a.tmps) = true := rfl
  have h2 : Region.wanted (⟨dst, op, ty, pos, af, gd⟩ : Oper) (yielded ops a.tmps) = true := GOK.wanted (o := ⟨dst, op, ty, pos, af, gd⟩) hs hg
  simp only [wpListIn] at h ⊢
  rw [if_pos h1] at h
  rw [if_pos h2]
  exact h
end
end Go.Eng
namespace Go.Flong
open Go Go.Eng Go.Proofs
theorem e64 : Enters' Tryz.prog 64 := Tryz.call64
theorem e19 : Enters' Tryz.prog 19 := Tryz.call19
theorem e34 : Enters' Tryz.prog 34 := Tryz.call34
theorem e13 : Enters' Tryz.prog 13 := Tryz.call13
theorem B25 : BldT Tryz.prog 25 [(0, 1), (1, 2), (3, 2)] [.int .i64 0, .int .i64 0, .int .i64 0, .int .i64 0, .int .i64 0] := BldT.mk (ns := [1, 2, 2]) Tryz.underlying25 ⟨Tryz.sizeOf3, Tryz.sizeOf23, Tryz.sizeOf23, trivial⟩ rfl Tryz.zeroValue25 rfl
theorem B84 : BldT Tryz.prog 84 [(0, 1), (1, 1), (2, 1), (3, 1), (4, 1)] [.int .i64 0, .int .i64 0, .int .i64 0, .int .i64 0, .int .i64 0] := BldT.mk (ns := [1, 1, 1, 1, 1]) Tryz.underlying84 ⟨Tryz.sizeOf3, Tryz.sizeOf3, Tryz.sizeOf3, Tryz.sizeOf3, Tryz.sizeOf3, trivial⟩ rfl Tryz.zeroValue84 rfl
theorem B28 : BldT Tryz.prog 28 [(0, 5), (5, 1), (6, 2), (8, 2), (10, 1)] [.int .i64 0, .int .i64 0, .int .i64 0, .int .i64 0, .int .i64 0, .int .i64 0, .int .i64 0, .int .i64 0, .int .i64 0, .int .i64 0, .slice none 0 0] := BldT.mk (ns := [5, 1, 2, 2, 1]) Tryz.underlying28 ⟨Tryz.sizeOf25, Tryz.sizeOf3, Tryz.sizeOf23, Tryz.sizeOf23, Tryz.sizeOf26, trivial⟩ rfl Tryz.zeroValue28 rfl
theorem B71 : BldT Tryz.prog 71 [(0, 2), (2, 1)] [.int .i64 0, .int .i64 0, .int .i64 0] := BldT.mk (ns := [2, 1]) Tryz.underlying71 ⟨Tryz.sizeOf23, Tryz.sizeOf3, trivial⟩ rfl Tryz.zeroValue71 rfl
theorem e10 : Enters' Tryz.prog 10 := Tryz.call10
theorem e14 : Enters' Tryz.prog 14 := Tryz.call14
theorem e15 : Enters' Tryz.prog 15 := Tryz.call15
theorem e16 : Enters' Tryz.prog 16 := Tryz.call16
theorem e17 : Enters' Tryz.prog 17 := Tryz.call17
theorem e9 : Enters' Tryz.prog 9 := Tryz.call9
theorem e7 : Enters' Tryz.prog 7 := Tryz.call7
theorem e18 : Enters' Tryz.prog 18 := Tryz.call18
theorem e20 : Enters' Tryz.prog 20 := Tryz.call20
theorem w64 {s : Shop} : ∀ x ∈ ([.e (.g [ai (s.pounds), ai (s.tl), ai (s.th), ai (s.al), ai (s.ah), ai (s.room), ai (s.tpl), ai (s.tph), ai (s.apl), ai (s.aph), .q 0])] : List SV), x.res (keys (α := Pred) [(0, PL EPig (s.pigs))]) := by simp [SV.res, El.res, At.res, keys]
theorem r64 {s : Shop} : SV.res (keys (α := Pred) []) (.b (hugeS s)) := by simp [SV.res, El.res, At.res, keys]
set_option maxHeartbeats 4000000 in
theorem c64 (s : Shop)  : Sig Tryz.prog 64 [.e (.g [ai (s.pounds), ai (s.tl), ai (s.th), ai (s.al), ai (s.ah), ai (s.room), ai (s.tpl), ai (s.tph), ai (s.apl), ai (s.aph), .q 0])] [(0, PL EPig (s.pigs))] (.b (hugeS s)) [] := by
  refine Sig.intro Tryz.func64 rfl 1 [(0, .e (.g [ai (s.pounds), ai (s.tl), ai (s.th), ai (s.al), ai (s.ah), ai (s.room), ai (s.tpl), ai (s.tph), ai (s.apl), ai (s.aph), .q 0]))] rfl w64 rfl rfl fun I w => ?_
  refine WP.seq (WP.region ?_)
  refine WPl.l 1 2 rfl rfl rfl (o_boxg rfl) ?_
  refine WPl.v rfl (o_assign rfl) ?_
  refine WPl.nil (EX.then (WP.seq (WP.region ?_)))
  refine WPl.v rfl (o_fldp F28_4 rfl) ?_
  refine WPl.v rfl (o_ldp S26 rfl rfl rfl) ?_
  refine WPl.v rfl (o_lenq L26 rfl (lx rfl)) ?_
  refine WPl.v rfl (o_gtr rfl rfl) ?_
  refine WPl.v rfl (o_assign rfl) ?_
  refine WPl.nil (EX.then (WP.ret ?_))
  exact EX.fin id (.inl rfl) rfl (.tmp rfl .nil) rfl r64 trivial (by simp) (by simp)
theorem w34 {f : Fnd} : ∀ x ∈ ([.e (.g [ai (f.shop.pounds), ai (f.shop.tl), ai (f.shop.th), ai (f.shop.al), ai (f.shop.ah), ai (f.shop.room), ai (f.shop.tpl), ai (f.shop.tph), ai (f.shop.apl), ai (f.shop.aph), .q 0, .q 1])] : List SV), x.res (keys (α := Pred) [(0, PL EPig (f.shop.pigs)), (1, PL ENight (f.nights))]) := by simp [SV.res, El.res, At.res, keys]
theorem r34 {f : Fnd} : SV.res (keys (α := Pred) []) (.b (f.huge)) := by simp [SV.res, El.res, At.res, keys]
set_option maxHeartbeats 4000000 in
theorem c34 (f : Fnd)  : Sig Tryz.prog 34 [.e (.g [ai (f.shop.pounds), ai (f.shop.tl), ai (f.shop.th), ai (f.shop.al), ai (f.shop.ah), ai (f.shop.room), ai (f.shop.tpl), ai (f.shop.tph), ai (f.shop.apl), ai (f.shop.aph), .q 0, .q 1])] [(0, PL EPig (f.shop.pigs)), (1, PL ENight (f.nights))] (.b (f.huge)) [] := by
  refine Sig.intro Tryz.func34 rfl 2 [(0, .e (.g [ai (f.shop.pounds), ai (f.shop.tl), ai (f.shop.th), ai (f.shop.al), ai (f.shop.ah), ai (f.shop.room), ai (f.shop.tpl), ai (f.shop.tph), ai (f.shop.apl), ai (f.shop.aph), .q 0, .q 1]))] rfl w34 rfl rfl fun I w => ?_
  refine WP.seq (WP.region ?_)
  refine WPl.l 2 3 rfl rfl rfl (o_boxg rfl) ?_
  refine WPl.v rfl (o_assign rfl) ?_
  refine WPl.nil (EX.then (WP.seq (WP.region ?_)))
  refine WPl.v rfl (o_fldp F31_0 rfl) ?_
  refine WPl.v rfl (o_ldpg G28 rfl rfl rfl) ?_
  refine WPl.cs 3 rfl rfl rfl rfl (o_sig 3 (ren [(0, 0)]) (c64 f.shop) e64 rfl rfl rfl w64 ⟨(lx rfl), trivial⟩ r64) ?_
  refine WPl.v rfl (o_move rfl) ?_
  refine WPl.bit 3 4 (!(hugeS f.shop)) rfl rfl ?_
  refine WPl.gv 3 rfl rfl (.plain rfl (by simp) rfl) (fun hb => o_fldp F31_1 rfl) ?_
  refine WPl.gv 3 rfl rfl (.plain rfl (by simp) rfl) (fun hb => o_ldp S29 rfl rfl rfl) ?_
  refine WPl.gv 3 rfl rfl (.plain rfl (by simp) rfl) (fun hb => o_lenq L29 rfl (lx rfl)) ?_
  refine WPl.gv 3 rfl rfl (.plain rfl (by simp) rfl) (fun hb => o_gtr rfl rfl) ?_
  refine WPl.v rfl (o_or rfl rfl rfl (by first | (simp; done) | simp_all)) ?_
  refine WPl.v rfl (o_assign rfl) ?_
  refine WPl.nil (EX.then (WP.ret ?_))
  exact EX.fin id (.inl rfl) rfl (.tmp rfl .nil) rfl r34 trivial (by simp) (by simp)
theorem w20 {l : List (List Int)} : ∀ x ∈ ([.e (.a (.q 0)), .e (.a (.q 1))] : List SV), x.res (keys (α := Pred) [(0, PL (EP.sl EP.int) (l)), (1, PL (EP.sl EP.int) (l))]) := by simp [SV.res, El.res, At.res, keys]
theorem r20  : SV.res (keys (α := Pred) []) (.b (true)) := by simp [SV.res, El.res, At.res, keys]
set_option maxHeartbeats 4000000 in
theorem c20 (l : List (List Int)) (hl : l.length ≤ 1000) (hr : ∀ i : Nat, i < l.length → (nth l i).length ≤ 1000) : Sig Tryz.prog 20 [.e (.a (.q 0)), .e (.a (.q 1))] [(0, PL (EP.sl EP.int) (l)), (1, PL (EP.sl EP.int) (l))] (.b (true)) [] := by
  refine Sig.intro Tryz.func20 rfl 2 [(0, .e (.a (.q 0))), (1, .e (.a (.q 1)))] rfl w20 rfl rfl fun I w => ?_
  refine WP.seq (WP.region ?_)
  refine WPl.v rfl (o_assign rfl) ?_
  refine WPl.nil (EX.then (WP.seq (WP.seq (WP.region ?_))))
  refine WPl.v rfl (o_move rfl) ?_
  refine WPl.v rfl (o_lenq L48 rfl (lx rfl)) ?_
  refine WPl.v rfl (o_move rfl) ?_
  refine WPl.v rfl (o_lenq L48 rfl (lx rfl)) ?_
  refine WPl.v rfl (o_neq rfl rfl) ?_
  refine WPl.nil (EX.then ?_)
  refine WP.cond rfl (fun hc1 => ?_) (fun hc1 => ?_)
  · try simp only [cnd] at hc1
    simp at hc1
  · try simp only [cnd] at hc1
    refine WP.skip (EX.then (WP.seq (WP.seq (WP.region ?_))))
    refine WPl.v rfl (o_assign rfl) ?_
    refine WPl.nil (EX.then (WP.block ?_))
    refine WP.loop (Gh := Nat) (fun i => ⟨2, [(0, .e (.a (.q 0))), (1, .e (.a (.q 1))), (4, .b (false)), (5, .i ((i : Int)))], [(0, PL (EP.sl EP.int) (l)), (1, PL (EP.sl EP.int) (l))], [], [], []⟩) (fun i => i ≤ l.length) (fun i => l.length - i) (0) id ?_ (LeR.of ⟨rfl, rfl, rfl, rfl, trivial⟩ ⟨(lx rfl), (lx rfl), trivial⟩ trivial rfl rfl rfl rfl rfl) ?_
    · first | trivial | omega | (constructor <;> omega) | simp
    intro i hφ
    have hi : i ≤ l.length := hφ
    refine WP.seq (WP.seq (WP.region ?_))
    refine WPl.v rfl (o_move rfl) ?_
    refine WPl.v rfl (o_move rfl) ?_
    refine WPl.v rfl (o_lenq L48 rfl (lx rfl)) ?_
    refine WPl.v rfl (o_lss rfl rfl) ?_
    refine WPl.nil (EX.then ?_)
    refine WP.cond rfl (fun hc2 => ?_) (fun hc2 => ?_)
    · try simp only [cnd] at hc2
      refine WP.skip (EX.then (WP.seq (WP.block (WP.seq ?_))))
      refine WP.draw (nf := 6) [⟨[18, 21, 22, 23, 24], [4, 5], [], [], []⟩, ⟨[17, 21, 22, 23, 24], [4, 5], [], [], []⟩, ⟨[21, 22, 23, 24], [4, 5], [2], [2], [0, 1]⟩, ⟨[21, 22, 23, 24], [4, 5], [3], [3], [0, 1, 2]⟩, ⟨[17, 18, 19, 20, 22], [2, 3], [], [], []⟩, ⟨[17, 18, 19, 20, 21], [2, 3], [], [], []⟩, ⟨[17, 18, 19, 20], [2, 3], [4], [4], [4, 5]⟩, ⟨[17, 18, 19, 20], [2, 3], [5], [5], [4, 5, 6]⟩, ⟨[], [], [], [], [0, 1, 2, 3, 4, 5, 6, 7]⟩, ⟨[], [], [], [], [0, 1, 2, 3, 4, 5, 6, 7, 8]⟩] (by kernel_rfl) (by kernel_rfl) ?_
      refine DRQ.v rfl rfl rfl (o_move rfl) ?_
      refine DRQ.v rfl rfl rfl (o_move rfl) ?_
      refine DRQ.x 2 rfl rfl rfl rfl (o_idx L48 rfl (lx rfl) rfl (by first | omega | (simp; omega)) (by first | omega | (simp; omega))) ?_
      refine DRQ.x 3 rfl rfl rfl rfl (o_ldqx S45 rfl (lx rfl) slx) ?_
      refine DRQ.v rfl rfl rfl (o_move rfl) ?_
      refine DRQ.v rfl rfl rfl (o_move rfl) ?_
      refine DRQ.x 4 rfl rfl rfl rfl (o_idx L48 rfl (lx rfl) rfl (by first | omega | (simp; omega)) (by first | omega | (simp; omega))) ?_
      refine DRQ.x 5 rfl rfl rfl rfl (o_ldqx S45 rfl (lx rfl) slx) ?_
      refine DRQ.cs rfl rfl rfl rfl (o_sig 6 (ren [(0, 3), (1, 5)]) (c19 (nth l (i : Int)) (nth l (i : Int)) (by have := hr i (by omega); omega)) e19 rfl rfl rfl w19 ⟨(lx rfl), (lx rfl), trivial⟩ r19) ?_
      refine DRQ.v rfl rfl rfl (o_not rfl) ?_
      refine DRQ.nil' ?_
      refine EX.then ?_
      refine WP.cond rfl (fun hc3 => ?_) (fun hc3 => ?_)
      · try simp only [cnd] at hc3
        rw [sameInts_refl] at hc3; cases hc3
      · try simp only [cnd] at hc3
        refine WP.skip (EX.blk (EX.then (WP.region ?_)))
        refine WPl.v rfl (o_move rfl) ?_
        refine WPl.v rfl (o_add rfl rfl (by first | omega | (simp; omega)) (by first | omega | (simp; omega))) ?_
        refine WPl.v rfl (o_assign rfl) ?_
        refine WPl.nil ?_
        refine EX.again (i + 1) id (by first | omega | (constructor <;> omega)) (by omega) (LeR.of ⟨rfl, rfl, rfl, rfl, trivial⟩ ⟨(lx rfl), (lx rfl), trivial⟩ trivial rfl rfl rfl rfl rfl)
    · try simp only [cnd] at hc2
      refine WP.exit (EX.exit_then (EX.exit_then (EX.exit_blk (EX.then (WP.seq (WP.region ?_))))))
      refine WPl.v rfl (o_assign rfl) ?_
      refine WPl.nil (EX.then (WP.ret ?_))
      exact EX.fin id (.inl rfl) rfl (.tmp rfl .nil) rfl r20 trivial (by simp) (by simp)
theorem w12 {f : Fnd} : ∀ x ∈ ([.e (.g [ai (f.shop.pounds), ai (f.shop.tl), ai (f.shop.th), ai (f.shop.al), ai (f.shop.ah), ai (f.shop.room), ai (f.shop.tpl), ai (f.shop.tph), ai (f.shop.apl), ai (f.shop.aph), .q 0, .q 1])] : List SV), x.res (keys (α := Pred) [(0, PL EPig (f.shop.pigs)), (1, PL ENight (f.nights))]) := by simp [SV.res, El.res, At.res, keys]
theorem r12 {f : Fnd} : SV.res (keys (α := Pred) []) (.b (f.far)) := by simp [SV.res, El.res, At.res, keys]
set_option maxHeartbeats 4000000 in
theorem c12 (f : Fnd)  : Sig Tryz.prog 12 [.e (.g [ai (f.shop.pounds), ai (f.shop.tl), ai (f.shop.th), ai (f.shop.al), ai (f.shop.ah), ai (f.shop.room), ai (f.shop.tpl), ai (f.shop.tph), ai (f.shop.apl), ai (f.shop.aph), .q 0, .q 1])] [(0, PL EPig (f.shop.pigs)), (1, PL ENight (f.nights))] (.b (f.far)) [] := by
  refine Sig.intro Tryz.func12 rfl 2 [(0, .e (.g [ai (f.shop.pounds), ai (f.shop.tl), ai (f.shop.th), ai (f.shop.al), ai (f.shop.ah), ai (f.shop.room), ai (f.shop.tpl), ai (f.shop.tph), ai (f.shop.apl), ai (f.shop.aph), .q 0, .q 1]))] rfl w12 rfl rfl fun I w => ?_
  refine WP.seq (WP.region ?_)
  refine WPl.l 2 3 rfl rfl rfl (o_boxg rfl) ?_
  refine WPl.v rfl (o_assign rfl) ?_
  refine WPl.nil (EX.then (WP.seq (WP.seq (WP.region ?_))))
  refine WPl.v rfl (o_ldpa G31 rfl rfl rfl) ?_
  refine WPl.cs 3 rfl rfl rfl rfl (o_sig 3 (ren [(0, 0), (1, 1)]) (c34 f) e34 rfl rfl rfl w34 ⟨(lx rfl), (lx rfl), trivial⟩ r34) ?_
  refine WPl.nil (EX.then ?_)
  refine WP.cond rfl (fun hc1 => ?_) (fun hc1 => ?_)
  · try simp only [cnd] at hc1
    refine WP.seq (WP.region ?_)
    refine WPl.v rfl (o_assign rfl) ?_
    refine WPl.nil (EX.then (WP.ret (EX.ret_then ?_)))
    rw [show f.far = true from by simp [Fnd.far, hc1]]
    exact EX.fin id (.inl rfl) rfl (.tmp rfl .nil) rfl (by simp [SV.res, El.res, At.res, keys]) trivial (by simp) (by simp)
  · try simp only [cnd] at hc1
    refine WP.skip (EX.then (WP.seq (WP.seq (WP.region ?_))))
    refine WPl.v rfl (o_ldpa G31 rfl rfl rfl) ?_
    refine WPl.cs 3 rfl rfl rfl rfl (o_sig 3 (ren [(0, 0), (1, 1)]) (c13 f) e13 rfl rfl rfl w13 ⟨(lx rfl), (lx rfl), trivial⟩ r13) ?_
    refine WPl.v rfl (o_neq rfl rfl) ?_
    refine WPl.nil (EX.then ?_)
    refine WP.cond rfl (fun hc2 => ?_) (fun hc2 => ?_)
    · try simp only [cnd] at hc2
      refine WP.seq (WP.region ?_)
      refine WPl.v rfl (o_assign rfl) ?_
      refine WPl.nil (EX.then (WP.ret (EX.ret_then ?_)))
      rw [show f.far = false from by simp [Fnd.far, show f.huge = false from hc1, show f.chk = false from by (cases hch : f.chk; rfl; simp [errW, hch] at hc2)]]
      exact EX.fin id (.inl rfl) rfl (.tmp rfl .nil) rfl (by simp [SV.res, El.res, At.res, keys]) trivial (by simp) (by simp)
    · try simp only [cnd] at hc2
      have hf : f.chk = true := by simpa [errW_eq] using hc2
      have hnh : f.huge = false := hc1
      have hcb := Fnd.chkB hf
      have hpg := Shop.pigsOK (Fnd.shopOK hf)
      have hn := Fnd.nightsOK hf
      have htb := tl_bnd (Fnd.shopOK hf)
      have hab := fun i hi => farA_bnd hf i hi
      have hp10 : ∀ i : Nat, i ≤ 4 → (10 : Int) ^ i ≤ 10000 := fun i hi => by (rcases (show i = 0 ∨ i = 1 ∨ i = 2 ∨ i = 3 ∨ i = 4 by omega) with rfl | rfl | rfl | rfl | rfl) <;> decide
      have hp9 : ∀ i : Nat, i ≤ 4 → (9 : Int) ^ i ≤ 6561 := fun i hi => by (rcases (show i = 0 ∨ i = 1 ∨ i = 2 ∨ i = 3 ∨ i = 4 by omega) with rfl | rfl | rfl | rfl | rfl) <;> decide
      have hm0 := mulb (a := f.shop.th - f.shop.tl + 1) (A := 401) (b := f.shop.ah - f.shop.al + 1) (B := 401) (by omega) (by omega) (by omega) (by omega)
      refine WP.skip (EX.then (WP.seq (WP.region ?_)))
      refine WPl.v rfl (o_fldp F31_0 rfl) ?_
      refine WPl.v rfl (o_fldp F28_0 rfl) ?_
      refine WPl.v rfl (o_fldp F25_1 rfl) ?_
      refine WPl.v rfl (o_fldp F23_1 rfl) ?_
      refine WPl.v rfl (o_ldp S3 rfl rfl rfl) ?_
      refine WPl.v rfl (o_fldp F31_0 rfl) ?_
      refine WPl.v rfl (o_fldp F28_0 rfl) ?_
      refine WPl.v rfl (o_fldp F25_1 rfl) ?_
      refine WPl.v rfl (o_fldp F23_0 rfl) ?_
      refine WPl.v rfl (o_ldp S3 rfl rfl rfl) ?_
      refine WPl.v rfl (o_sub rfl rfl (by first | omega | (simp; omega)) (by first | omega | (simp; omega))) ?_
      refine WPl.v rfl (o_add rfl rfl (by first | omega | (simp; omega)) (by first | omega | (simp; omega))) ?_
      refine WPl.v rfl (o_fldp F31_0 rfl) ?_
      refine WPl.v rfl (o_fldp F28_0 rfl) ?_
      refine WPl.v rfl (o_fldp F25_2 rfl) ?_
      refine WPl.v rfl (o_fldp F23_1 rfl) ?_
      refine WPl.v rfl (o_ldp S3 rfl rfl rfl) ?_
      refine WPl.v rfl (o_fldp F31_0 rfl) ?_
      refine WPl.v rfl (o_fldp F28_0 rfl) ?_
      refine WPl.v rfl (o_fldp F25_2 rfl) ?_
      refine WPl.v rfl (o_fldp F23_0 rfl) ?_
      refine WPl.v rfl (o_ldp S3 rfl rfl rfl) ?_
      refine WPl.v rfl (o_sub rfl rfl (by first | omega | (simp; omega)) (by first | omega | (simp; omega))) ?_
      refine WPl.v rfl (o_add rfl rfl (by first | omega | (simp; omega)) (by first | omega | (simp; omega))) ?_
      refine WPl.v rfl (o_mul rfl rfl (by first | omega | (simp; omega)) (by first | omega | (simp; omega))) ?_
      refine WPl.v rfl (o_assign rfl) ?_
      refine WPl.nil (EX.then (WP.seq (WP.seq (WP.region ?_))))
      refine WPl.v rfl (o_assign rfl) ?_
      refine WPl.nil (EX.then (WP.block ?_))
      refine WP.loop (Gh := Nat) (fun i => ⟨3, [(1, .e (.a (.p 2 (0)))), (2, .b (false)), (3, .i (f.farA i)), (4, .i ((i : Int)))], [(0, PL EPig (f.shop.pigs)), (1, PL ENight (f.nights))], [(2, .blk [ai (f.shop.pounds), ai (f.shop.tl), ai (f.shop.th), ai (f.shop.al), ai (f.shop.ah), ai (f.shop.room), ai (f.shop.tpl), ai (f.shop.tph), ai (f.shop.apl), ai (f.shop.aph), .q 0, .q 1] 31)], [], []⟩) (fun i => i ≤ f.nights.length) (fun i => f.nights.length - i) (0) id ?_ (LeR.of ⟨rfl, rfl, rfl, rfl, trivial⟩ ⟨(lx rfl), (lx rfl), trivial⟩ ⟨rfl, trivial⟩ rfl rfl rfl rfl rfl) ?_
      · first | trivial | omega | (constructor <;> omega) | simp
      intro i hφ
      have hi : i ≤ f.nights.length := hφ
      have hai := hab i (by omega)
      have hpi := hp10 i (by omega)
      refine WP.seq (WP.seq (WP.region ?_))
      refine WPl.v rfl (o_move rfl) ?_
      refine WPl.v rfl (o_fldp F31_1 rfl) ?_
      refine WPl.v rfl (o_ldp S29 rfl rfl rfl) ?_
      refine WPl.v rfl (o_lenq L29 rfl (lx rfl)) ?_
      refine WPl.v rfl (o_lss rfl rfl) ?_
      refine WPl.nil (EX.then ?_)
      refine WP.cond rfl (fun hc3 => ?_) (fun hc3 => ?_)
      · try simp only [cnd] at hc3
        refine WP.skip (EX.then (WP.seq (WP.block ?_)))
        refine WP.draw (nf := 5) [⟨[45, 46, 47, 48, 49, 50, 51, 52, 53, 54, 55, 56, 57, 58, 59, 60], [3, 4], [], [], []⟩, ⟨[44, 47, 52, 53, 54, 55, 56, 57, 58], [4], [], [], []⟩, ⟨[44, 47, 52, 53, 54, 55, 56, 57, 58], [4], [], [], [1]⟩, ⟨[44, 45, 46, 52, 53, 54, 55, 56, 57, 58], [4], [], [], []⟩, ⟨[44, 52, 53, 54, 55, 56, 57, 58], [4], [3], [3], [1, 2, 3]⟩, ⟨[44, 52, 53, 54, 55, 56, 57, 58], [4], [], [], [1, 2, 3, 4]⟩, ⟨[44, 52, 53, 54, 55, 56, 57, 58], [4], [], [], [1, 2, 3, 4, 5]⟩, ⟨[44, 52, 53, 54, 55, 56, 57, 58], [4], [], [], [1, 2, 3, 4, 5, 6]⟩, ⟨[44, 45, 46, 47, 48, 49, 50, 51, 54], [3], [], [], []⟩, ⟨[44, 45, 46, 47, 48, 49, 50, 51, 54], [3], [], [], [8]⟩, ⟨[44, 45, 46, 47, 48, 49, 50, 51, 52, 53], [3], [], [], []⟩, ⟨[44, 45, 46, 47, 48, 49, 50, 51], [3], [4], [4], [8, 9, 10]⟩, ⟨[44, 45, 46, 47, 48, 49, 50, 51], [3], [], [], [8, 9, 10, 11]⟩, ⟨[44, 45, 46, 47, 48, 49, 50, 51], [3], [], [], [8, 9, 10, 11, 12]⟩, ⟨[44, 45, 46, 47, 48, 49, 50, 51], [3], [], [], [8, 9, 10, 11, 12, 13]⟩, ⟨[44], [], [], [], [1, 2, 3, 4, 5, 6, 7, 8, 9, 10, 11, 12, 13, 14]⟩, ⟨[44], [], [], [], [1, 2, 3, 4, 5, 6, 7, 8, 9, 10, 11, 12, 13, 14, 15]⟩, ⟨[], [], [], [], [0, 1, 2, 3, 4, 5, 6, 7, 8, 9, 10, 11, 12, 13, 14, 15, 16]⟩, ⟨[], [], [], [], [0, 1, 2, 3, 4, 5, 6, 7, 8, 9, 10, 11, 12, 13, 14, 15, 16, 17]⟩] (by kernel_rfl) (by kernel_rfl) ?_
        refine DRQ.v rfl rfl rfl (o_move rfl) ?_
        refine DRQ.v rfl rfl rfl (o_fldp F31_1 rfl) ?_
        refine DRQ.v rfl rfl rfl (o_ldp S29 rfl rfl rfl) ?_
        refine DRQ.v rfl rfl rfl (o_move rfl) ?_
        refine DRQ.x 3 rfl rfl rfl rfl (o_idx L29 rfl (lx rfl) rfl (by first | omega | (simp; omega)) (by first | omega | (simp; omega))) ?_
        refine DRQ.v rfl rfl rfl (o_fldq F71_0 rfl (lx rfl)) ?_
        refine DRQ.v rfl rfl rfl (o_flde F23_1 rfl (lx rfl)) ?_
        refine DRQ.v rfl rfl rfl (o_lde S3 rfl (lx rfl) (strI rfl)) ?_
        refine DRQ.v rfl rfl rfl (o_fldp F31_1 rfl) ?_
        refine DRQ.v rfl rfl rfl (o_ldp S29 rfl rfl rfl) ?_
        refine DRQ.v rfl rfl rfl (o_move rfl) ?_
        refine DRQ.x 4 rfl rfl rfl rfl (o_idx L29 rfl (lx rfl) rfl (by first | omega | (simp; omega)) (by first | omega | (simp; omega))) ?_
        refine DRQ.v rfl rfl rfl (o_fldq F71_0 rfl (lx rfl)) ?_
        refine DRQ.v rfl rfl rfl (o_flde F23_0 rfl (lx rfl)) ?_
        refine DRQ.v rfl rfl rfl (o_lde S3 rfl (lx rfl) (strI rfl)) ?_
        have hnb := Night.bnds (hn.at (show i < f.nights.length by omega))
        have hms := hab (i + 1) (by omega)
        have hpi1 := hp10 (i + 1) (by omega)
        simp only [Fnd.farA] at hms
        refine DRQ.v rfl rfl rfl (o_sub rfl rfl (by first | omega | (simp; omega)) (by first | omega | (simp; omega))) ?_
        refine DRQ.v rfl rfl rfl (o_add rfl rfl (by first | omega | (simp; omega)) (by first | omega | (simp; omega))) ?_
        refine DRQ.v rfl rfl rfl (o_mul rfl rfl (by first | omega | (simp; omega)) (by first | omega | (simp; omega))) ?_
        refine DRQ.v rfl rfl rfl (o_assign rfl) ?_
        refine DRQ.nil' ?_
        refine EX.blk (EX.then (WP.region ?_))
        refine WPl.v rfl (o_move rfl) ?_
        refine WPl.v rfl (o_add rfl rfl (by first | omega | (simp; omega)) (by first | omega | (simp; omega))) ?_
        refine WPl.v rfl (o_assign rfl) ?_
        refine WPl.nil ?_
        refine EX.again (i + 1) id (by first | omega | (constructor <;> omega)) (by omega) (LeR.of ⟨rfl, rfl, rfl, rfl, trivial⟩ ⟨(lx rfl), (lx rfl), trivial⟩ ⟨rfl, trivial⟩ rfl rfl rfl rfl rfl)
      · try simp only [cnd] at hc3
        refine WP.exit (EX.exit_then (EX.exit_then (EX.exit_blk (EX.then (WP.seq (WP.seq (WP.region ?_)))))))
        refine WPl.v rfl (o_assign rfl) ?_
        refine WPl.nil (EX.then (WP.block ?_))
        refine WP.loop (Gh := Nat) (fun k => ⟨3, [(1, .e (.a (.p 2 (0)))), (2, .b (false)), (3, .i (f.farK k)), (5, .i ((k : Int)))], [(0, PL EPig (f.shop.pigs)), (1, PL ENight (f.nights))], [(2, .blk [ai (f.shop.pounds), ai (f.shop.tl), ai (f.shop.th), ai (f.shop.al), ai (f.shop.ah), ai (f.shop.room), ai (f.shop.tpl), ai (f.shop.tph), ai (f.shop.apl), ai (f.shop.aph), .q 0, .q 1] 31)], [], []⟩) (fun k => k ≤ f.shop.pigs.length) (fun k => f.shop.pigs.length - k) (0) id ?_ (LeR.of ⟨rfl, rfl, (congrArg (fun z => some (SV.i z)) (show (f.farA i) = ((fun k => f.farK k) 0) from by rw [show i = f.nights.length by omega]; rfl)), rfl, trivial⟩ ⟨(lx rfl), (lx rfl), trivial⟩ ⟨rfl, trivial⟩ rfl rfl rfl rfl rfl) ?_
        · first | trivial | omega | (constructor <;> omega) | simp
        intro k hφ
        have hk : k ≤ f.shop.pigs.length := hφ
        refine WP.seq (WP.seq (WP.region ?_))
        refine WPl.v rfl (o_move rfl) ?_
        refine WPl.v rfl (o_fldp F31_0 rfl) ?_
        refine WPl.v rfl (o_fldp F28_4 rfl) ?_
        refine WPl.v rfl (o_ldp S26 rfl rfl rfl) ?_
        refine WPl.v rfl (o_lenq L26 rfl (lx rfl)) ?_
        refine WPl.v rfl (o_lss rfl rfl) ?_
        refine WPl.v rfl (o_move rfl) ?_
        refine WPl.bit 3 4 (decide ((k : Int) < (f.shop.pigs.length : Int))) rfl rfl ?_
        refine WPl.gv 3 rfl rfl (.plain rfl Iff.rfl rfl) (fun hb => o_move rfl) ?_
        refine WPl.gv 3 rfl rfl (.plain rfl Iff.rfl rfl) (fun hb => o_leq rfl rfl) ?_
        refine WPl.v rfl (o_and rfl rfl rfl id) ?_
        refine WPl.nil (EX.then ?_)
        refine WP.cond rfl (fun hc4 => ?_) (fun hc4 => ?_)
        · try simp only [cnd] at hc4
          refine WP.skip (EX.then (WP.seq (WP.block (WP.seq (WP.region ?_)))))
          refine WPl.v rfl (o_assign rfl) ?_
          refine WPl.nil (EX.then (WP.block ?_))
          refine WP.loop (Gh := Nat) (fun j => ⟨4, [(1, .e (.a (.p 2 (0)))), (2, .b (false)), (3, .i (farI (nth f.shop.pigs k).many (f.farK k) j)), (5, .i ((k : Int))), (62, .i ((k : Int))), (63, .e (.a (.p 2 (0)))), (64, .e (.a (.p 2 (10)))), (65, .e (.a (.q 0))), (66, .i ((f.shop.pigs.length : Int))), (67, .b (decide ((k : Int) < (f.shop.pigs.length : Int)))), (68, .b (decide ((k : Int) < (f.shop.pigs.length : Int)))), (71, .b ((decide ((k : Int) < (f.shop.pigs.length : Int))) && (decide ((f.farK k) ≤ 3000)))), (6, .i ((j : Int) + 1))], [(0, PL EPig (f.shop.pigs)), (1, PL ENight (f.nights))], [(2, .blk [ai (f.shop.pounds), ai (f.shop.tl), ai (f.shop.th), ai (f.shop.al), ai (f.shop.ah), ai (f.shop.room), ai (f.shop.tpl), ai (f.shop.tph), ai (f.shop.apl), ai (f.shop.aph), .q 0, .q 1] 31)], [], []⟩) (fun j => j ≤ f.nights.length) (fun j => f.nights.length - j) (0) id ?_ (LeR.of ⟨rfl, rfl, rfl, rfl, rfl, rfl, rfl, rfl, rfl, rfl, rfl, rfl, (congrArg (fun z => some (SV.i z)) (show (1) = ((fun j => (j : Int) + 1) 0) from by simp)), trivial⟩ ⟨(lx rfl), (lx rfl), trivial⟩ ⟨rfl, trivial⟩ rfl rfl rfl rfl rfl) ?_
          · first | trivial | omega | (constructor <;> omega) | simp
          intro j hφ
          have hj : j ≤ f.nights.length := hφ
          refine WP.seq (WP.seq (WP.region ?_))
          refine WPl.v rfl (o_move rfl) ?_
          refine WPl.v rfl (o_fldp F31_1 rfl) ?_
          refine WPl.v rfl (o_ldp S29 rfl rfl rfl) ?_
          refine WPl.v rfl (o_lenq L29 rfl (lx rfl)) ?_
          refine WPl.v rfl (o_leq rfl rfl) ?_
          refine WPl.nil (EX.then ?_)
          refine WP.cond rfl (fun hc5 => ?_) (fun hc5 => ?_)
          · try simp only [cnd] at hc5
            refine WP.skip (EX.then (WP.seq (WP.block (WP.region ?_))))
            refine WPl.v rfl (o_move rfl) ?_
            refine WPl.v rfl (o_fldp F31_0 rfl) ?_
            refine WPl.v rfl (o_fldp F28_4 rfl) ?_
            refine WPl.v rfl (o_ldp S26 rfl rfl rfl) ?_
            refine WPl.v rfl (o_move rfl) ?_
            refine WPl.x 4 5 rfl rfl rfl (o_idx L26 rfl (lx rfl) rfl (by first | omega | (simp; omega)) (by first | omega | (simp; omega))) ?_
            refine WPl.v rfl (o_fldq F84_4 rfl (lx rfl)) ?_
            have hkb := Pig.bnds (hpg.at (show k < f.shop.pigs.length by omega))
            have hk0 : 0 ≤ f.farK k := farK_nonneg hf (by omega)
            have hij := farI_bnd (many := (nth f.shop.pigs k).many) (n := f.farK k) (by omega) (by omega) hk0 (by omega) j (by omega)
            have hp9j := hp9 j (by omega)
            have hmm := mulb (a := farI (nth f.shop.pigs k).many (f.farK k) j) (A := 20000000) (b := (nth f.shop.pigs k).many + ((j : Int) + 1)) (B := 10) (by omega) (by omega) (by omega) (by omega)
            have hq0 := Int.tdiv_nonneg hmm.1 (show (0 : Int) ≤ (j : Int) + 1 by omega)
            have hq1 := Int.tdiv_le_self ((j : Int) + 1) hmm.1
            refine WPl.v rfl (o_lde S3 rfl (lx rfl) (strI rfl)) ?_
            refine WPl.v rfl (o_move rfl) ?_
            refine WPl.v rfl (o_add rfl rfl (by first | omega | (simp; omega)) (by first | omega | (simp; omega))) ?_
            refine WPl.v rfl (o_mul rfl rfl (by first | omega | (simp; omega)) (by first | omega | (simp; omega))) ?_
            refine WPl.v rfl (o_move rfl) ?_
            refine WPl.v rfl (o_quo rfl rfl (by first | omega | (simp; omega)) (by first | omega | (simp; omega)) (by first | omega | (simp; omega))) ?_
            refine WPl.v rfl (o_assign rfl) ?_
            refine WPl.nil (EX.blk (EX.then (WP.region ?_)))
            refine WPl.v rfl (o_move rfl) ?_
            refine WPl.v rfl (o_add rfl rfl (by first | omega | (simp; omega)) (by first | omega | (simp; omega))) ?_
            refine WPl.v rfl (o_assign rfl) ?_
            refine WPl.nil ?_
            refine EX.again (j + 1) id (by first | omega | (constructor <;> omega)) (by omega) (LeR.of ⟨rfl, rfl, rfl, rfl, rfl, rfl, rfl, rfl, rfl, rfl, rfl, rfl, (congrArg (fun z => some (SV.i z)) (show (((j : Int) + 1) + 1) = ((fun j => (j : Int) + 1) (j + 1)) from by show (j : Int) + 1 + 1 = ((j + 1 : Nat) : Int) + 1; omega)), trivial⟩ ⟨(lx rfl), (lx rfl), trivial⟩ ⟨rfl, trivial⟩ rfl rfl rfl rfl rfl)
          · try simp only [cnd] at hc5
            refine WP.exit (EX.exit_then (EX.exit_then (EX.exit_blk (EX.blk (EX.then (WP.region ?_))))))
            refine WPl.v rfl (o_move rfl) ?_
            refine WPl.v rfl (o_add rfl rfl (by first | omega | (simp; omega)) (by first | omega | (simp; omega))) ?_
            refine WPl.v rfl (o_assign rfl) ?_
            refine WPl.nil ?_
            refine EX.again (k + 1) id (by first | omega | (constructor <;> omega)) (by omega) (LeR.of ⟨rfl, rfl, (congrArg (fun z => some (SV.i z)) (show (farI (nth f.shop.pigs k).many (f.farK k) j) = ((fun k => f.farK k) (k + 1)) from by rw [show j = f.nights.length by omega]; simp only [Fnd.farK]; rw [if_pos (by omega)])), rfl, trivial⟩ ⟨(lx rfl), (lx rfl), trivial⟩ ⟨rfl, trivial⟩ rfl rfl rfl rfl rfl)
        · try simp only [cnd] at hc4
          refine WP.exit (EX.exit_then (EX.exit_then (EX.exit_blk (EX.then (WP.seq (WP.region ?_))))))
          refine WPl.v rfl (o_move rfl) ?_
          refine WPl.v rfl (o_gtr rfl rfl) ?_
          refine WPl.v rfl (o_assign rfl) ?_
          refine WPl.nil (EX.then (WP.ret ?_))
          rw [show f.far = decide (3000 < f.farK k) from by simp only [Fnd.far, hnh, hf, Bool.false_or, Bool.true_and]; rw [farK_stop hf (k := k) (by omega) (by omega)]]
          exact EX.fin id (.inl rfl) rfl (.tmp rfl .nil) rfl (by simp [SV.res, El.res, At.res, keys]) trivial (by simp) (by simp)
theorem w14  : ∀ x ∈ ([] : List SV), x.res (keys (α := Pred) []) := by simp [SV.res, El.res, At.res, keys]
theorem r14  : SV.res (keys (α := Pred) [(0, PL EPig (exW.shop.pigs)), (1, PL ENight (exW.nights)), (2, PL EPig (exU.shop.pigs)), (3, PL ENight (exU.nights)), (4, PL EPig (exV.shop.pigs)), (5, PL ENight (exV.nights))]) (.t [.g [ai (exW.shop.pounds), ai (exW.shop.tl), ai (exW.shop.th), ai (exW.shop.al), ai (exW.shop.ah), ai (exW.shop.room), ai (exW.shop.tpl), ai (exW.shop.tph), ai (exW.shop.apl), ai (exW.shop.aph), .q 0, .q 1], .g [ai (exU.shop.pounds), ai (exU.shop.tl), ai (exU.shop.th), ai (exU.shop.al), ai (exU.shop.ah), ai (exU.shop.room), ai (exU.shop.tpl), ai (exU.shop.tph), ai (exU.shop.apl), ai (exU.shop.aph), .q 2, .q 3], .g [ai (exV.shop.pounds), ai (exV.shop.tl), ai (exV.shop.th), ai (exV.shop.al), ai (exV.shop.ah), ai (exV.shop.room), ai (exV.shop.tpl), ai (exV.shop.tph), ai (exV.shop.apl), ai (exV.shop.aph), .q 4, .q 5]]) := by simp [SV.res, El.res, At.res, keys]
set_option maxHeartbeats 4000000 in
theorem c14   : Sig Tryz.prog 14 [] [] (.t [.g [ai (exW.shop.pounds), ai (exW.shop.tl), ai (exW.shop.th), ai (exW.shop.al), ai (exW.shop.ah), ai (exW.shop.room), ai (exW.shop.tpl), ai (exW.shop.tph), ai (exW.shop.apl), ai (exW.shop.aph), .q 0, .q 1], .g [ai (exU.shop.pounds), ai (exU.shop.tl), ai (exU.shop.th), ai (exU.shop.al), ai (exU.shop.ah), ai (exU.shop.room), ai (exU.shop.tpl), ai (exU.shop.tph), ai (exU.shop.apl), ai (exU.shop.aph), .q 2, .q 3], .g [ai (exV.shop.pounds), ai (exV.shop.tl), ai (exV.shop.th), ai (exV.shop.al), ai (exV.shop.ah), ai (exV.shop.room), ai (exV.shop.tpl), ai (exV.shop.tph), ai (exV.shop.apl), ai (exV.shop.aph), .q 4, .q 5]]) [(0, PL EPig (exW.shop.pigs)), (1, PL ENight (exW.nights)), (2, PL EPig (exU.shop.pigs)), (3, PL ENight (exU.nights)), (4, PL EPig (exV.shop.pigs)), (5, PL ENight (exV.nights))] := by
  refine Sig.intro Tryz.func14 rfl 0 [] rfl w14 rfl rfl fun I w => ?_
  refine WP.seq (WP.region ?_)
  refine WPl.l 0 1 rfl rfl rfl (o_alloc Z31) ?_
  refine WPl.l 1 2 rfl rfl rfl (o_alloc Z31) ?_
  refine WPl.l 2 3 rfl rfl rfl (o_alloc Z31) ?_
  refine WPl.nil (EX.then (WP.seq (WP.region ?_)))
  refine WPl.v rfl (o_build B23 rfl ⟨rfl, rfl, trivial⟩ rfl rfl) ?_
  refine WPl.v rfl (o_build B23 rfl ⟨rfl, rfl, trivial⟩ rfl rfl) ?_
  refine WPl.v rfl (o_build B25 rfl ⟨rfl, trivial⟩ rfl rfl) ?_
  refine WPl.v rfl (o_build B23 rfl ⟨rfl, rfl, trivial⟩ rfl rfl) ?_
  refine WPl.v rfl (o_build B23 rfl ⟨rfl, rfl, trivial⟩ rfl rfl) ?_
  refine WPl.v rfl (o_build B84 rfl ⟨rfl, rfl, rfl, rfl, rfl, trivial⟩ rfl rfl) ?_
  refine WPl.x 3 4 rfl rfl rfl (OpG.settle0 (o_bsl (E := EPig) (l := [(⟨10, 3, 1, 20, 2⟩ : Pig)]) R26 rfl rfl (.cons (⟨rfl, rfl, rfl, rfl, rfl, trivial⟩) rfl (eok_str ⟨rfl, rfl, rfl, rfl, rfl, trivial⟩) (.nil)) rfl rfl)) ?_
  refine WPl.v rfl (o_build B28 rfl ⟨rfl, (.inl ⟨_, (lx rfl), PL.one⟩), trivial⟩ rfl rfl) ?_
  refine WPl.v rfl (o_build B23 rfl ⟨rfl, rfl, trivial⟩ rfl rfl) ?_
  refine WPl.v rfl (o_build B71 rfl trivial rfl rfl) ?_
  refine WPl.v rfl (o_build B23 rfl ⟨rfl, rfl, trivial⟩ rfl rfl) ?_
  refine WPl.v rfl (o_build B71 rfl trivial rfl rfl) ?_
  refine WPl.v rfl (o_build B23 rfl ⟨rfl, rfl, trivial⟩ rfl rfl) ?_
  refine WPl.v rfl (o_build B71 rfl trivial rfl rfl) ?_
  refine WPl.x 4 5 rfl rfl rfl (OpG.settle0 (o_bsl (E := ENight) (l := [(⟨1, 2, 0⟩ : Night), (⟨1, 1, 0⟩ : Night), (⟨1, 2, 0⟩ : Night)]) R29 rfl rfl (.cons (⟨rfl, rfl, rfl, trivial⟩) rfl (eok_str ⟨rfl, rfl, rfl, trivial⟩) (.cons (⟨rfl, rfl, rfl, trivial⟩) rfl (eok_str ⟨rfl, rfl, rfl, trivial⟩) (.cons (⟨rfl, rfl, rfl, trivial⟩) rfl (eok_str ⟨rfl, rfl, rfl, trivial⟩) (.nil)))) rfl rfl)) ?_
  refine WPl.v rfl (o_build B31 rfl ⟨(.inl ⟨_, (lx rfl), PL.one⟩), trivial⟩ rfl rfl) ?_
  refine WPl.s1 (o_stag G31 rfl rfl rfl ⟨rfl, rfl, rfl, rfl, rfl, rfl, rfl, rfl, rfl, rfl, (.inl ⟨_, (lx rfl), PL.one⟩), (.inl ⟨_, (lx rfl), PL.one⟩), trivial⟩ rfl rfl) ?_
  refine WPl.nil (EX.then (WP.seq (WP.region ?_)))
  refine WPl.v rfl (o_ldpa G31 rfl rfl rfl) ?_
  refine WPl.cs 7 rfl rfl rfl rfl (o_sig 5 (ren [(0, 3), (1, 4)]) (c6 exW (by decide) (by decide)) e6 rfl rfl rfl w6 ⟨(lx rfl), (lx rfl), trivial⟩ r6) ?_
  refine WPl.s1 (o_stag G31 rfl rfl rfl ⟨rfl, rfl, rfl, rfl, rfl, rfl, rfl, rfl, rfl, rfl, (.inl ⟨_, (lx rfl), PL.one⟩), (.inl ⟨_, (lx rfl), PL.one⟩), trivial⟩ rfl rfl) ?_
  refine WPl.nil (EX.then (WP.seq (WP.region ?_)))
  refine WPl.v rfl (o_fldp F31_0 rfl) ?_
  refine WPl.v rfl (o_fldp F28_2 rfl) ?_
  refine WPl.v rfl (o_fldp F23_1 rfl) ?_
  refine WPl.s1 (o_sta S3 rfl rfl rfl rfl rfl) ?_
  refine WPl.nil (EX.then (WP.seq ?_))
  refine WP.draw (nf := 9) [⟨[25, 26, 27], [7, 8], [], [], []⟩, ⟨[24, 26, 27], [0, 7, 8], [], [], []⟩, ⟨[24, 25], [], [], [], []⟩, ⟨[24, 25], [], [7, 8], [7, 8], [2]⟩, ⟨[25], [], [], [0], [0, 2, 3]⟩, ⟨[], [], [], [1], [0, 1, 2, 3, 4]⟩, ⟨[], [], [], [2], [0, 1, 2, 3, 4, 5]⟩] (by kernel_rfl) (by kernel_rfl) ?_
  refine DRQ.v rfl rfl rfl (o_ldpa G31 rfl rfl rfl) ?_
  refine DRQ.v rfl rfl rfl (o_ldpa G31 rfl rfl rfl) ?_
  refine DRQ.v rfl rfl rfl (o_ldpa G31 rfl rfl rfl) ?_
  refine DRQ.cs rfl rfl rfl rfl (o_sig 7 (ren [(0, 5), (1, 6)]) (c10 exU 2 ex_chk.2.1 (by decide)) e10 rfl rfl rfl w10 ⟨(lx rfl), (lx rfl), trivial⟩ r10) ?_
  refine DRQ.s 0 rfl rfl rfl (o_stag G31 rfl rfl rfl ⟨rfl, rfl, rfl, rfl, rfl, rfl, rfl, rfl, rfl, rfl, (.inl ⟨_, (lx rfl), PL.one⟩), (.inl ⟨_, (lx rfl), PL.one⟩), trivial⟩ rfl rfl) ?_
  refine DRQ.s 1 rfl rfl rfl (o_stag G31 rfl rfl rfl ⟨rfl, rfl, rfl, rfl, rfl, rfl, rfl, rfl, rfl, rfl, (.inl ⟨_, (lx rfl), PL.one⟩), (.inl ⟨_, (lx rfl), PL.one⟩), trivial⟩ rfl rfl) ?_
  refine DRQ.s 2 rfl rfl rfl (o_stag G31 rfl rfl rfl ⟨rfl, rfl, rfl, rfl, rfl, rfl, rfl, rfl, rfl, rfl, (.inl ⟨_, (lx rfl), PL.one⟩), (.inl ⟨_, (lx rfl), PL.one⟩), trivial⟩ rfl rfl) ?_
  refine DRQ.nil' ?_
  refine EX.then (WP.ret ?_)
  exact EX.fin (ren [(0, 3), (1, 4), (2, 5), (3, 6), (4, 7), (5, 8)]) (.inl rfl) rfl (.cellg G31 rfl rfl rfl (.cellg G31 rfl rfl rfl (.cellg G31 rfl rfl rfl (.nil)))) rfl r14 ⟨(lx rfl), (lx rfl), (lx rfl), (lx rfl), (lx rfl), (lx rfl), trivial⟩ (by simp) (by simp)
theorem w5  : ∀ x ∈ ([] : List SV), x.res (keys (α := Pred) []) := by simp [SV.res, El.res, At.res, keys]
theorem r5  : SV.res (keys (α := Pred) []) (.b (true)) := by simp [SV.res, El.res, At.res, keys]
set_option maxHeartbeats 4000000 in
set_option maxRecDepth 10000 in
theorem c5   : Sig Tryz.prog 5 [] [] (.b (true)) [] := by
  refine Sig.intro Tryz.func5 rfl 0 [] rfl w5 rfl rfl fun I w => ?_
  refine WP.seq (WP.region ?_)
  refine WPl.v rfl (o_assign rfl) ?_
  refine WPl.nil (EX.then (WP.seq (WP.region ?_)))
  refine WPl.cs 6 rfl rfl rfl rfl (o_sig 0 id c14 e14 rfl rfl rfl w14 trivial r14) ?_
  refine WPl.v rfl (o_move rfl) ?_
  refine WPl.v rfl (o_extract rfl rfl) ?_
  refine WPl.v rfl (o_extract rfl rfl) ?_
  refine WPl.v rfl (o_extract rfl rfl) ?_
  refine WPl.l 6 7 rfl rfl rfl (o_alloc Z31) ?_
  refine WPl.l 7 8 rfl rfl rfl (o_alloc Z31) ?_
  refine WPl.l 8 9 rfl rfl rfl (o_alloc Z31) ?_
  refine WPl.s1 (o_stag G31 rfl rfl rfl ⟨rfl, rfl, rfl, rfl, rfl, rfl, rfl, rfl, rfl, rfl, (.inl ⟨_, (lx rfl), PL.one⟩), (.inl ⟨_, (lx rfl), PL.one⟩), trivial⟩ rfl rfl) ?_
  refine WPl.s1 (o_stag G31 rfl rfl rfl ⟨rfl, rfl, rfl, rfl, rfl, rfl, rfl, rfl, rfl, rfl, (.inl ⟨_, (lx rfl), PL.one⟩), (.inl ⟨_, (lx rfl), PL.one⟩), trivial⟩ rfl rfl) ?_
  refine WPl.s1 (o_stag G31 rfl rfl rfl ⟨rfl, rfl, rfl, rfl, rfl, rfl, rfl, rfl, rfl, rfl, (.inl ⟨_, (lx rfl), PL.one⟩), (.inl ⟨_, (lx rfl), PL.one⟩), trivial⟩ rfl rfl) ?_
  refine WPl.nil (EX.then (WP.seq (WP.region ?_)))
  refine WPl.v rfl (o_ldpa G31 rfl rfl rfl) ?_
  refine WPl.x 9 10 rfl rfl rfl (OpG.settle0 (o_bsl (E := EP.int) (l := [1]) R45 rfl rfl (.cons (rfl) rfl (eok_int) (.nil)) rfl rfl)) ?_
  refine WPl.x 10 11 rfl rfl rfl (OpG.settle0 (o_bsl (E := EP.int) (l := [0]) R45 rfl rfl (.cons (rfl) rfl (eok_int) (.nil)) rfl rfl)) ?_
  refine WPl.x 11 12 rfl rfl rfl (OpG.settle0 (o_bsl (E := EP.int) (l := [0]) R45 rfl rfl (.cons (rfl) rfl (eok_int) (.nil)) rfl rfl)) ?_
  refine WPl.x 12 13 rfl rfl rfl (OpG.settle0 (o_bsl (E := (EP.sl EP.int)) (l := [[1], [0], [0]]) R48 rfl rfl (.cons ((.inl ⟨_, (lx rfl), PL.one⟩)) rfl (eok_sl (lx rfl)) (.cons ((.inl ⟨_, (lx rfl), PL.one⟩)) rfl (eok_sl (lx rfl)) (.cons ((.inl ⟨_, (lx rfl), PL.one⟩)) rfl (eok_sl (lx rfl)) (.nil)))) rfl rfl)) ?_
  refine WPl.cs 14 rfl rfl rfl rfl (o_sig 13 (ren [(0, 0), (1, 1), (2, 12)]) (c15 exW [[1], [0], [0]] (by decide)) e15 rfl rfl rfl w15 ⟨(lx rfl), (lx rfl), (lx rfl), trivial⟩ r15) ?_
  refine WPl.v rfl (o_move rfl) ?_
  refine WPl.v rfl (o_extract rfl rfl) ?_
  refine WPl.v rfl (o_extract rfl rfl) ?_
  refine WPl.v rfl (o_assign rfl) ?_
  refine WPl.v rfl (o_assign rfl) ?_
  refine WPl.nil (EX.then (WP.seq (WP.region ?_)))
  refine WPl.v rfl (o_ldpa G31 rfl rfl rfl) ?_
  refine WPl.cs 14 rfl rfl rfl rfl (o_sig 14 (ren [(0, 0), (1, 1)]) (c16 exW (by decide)) e16 rfl rfl rfl w16 ⟨(lx rfl), (lx rfl), trivial⟩ r16) ?_
  refine WPl.v rfl (o_move rfl) ?_
  refine WPl.v rfl (o_extract rfl rfl) ?_
  refine WPl.v rfl (o_extract rfl rfl) ?_
  refine WPl.v rfl (o_assign rfl) ?_
  refine WPl.v rfl (o_assign rfl) ?_
  refine WPl.nil (EX.then (WP.seq (WP.region ?_)))
  refine WPl.v rfl (o_ldpa G31 rfl rfl rfl) ?_
  refine WPl.cs 15 rfl rfl rfl rfl (o_sig 14 (ren [(0, 0), (1, 1)]) (c17 exW (by decide)) e17 rfl rfl rfl w17 ⟨(lx rfl), (lx rfl), trivial⟩ r17) ?_
  refine WPl.v rfl (o_move rfl) ?_
  refine WPl.v rfl (o_extract rfl rfl) ?_
  refine WPl.v rfl (o_extract rfl rfl) ?_
  refine WPl.v rfl (o_assign rfl) ?_
  refine WPl.v rfl (o_assign rfl) ?_
  refine WPl.nil (EX.then (WP.seq (WP.region ?_)))
  refine WPl.v rfl (o_ldpa G31 rfl rfl rfl) ?_
  refine WPl.cs 15 rfl rfl rfl rfl (o_sig 15 (ren [(0, 4), (1, 5)]) (c9 exV (by decide)) e9 rfl rfl rfl w9 ⟨(lx rfl), (lx rfl), trivial⟩ r9) ?_
  refine WPl.v rfl (o_move rfl) ?_
  refine WPl.v rfl (o_extract rfl rfl) ?_
  refine WPl.v rfl (o_extract rfl rfl) ?_
  refine WPl.v rfl (o_assign rfl) ?_
  refine WPl.v rfl (o_assign rfl) ?_
  refine WPl.nil (EX.then (WP.seq (WP.region ?_)))
  refine WPl.v rfl (o_ldpa G31 rfl rfl rfl) ?_
  refine WPl.cs 15 rfl rfl rfl rfl (o_sig 15 (ren [(0, 2), (1, 3)]) (c7 exU (by decide)) e7 rfl rfl rfl w7 ⟨(lx rfl), (lx rfl), trivial⟩ r7) ?_
  refine WPl.v rfl (o_move rfl) ?_
  refine WPl.v rfl (o_extract rfl rfl) ?_
  refine WPl.v rfl (o_extract rfl rfl) ?_
  refine WPl.v rfl (o_assign rfl) ?_
  refine WPl.v rfl (o_assign rfl) ?_
  refine WPl.nil (EX.then (WP.seq (WP.region ?_)))
  refine WPl.v rfl (o_ldpa G31 rfl rfl rfl) ?_
  refine WPl.x 15 16 rfl rfl rfl (OpG.settle0 (o_bsl (E := EP.int) (l := [0]) R45 rfl rfl (.cons (rfl) rfl (eok_int) (.nil)) rfl rfl)) ?_
  refine WPl.x 16 17 rfl rfl rfl (OpG.settle0 (o_bsl (E := EP.int) (l := [0]) R45 rfl rfl (.cons (rfl) rfl (eok_int) (.nil)) rfl rfl)) ?_
  refine WPl.x 17 18 rfl rfl rfl (OpG.settle0 (o_bsl (E := EP.int) (l := [0]) R45 rfl rfl (.cons (rfl) rfl (eok_int) (.nil)) rfl rfl)) ?_
  refine WPl.x 18 19 rfl rfl rfl (OpG.settle0 (o_bsl (E := (EP.sl EP.int)) (l := [[0], [0], [0]]) R48 rfl rfl (.cons ((.inl ⟨_, (lx rfl), PL.one⟩)) rfl (eok_sl (lx rfl)) (.cons ((.inl ⟨_, (lx rfl), PL.one⟩)) rfl (eok_sl (lx rfl)) (.cons ((.inl ⟨_, (lx rfl), PL.one⟩)) rfl (eok_sl (lx rfl)) (.nil)))) rfl rfl)) ?_
  refine WPl.cs 19 rfl rfl rfl rfl (o_sig 19 (ren [(0, 0), (1, 1), (2, 18)]) (c18 exW [[0], [0], [0]] (by decide)) e18 rfl rfl rfl w18 ⟨(lx rfl), (lx rfl), (lx rfl), trivial⟩ r18) ?_
  refine WPl.v rfl (o_move rfl) ?_
  refine WPl.v rfl (o_extract rfl rfl) ?_
  refine WPl.v rfl (o_extract rfl rfl) ?_
  refine WPl.v rfl (o_assign rfl) ?_
  refine WPl.v rfl (o_assign rfl) ?_
  refine WPl.nil (EX.then (WP.seq (WP.region ?_)))
  refine WPl.v rfl (o_move rfl) ?_
  refine WPl.v rfl (o_eql rfl rfl) ?_
  refine WPl.imp (Imp.bitF 60 (b' := true) rfl (decide_eq_true ex_fE)) ?_
  refine WPl.v rfl (o_move rfl) ?_
  refine WPl.on rfl ⟨_, _, rfl, rfl, rfl⟩ (o_move rfl) ?_
  refine WPl.on rfl ⟨_, _, rfl, rfl, rfl⟩ (o_eql rfl rfl) ?_
  refine WPl.imp (Imp.bitF 63 (b' := true) rfl (decide_eq_true (by rw [ex_chk.1]; rfl))) ?_
  refine WPl.v rfl (o_pickT rfl rfl) ?_
  refine WPl.v rfl (o_move rfl) ?_
  refine WPl.on rfl ⟨_, _, rfl, rfl, rfl⟩ (o_move rfl) ?_
  refine WPl.on rfl ⟨_, _, rfl, rfl, rfl⟩ (o_eql rfl rfl) ?_
  refine WPl.imp (Imp.bitF 67 (b' := true) rfl (decide_eq_true ex_planE)) ?_
  refine WPl.v rfl (o_pickT rfl rfl) ?_
  refine WPl.v rfl (o_move rfl) ?_
  refine WPl.on rfl ⟨_, _, rfl, rfl, rfl⟩ (o_move rfl) ?_
  refine WPl.on rfl ⟨_, _, rfl, rfl, rfl⟩ (o_eql rfl rfl) ?_
  refine WPl.imp (Imp.bitF 71 (b' := true) rfl (decide_eq_true ex_kE)) ?_
  refine WPl.v rfl (o_pickT rfl rfl) ?_
  refine WPl.v rfl (o_move rfl) ?_
  refine WPl.on rfl ⟨_, _, rfl, rfl, rfl⟩ (o_move rfl) ?_
  refine WPl.on rfl ⟨_, _, rfl, rfl, rfl⟩ (o_eql rfl rfl) ?_
  refine WPl.imp (Imp.bitF 75 (b' := true) rfl (decide_eq_true ex_u)) ?_
  refine WPl.v rfl (o_pickT rfl rfl) ?_
  refine WPl.v rfl (o_move rfl) ?_
  refine WPl.on rfl ⟨_, _, rfl, rfl, rfl⟩ (o_move rfl) ?_
  refine WPl.on rfl ⟨_, _, rfl, rfl, rfl⟩ (o_eql rfl rfl) ?_
  refine WPl.imp (Imp.bitF 79 (b' := true) rfl (decide_eq_true ex_sE)) ?_
  refine WPl.v rfl (o_pickT rfl rfl) ?_
  refine WPl.v rfl (o_move rfl) ?_
  rw [ex_f]
  refine WPl.on rfl ⟨_, _, rfl, rfl, rfl⟩ (o_move rfl) ?_
  refine WPl.ung ⟨_, _, rfl, rfl, rfl⟩ ?_
  refine WPl.x 19 20 rfl rfl rfl (OpG.settle0 (o_bsl (E := EP.int) (l := [0, 1]) R45 rfl rfl (.cons (rfl) rfl (eok_int) (.cons (rfl) rfl (eok_int) (.nil))) rfl rfl)) ?_
  refine WPl.ung ⟨_, _, rfl, rfl, rfl⟩ ?_
  refine WPl.cs 20 rfl rfl rfl rfl (o_sig 20 (ren [(0, 13), (1, 19)]) (c19 [0, 1] [0, 1] (by decide)) e19 rfl rfl rfl w19 ⟨(lx rfl), (lx rfl), trivial⟩ r19) ?_
  refine WPl.imp (Imp.bitF 84 (b' := true) rfl (sameInts_refl _)) ?_
  refine WPl.v rfl (o_pickT rfl rfl) ?_
  refine WPl.v rfl (o_move rfl) ?_
  refine WPl.on rfl ⟨_, _, rfl, rfl, rfl⟩ (o_move rfl) ?_
  refine WPl.on rfl ⟨_, _, rfl, rfl, rfl⟩ (o_eql rfl rfl) ?_
  refine WPl.imp (Imp.bitF 88 (b' := true) rfl (decide_eq_true ex_last)) ?_
  refine WPl.v rfl (o_pickT rfl rfl) ?_
  refine WPl.v rfl (o_move rfl) ?_
  rw [ex_plan]
  refine WPl.on rfl ⟨_, _, rfl, rfl, rfl⟩ (o_move rfl) ?_
  refine WPl.ung ⟨_, _, rfl, rfl, rfl⟩ ?_
  refine WPl.x 20 21 rfl rfl rfl (OpG.settle0 (o_bsl (E := EP.int) (l := [0]) R45 rfl rfl (.cons (rfl) rfl (eok_int) (.nil)) rfl rfl)) ?_
  refine WPl.ung ⟨_, _, rfl, rfl, rfl⟩ ?_
  refine WPl.x 21 22 rfl rfl rfl (OpG.settle0 (o_bsl (E := EP.int) (l := [0]) R45 rfl rfl (.cons (rfl) rfl (eok_int) (.nil)) rfl rfl)) ?_
  refine WPl.ung ⟨_, _, rfl, rfl, rfl⟩ ?_
  refine WPl.x 22 23 rfl rfl rfl (OpG.settle0 (o_bsl (E := EP.int) (l := [1]) R45 rfl rfl (.cons (rfl) rfl (eok_int) (.nil)) rfl rfl)) ?_
  refine WPl.ung ⟨_, _, rfl, rfl, rfl⟩ ?_
  refine WPl.x 23 24 rfl rfl rfl (OpG.settle0 (o_bsl (E := (EP.sl EP.int)) (l := [[0], [0], [1]]) R48 rfl rfl (.cons ((.inl ⟨_, (lx rfl), PL.one⟩)) rfl (eok_sl (lx rfl)) (.cons ((.inl ⟨_, (lx rfl), PL.one⟩)) rfl (eok_sl (lx rfl)) (.cons ((.inl ⟨_, (lx rfl), PL.one⟩)) rfl (eok_sl (lx rfl)) (.nil)))) rfl rfl)) ?_
  refine WPl.ung ⟨_, _, rfl, rfl, rfl⟩ ?_
  refine WPl.cs 24 rfl rfl rfl rfl (o_sig 24 (ren [(0, 14), (1, 23)]) (c20 [[0], [0], [1]] (by decide) (by decide)) e20 rfl rfl rfl w20 ⟨(lx rfl), (lx rfl), trivial⟩ r20) ?_
  refine WPl.v rfl (o_pickT rfl rfl) ?_
  refine WPl.v rfl (o_move rfl) ?_
  refine WPl.on rfl ⟨_, _, rfl, rfl, rfl⟩ (o_move rfl) ?_
  refine WPl.on rfl ⟨_, _, rfl, rfl, rfl⟩ (o_eql rfl rfl) ?_
  refine WPl.imp (Imp.bitF 100 (b' := true) rfl (decide_eq_true ex_k)) ?_
  refine WPl.v rfl (o_pickT rfl rfl) ?_
  refine WPl.v rfl (o_move rfl) ?_
  refine WPl.on rfl ⟨_, _, rfl, rfl, rfl⟩ (o_move rfl) ?_
  refine WPl.on rfl ⟨_, _, rfl, rfl, rfl⟩ (o_eql rfl rfl) ?_
  refine WPl.imp (Imp.bitF 104 (b' := true) rfl (decide_eq_true ex_s)) ?_
  refine WPl.v rfl (o_pickT rfl rfl) ?_
  refine WPl.v rfl (o_assign rfl) ?_
  refine WPl.nil (EX.then (WP.ret ?_))
  exact EX.fin id (.inl rfl) rfl (.tmp rfl .nil) rfl r5 trivial (by simp) (by simp)
end Go.Flong
namespace Go.Flong
open Go Go.Eng Go.Proofs
theorem e12 : Enters' Tryz.prog 12 := Tryz.call12
theorem w4 {f : Fnd} : ∀ x ∈ ([.e (.g [ai (f.shop.pounds), ai (f.shop.tl), ai (f.shop.th), ai (f.shop.al), ai (f.shop.ah), ai (f.shop.room), ai (f.shop.tpl), ai (f.shop.tph), ai (f.shop.apl), ai (f.shop.aph), .q 0, .q 1])] : List SV), x.res (keys (α := Pred) [(0, PL EPig (f.shop.pigs)), (1, PL ENight (f.nights))]) := by simp [SV.res, El.res, At.res, keys]
theorem r4 {f : Fnd} : SV.res (keys (α := Pred) []) (.b (f.rdy)) := by simp [SV.res, El.res, At.res, keys]
set_option maxHeartbeats 4000000 in
theorem c4 (f : Fnd)  : Sig Tryz.prog 4 [.e (.g [ai (f.shop.pounds), ai (f.shop.tl), ai (f.shop.th), ai (f.shop.al), ai (f.shop.ah), ai (f.shop.room), ai (f.shop.tpl), ai (f.shop.tph), ai (f.shop.apl), ai (f.shop.aph), .q 0, .q 1])] [(0, PL EPig (f.shop.pigs)), (1, PL ENight (f.nights))] (.b (f.rdy)) [] := by
  refine Sig.intro Tryz.func4 rfl 2 [(0, .e (.g [ai (f.shop.pounds), ai (f.shop.tl), ai (f.shop.th), ai (f.shop.al), ai (f.shop.ah), ai (f.shop.room), ai (f.shop.tpl), ai (f.shop.tph), ai (f.shop.apl), ai (f.shop.aph), .q 0, .q 1]))] rfl w4 rfl rfl fun I w => ?_
  refine WP.seq (WP.region ?_)
  refine WPl.l 2 3 rfl rfl rfl (o_boxg rfl) ?_
  refine WPl.v rfl (o_assign rfl) ?_
  refine WPl.nil (EX.then (WP.seq (WP.region ?_)))
  refine WPl.v rfl (o_ldpa G31 rfl rfl rfl) ?_
  refine WPl.cs 3 rfl rfl rfl rfl (o_sig 3 (ren [(0, 0), (1, 1)]) (c12 f) e12 rfl rfl rfl w12 ⟨(lx rfl), (lx rfl), trivial⟩ r12) ?_
  refine WPl.v rfl (o_not rfl) ?_
  refine WPl.v rfl (o_move rfl) ?_
  refine WPl.bit 3 4 (!f.far) rfl rfl ?_
  refine WPl.gv 3 rfl rfl (.plain rfl Iff.rfl rfl) (fun hb => o_ldpa G31 rfl rfl rfl) ?_
  refine WPl.gc0 3 rfl rfl (.plain rfl Iff.rfl rfl) (fun hb => o_sig 4 (ren [(0, 0), (1, 1)]) (c13 f) e13 rfl rfl rfl w13 ⟨(lx rfl), (lx rfl), trivial⟩ r13) ?_
  refine WPl.gv 3 rfl rfl (.plain rfl Iff.rfl rfl) (fun hb => o_eql rfl rfl) ?_
  refine WPl.v rfl (o_and rfl rfl rfl id) ?_
  refine WPl.v rfl (o_assign rfl) ?_
  refine WPl.nil (EX.then (WP.ret ?_))
  rw [show f.rdy = ((!f.far) && decide (errW f.chk = 0)) from by unfold Fnd.rdy; cases f.chk <;> simp [errW]]
  exact EX.fin id (.inl rfl) rfl (.tmp rfl .nil) rfl (by simp [SV.res, El.res, At.res, keys]) trivial (by simp) (by simp)
end Go.Flong
namespace Go.Flong
open Go Go.Eng Go.Proofs
theorem F73_0 : Fld Tryz.prog 73 0 0 := .mk Tryz.underlying73 rfl rfl rfl Tryz.sizeOf28 rfl
abbrev PigQ (q : Pig → Int) : Pred := Pred.all fun (x : Pig) => FvP Tryz.prog [.e (.g [ai (x.pounds), ai (x.tin), ai (x.ant), ai (x.pence), ai (x.many)])] [] (.i (q x)) []
theorem e52 : Enters' Tryz.prog 52 := Tryz.call52
theorem G73 : TyG Tryz.prog 73 11 := ⟨Tryz.isAgg73, Tryz.sizeOf73⟩
theorem e50 : Enters' Tryz.prog 50 := Tryz.call50
theorem Z25 : Zero Tryz.prog 25 [ai (0), ai (0), ai (0), ai (0), ai (0)] := .mk Tryz.zeroValue25 rfl rfl
theorem e59 : Enters' Tryz.prog 59 := Tryz.call59
theorem e60 : Enters' Tryz.prog 60 := Tryz.call60
theorem e57 : Enters' Tryz.prog 57 := Tryz.call57
theorem e81 : Enters' Tryz.prog 81 := Tryz.call81
theorem e82 : Enters' Tryz.prog 82 := Tryz.call82
theorem Z73 : Zero Tryz.prog 73 [ai (0), ai (0), ai (0), ai (0), ai (0), ai (0), ai (0), ai (0), ai (0), ai (0), .v (.slice none 0 0)] := .mk Tryz.zeroValue73 rfl rfl
theorem B73 : BldT Tryz.prog 73 [(0, 11)] [.int .i64 0, .int .i64 0, .int .i64 0, .int .i64 0, .int .i64 0, .int .i64 0, .int .i64 0, .int .i64 0, .int .i64 0, .int .i64 0, .slice none 0 0] := BldT.mk (ns := [11]) Tryz.underlying73 ⟨Tryz.sizeOf28, trivial⟩ rfl Tryz.zeroValue73 rfl
theorem e51 : Enters' Tryz.prog 51 := Tryz.call51
theorem e87 : Enters' Tryz.prog 87 := Tryz.call87
theorem e63 : Enters' Tryz.prog 63 := Tryz.call63
theorem e80 : Enters' Tryz.prog 80 := Tryz.call80
theorem e29 : Enters' Tryz.prog 29 := Tryz.call29
theorem e46 : Enters' Tryz.prog 46 := Tryz.call46
theorem S59 : TyS Tryz.prog 59 := ⟨Tryz.isAgg59, Tryz.sizeOf59⟩
abbrev OfM (s : Shop) (g : List Int → List Int) : Pred := Pred.all fun (x : AdL s) => FvP Tryz.prog [.e (.g [ai (s.pounds), ai (s.tl), ai (s.th), ai (s.al), ai (s.ah), ai (s.room), ai (s.tpl), ai (s.tph), ai (s.apl), ai (s.aph), .q 0]), .e (.a (.q 1))] [(0, PL EPig (s.pigs)), (1, PL EP.int (x.1))] (.e (.a (.q 0))) [(0, PL EP.int (g x.1))]
theorem e48 : Enters' Tryz.prog 48 := Tryz.call48
theorem e47 : Enters' Tryz.prog 47 := Tryz.call47
theorem e49 : Enters' Tryz.prog 49 := Tryz.call49
theorem w52 {p : Pig} : ∀ x ∈ ([.e (.g [ai (p.pounds), ai (p.tin), ai (p.ant), ai (p.pence), ai (p.many)])] : List SV), x.res (keys (α := Pred) []) := by simp [SV.res, El.res, At.res, keys]
theorem r52 {p : Pig} : SV.res (keys (α := Pred) []) (.i (p.pounds)) := by simp [SV.res, El.res, At.res, keys]
set_option maxHeartbeats 4000000 in
theorem c52 (p : Pig)  : Sig Tryz.prog 52 [.e (.g [ai (p.pounds), ai (p.tin), ai (p.ant), ai (p.pence), ai (p.many)])] [] (.i (p.pounds)) [] := by
  refine Sig.intro Tryz.func52 rfl 0 [(0, .e (.g [ai (p.pounds), ai (p.tin), ai (p.ant), ai (p.pence), ai (p.many)]))] rfl w52 rfl rfl fun I w => ?_
  refine WP.seq (WP.region ?_)
  refine WPl.l 0 1 rfl rfl rfl (o_boxg rfl) ?_
  refine WPl.v rfl (o_assign rfl) ?_
  refine WPl.nil (EX.then (WP.seq (WP.region ?_)))
  refine WPl.v rfl (o_fldp F84_0 rfl) ?_
  refine WPl.v rfl (o_ldp S3 rfl rfl rfl) ?_
  refine WPl.v rfl (o_assign rfl) ?_
  refine WPl.nil (EX.then (WP.ret ?_))
  exact EX.fin id (.inl rfl) rfl (.tmp rfl .nil) rfl r52 trivial (by simp) (by simp)
theorem w59 {p : Pig} : ∀ x ∈ ([.e (.g [ai (p.pounds), ai (p.tin), ai (p.ant), ai (p.pence), ai (p.many)])] : List SV), x.res (keys (α := Pred) []) := by simp [SV.res, El.res, At.res, keys]
theorem r59 {p : Pig} : SV.res (keys (α := Pred) []) (.i (p.tin)) := by simp [SV.res, El.res, At.res, keys]
set_option maxHeartbeats 4000000 in
theorem c59 (p : Pig)  : Sig Tryz.prog 59 [.e (.g [ai (p.pounds), ai (p.tin), ai (p.ant), ai (p.pence), ai (p.many)])] [] (.i (p.tin)) [] := by
  refine Sig.intro Tryz.func59 rfl 0 [(0, .e (.g [ai (p.pounds), ai (p.tin), ai (p.ant), ai (p.pence), ai (p.many)]))] rfl w59 rfl rfl fun I w => ?_
  refine WP.seq (WP.region ?_)
  refine WPl.l 0 1 rfl rfl rfl (o_boxg rfl) ?_
  refine WPl.v rfl (o_assign rfl) ?_
  refine WPl.nil (EX.then (WP.seq (WP.region ?_)))
  refine WPl.v rfl (o_fldp F84_1 rfl) ?_
  refine WPl.v rfl (o_ldp S3 rfl rfl rfl) ?_
  refine WPl.v rfl (o_assign rfl) ?_
  refine WPl.nil (EX.then (WP.ret ?_))
  exact EX.fin id (.inl rfl) rfl (.tmp rfl .nil) rfl r59 trivial (by simp) (by simp)
theorem w60 {p : Pig} : ∀ x ∈ ([.e (.g [ai (p.pounds), ai (p.tin), ai (p.ant), ai (p.pence), ai (p.many)])] : List SV), x.res (keys (α := Pred) []) := by simp [SV.res, El.res, At.res, keys]
theorem r60 {p : Pig} : SV.res (keys (α := Pred) []) (.i (p.ant)) := by simp [SV.res, El.res, At.res, keys]
set_option maxHeartbeats 4000000 in
theorem c60 (p : Pig)  : Sig Tryz.prog 60 [.e (.g [ai (p.pounds), ai (p.tin), ai (p.ant), ai (p.pence), ai (p.many)])] [] (.i (p.ant)) [] := by
  refine Sig.intro Tryz.func60 rfl 0 [(0, .e (.g [ai (p.pounds), ai (p.tin), ai (p.ant), ai (p.pence), ai (p.many)]))] rfl w60 rfl rfl fun I w => ?_
  refine WP.seq (WP.region ?_)
  refine WPl.l 0 1 rfl rfl rfl (o_boxg rfl) ?_
  refine WPl.v rfl (o_assign rfl) ?_
  refine WPl.nil (EX.then (WP.seq (WP.region ?_)))
  refine WPl.v rfl (o_fldp F84_2 rfl) ?_
  refine WPl.v rfl (o_ldp S3 rfl rfl rfl) ?_
  refine WPl.v rfl (o_assign rfl) ?_
  refine WPl.nil (EX.then (WP.ret ?_))
  exact EX.fin id (.inl rfl) rfl (.tmp rfl .nil) rfl r60 trivial (by simp) (by simp)
theorem w51 {p : Pig} : ∀ x ∈ ([.e (.g [ai (p.pounds), ai (p.tin), ai (p.ant), ai (p.pence), ai (p.many)])] : List SV), x.res (keys (α := Pred) []) := by simp [SV.res, El.res, At.res, keys]
theorem r51 {p : Pig} : SV.res (keys (α := Pred) []) (.i (p.pence)) := by simp [SV.res, El.res, At.res, keys]
set_option maxHeartbeats 4000000 in
theorem c51 (p : Pig)  : Sig Tryz.prog 51 [.e (.g [ai (p.pounds), ai (p.tin), ai (p.ant), ai (p.pence), ai (p.many)])] [] (.i (p.pence)) [] := by
  refine Sig.intro Tryz.func51 rfl 0 [(0, .e (.g [ai (p.pounds), ai (p.tin), ai (p.ant), ai (p.pence), ai (p.many)]))] rfl w51 rfl rfl fun I w => ?_
  refine WP.seq (WP.region ?_)
  refine WPl.l 0 1 rfl rfl rfl (o_boxg rfl) ?_
  refine WPl.v rfl (o_assign rfl) ?_
  refine WPl.nil (EX.then (WP.seq (WP.region ?_)))
  refine WPl.v rfl (o_fldp F84_3 rfl) ?_
  refine WPl.v rfl (o_ldp S3 rfl rfl rfl) ?_
  refine WPl.v rfl (o_assign rfl) ?_
  refine WPl.nil (EX.then (WP.ret ?_))
  exact EX.fin id (.inl rfl) rfl (.tmp rfl .nil) rfl r51 trivial (by simp) (by simp)
theorem w50 {s : Shop} {add : List Int} {q : Pig → Int} : ∀ x ∈ ([.e (.g [ai (s.pounds), ai (s.tl), ai (s.th), ai (s.al), ai (s.ah), ai (s.room), ai (s.tpl), ai (s.tph), ai (s.apl), ai (s.aph), .q 0]), .e (.a (.q 1)), .e (.a (.q 2))] : List SV), x.res (keys (α := Pred) [(0, PL EPig (s.pigs)), (1, PL EP.int (add)), (2, PigQ q)]) := by simp [SV.res, El.res, At.res, keys]
theorem r50 {s : Shop} {add : List Int} {q : Pig → Int} : SV.res (keys (α := Pred) []) (.i (sumOf q s.pigs add)) := by simp [SV.res, El.res, At.res, keys]
set_option maxHeartbeats 4000000 in
theorem c50 (s : Shop) (add : List Int) (q : Pig → Int) (hs : PigsOK s.pigs) (ha : bnd add 1000) (hl : add.length ≤ s.pigs.length) (hq : ∀ p : Pig, p.chk = true → 0 ≤ q p ∧ q p ≤ 99) : Sig Tryz.prog 50 [.e (.g [ai (s.pounds), ai (s.tl), ai (s.th), ai (s.al), ai (s.ah), ai (s.room), ai (s.tpl), ai (s.tph), ai (s.apl), ai (s.aph), .q 0]), .e (.a (.q 1)), .e (.a (.q 2))] [(0, PL EPig (s.pigs)), (1, PL EP.int (add)), (2, PigQ q)] (.i (sumOf q s.pigs add)) [] := by
  have hl2 := hs.2
  have hf : ∀ j : Nat, j < add.length → 0 ≤ q (nth s.pigs j) ∧ q (nth s.pigs j) ≤ 99 := fun j hj => hq _ (hs.at (show j < s.pigs.length by omega))
  have hsum := sumTo_bnd (f := q) ha hf
  refine Sig.intro Tryz.func50 rfl 3 [(0, .e (.g [ai (s.pounds), ai (s.tl), ai (s.th), ai (s.al), ai (s.ah), ai (s.room), ai (s.tpl), ai (s.tph), ai (s.apl), ai (s.aph), .q 0])), (1, .e (.a (.q 1))), (2, .e (.a (.q 2)))] rfl w50 rfl rfl fun I w => ?_
  refine WP.seq (WP.region ?_)
  refine WPl.l 3 4 rfl rfl rfl (o_boxg rfl) ?_
  refine WPl.v rfl (o_assign rfl) ?_
  refine WPl.nil (EX.then (WP.seq (WP.region ?_)))
  refine WPl.v rfl (o_assign rfl) ?_
  refine WPl.nil (EX.then (WP.seq (WP.seq (WP.region ?_))))
  refine WPl.v rfl (o_move rfl) ?_
  refine WPl.v rfl (o_lenq L45 rfl (lx rfl)) ?_
  refine WPl.v rfl (o_move rfl) ?_
  refine WPl.nil (EX.then (WP.block ?_))
  refine WP.loop (Gh := Nat) (fun i => ⟨4, [(2, .e (.a (.q 2))), (3, .e (.a (.p 3 (0)))), (6, .i (0)), (7, .i (sumTo q s.pigs add i)), (10, .e (.a (.q 1))), (11, .i ((add.length : Int))), (12, .i ((i : Int)))], [(0, PL EPig (s.pigs)), (1, PL EP.int (add)), (2, PigQ q)], [(3, .blk [ai (s.pounds), ai (s.tl), ai (s.th), ai (s.al), ai (s.ah), ai (s.room), ai (s.tpl), ai (s.tph), ai (s.apl), ai (s.aph), .q 0] 73)], [], []⟩) (fun i => i ≤ add.length) (fun i => add.length - i) (0) id ?_ (LeR.of ⟨rfl, rfl, rfl, rfl, rfl, rfl, rfl, trivial⟩ ⟨(lx rfl), (lx rfl), (lx rfl), trivial⟩ ⟨rfl, trivial⟩ rfl rfl rfl rfl rfl) ?_
  · first | trivial | omega | (constructor <;> omega) | simp
  intro i hφ
  have hi : i ≤ add.length := hφ
  refine WP.seq (WP.region ?_)
  refine WPl.v rfl (o_lss rfl rfl) ?_
  refine WPl.nil (EX.then (WP.seq ?_))
  refine WP.cond rfl (fun hc1 => ?_) (fun hc1 => ?_)
  · try simp only [cnd] at hc1
    refine WP.skip (EX.then (WP.seq (WP.block (WP.seq (WP.region ?_)))))
    refine WPl.v rfl (o_move rfl) ?_
    refine WPl.x 4 5 rfl rfl rfl (o_idx L45 rfl (lx rfl) rfl (by first | omega | (simp; omega)) (by first | omega | (simp; omega))) ?_
    refine WPl.v rfl (o_ldq S3 rfl (lx rfl) intc) ?_
    refine WPl.v rfl (o_assign rfl) ?_
    refine WPl.v rfl (o_assign rfl) ?_
    refine WPl.nil (EX.then (WP.region ?_))
    refine WPl.v rfl (o_move rfl) ?_
    refine WPl.v rfl (o_move rfl) ?_
    refine WPl.v rfl (o_move rfl) ?_
    refine WPl.v rfl (o_fldp F73_0 rfl) ?_
    refine WPl.v rfl (o_fldp F28_4 rfl) ?_
    refine WPl.v rfl (o_ldp S26 rfl rfl rfl) ?_
    refine WPl.v rfl (o_move rfl) ?_
    refine WPl.x 5 6 rfl rfl rfl (o_idx L26 rfl (lx rfl) rfl (by first | omega | (simp; omega)) (by first | omega | (simp; omega))) ?_
    refine WPl.v rfl (o_ldqg G84 rfl (lx rfl) (strG rfl) rfl rfl) ?_
    have h1 := ha i (by omega)
    have h2 := hf i (by omega)
    have h3 := mulb h1.1 h1.2 h2.1 h2.2
    have h4 := hsum i (by omega)
    refine WPl.cs 6 rfl rfl rfl rfl (o_callfv (svs := [.e (.g [ai ((nth s.pigs (i : Int)).pounds), ai ((nth s.pigs (i : Int)).tin), ai ((nth s.pigs (i : Int)).ant), ai ((nth s.pigs (i : Int)).pence), ai ((nth s.pigs (i : Int)).many)])]) 6 id rfl (Has.of (lx rfl) fun _ _ h => h ((nth s.pigs (i : Int)))) rfl rfl SvsOK.rf (by simp [SV.res, El.res, At.res, keys]) trivial (by simp [SV.res, El.res, At.res, keys])) ?_
    refine WPl.v rfl (o_mul rfl rfl (by first | omega | (simp; omega)) (by first | omega | (simp; omega))) ?_
    refine WPl.v rfl (o_add rfl rfl (by first | omega | (simp; omega)) (by first | omega | (simp; omega))) ?_
    refine WPl.v rfl (o_assign rfl) ?_
    refine WPl.nil (EX.blk (EX.then (WP.region ?_)))
    refine WPl.v rfl (o_add rfl rfl (by first | omega | (simp; omega)) (by first | omega | (simp; omega))) ?_
    refine WPl.v rfl (o_move rfl) ?_
    refine WPl.nil ?_
    refine EX.again (i + 1) id (by first | omega | (constructor <;> omega)) (by omega) (LeR.of ⟨rfl, rfl, rfl, rfl, rfl, rfl, rfl, trivial⟩ ⟨(lx rfl), (lx rfl), (lx rfl), trivial⟩ ⟨rfl, trivial⟩ rfl rfl rfl rfl rfl)
  · try simp only [cnd] at hc1
    refine WP.exit (EX.exit_then (EX.exit_then (EX.exit_blk (EX.then (WP.seq (WP.region ?_))))))
    refine WPl.v rfl (o_move rfl) ?_
    refine WPl.v rfl (o_assign rfl) ?_
    refine WPl.nil (EX.then (WP.ret ?_))
    have he : i = add.length := by omega
    subst he
    exact EX.fin id (.inl rfl) rfl (.tmp rfl .nil) rfl (by simp [SV.res, El.res, At.res, keys]) trivial (by simp) (by simp)
theorem w80 {s : Shop} {add : List Int} : ∀ x ∈ ([.e (.g [ai (s.pounds), ai (s.tl), ai (s.th), ai (s.al), ai (s.ah), ai (s.room), ai (s.tpl), ai (s.tph), ai (s.apl), ai (s.aph), .q 0]), .e (.a (.q 1))] : List SV), x.res (keys (α := Pred) [(0, PL EPig (s.pigs)), (1, PL EP.int (add))]) := by simp [SV.res, El.res, At.res, keys]
theorem r80 {s : Shop} {add : List Int} : SV.res (keys (α := Pred) []) (.b (isAdd s add)) := by simp [SV.res, El.res, At.res, keys]
set_option maxHeartbeats 4000000 in
theorem c80 (s : Shop) (add : List Int) (hs : s.chk = true) : Sig Tryz.prog 80 [.e (.g [ai (s.pounds), ai (s.tl), ai (s.th), ai (s.al), ai (s.ah), ai (s.room), ai (s.tpl), ai (s.tph), ai (s.apl), ai (s.aph), .q 0]), .e (.a (.q 1))] [(0, PL EPig (s.pigs)), (1, PL EP.int (add))] (.b (isAdd s add)) [] := by
  have hpg := Shop.pigsOK hs
  have hp4 := hpg.2
  have htb := tl_bnd hs
  refine Sig.intro Tryz.func80 rfl 2 [(0, .e (.g [ai (s.pounds), ai (s.tl), ai (s.th), ai (s.al), ai (s.ah), ai (s.room), ai (s.tpl), ai (s.tph), ai (s.apl), ai (s.aph), .q 0])), (1, .e (.a (.q 1)))] rfl w80 rfl rfl fun I w => ?_
  refine WP.seq (WP.region ?_)
  refine WPl.l 2 3 rfl rfl rfl (o_boxg rfl) ?_
  refine WPl.v rfl (o_assign rfl) ?_
  refine WPl.nil (EX.then (WP.seq (WP.seq (WP.region ?_))))
  refine WPl.v rfl (o_move rfl) ?_
  refine WPl.v rfl (o_lenq L45 rfl (lx rfl)) ?_
  refine WPl.v rfl (o_fldp F73_0 rfl) ?_
  refine WPl.v rfl (o_fldp F28_4 rfl) ?_
  refine WPl.v rfl (o_ldp S26 rfl rfl rfl) ?_
  refine WPl.v rfl (o_lenq L26 rfl (lx rfl)) ?_
  refine WPl.v rfl (o_neq rfl rfl) ?_
  refine WPl.nil (EX.then ?_)
  refine WP.cond rfl (fun hc1 => ?_) (fun hc1 => ?_)
  · try simp only [cnd] at hc1
    refine WP.seq (WP.region ?_)
    refine WPl.v rfl (o_assign rfl) ?_
    refine WPl.nil (EX.then (WP.ret (EX.ret_then ?_)))
    rw [show isAdd s add = false from by simp [isAdd]; (try simp at hc1); grind]
    exact EX.fin id (.inl rfl) rfl (.tmp rfl .nil) rfl (by simp [SV.res, El.res, At.res, keys]) trivial (by simp) (by simp)
  · try simp only [cnd] at hc1
    refine WP.skip (EX.then (WP.seq (WP.seq (WP.region ?_))))
    refine WPl.v rfl (o_move rfl) ?_
    refine WPl.v rfl (o_lenq L45 rfl (lx rfl)) ?_
    refine WPl.v rfl (o_move rfl) ?_
    refine WPl.nil (EX.then (WP.block ?_))
    refine WP.loop (Gh := Nat) (fun i => ⟨3, [(1, .e (.a (.q 1))), (2, .e (.a (.p 2 (0)))), (4, .b (false)), (14, .e (.a (.q 1))), (15, .i ((add.length : Int))), (16, .i ((i : Int)))], [(0, PL EPig (s.pigs)), (1, PL EP.int (add))], [(2, .blk [ai (s.pounds), ai (s.tl), ai (s.th), ai (s.al), ai (s.ah), ai (s.room), ai (s.tpl), ai (s.tph), ai (s.apl), ai (s.aph), .q 0] 73)], [], []⟩) (fun i => i ≤ add.length ∧ allI (fitsMany s.pigs add) i = true) (fun i => add.length - i) (0) id ?_ (LeR.of ⟨rfl, rfl, rfl, rfl, rfl, rfl, trivial⟩ ⟨(lx rfl), (lx rfl), trivial⟩ ⟨rfl, trivial⟩ rfl rfl rfl rfl rfl) ?_
    · exact ⟨by omega, rfl⟩
    intro i hφ
    have hi : i ≤ add.length := hφ.1
    have hall := hφ.2
    have hlen : (add.length : Int) = s.pigs.length := by simpa using hc1
    refine WP.seq (WP.region ?_)
    refine WPl.v rfl (o_lss rfl rfl) ?_
    refine WPl.nil (EX.then (WP.seq ?_))
    refine WP.cond rfl (fun hc2 => ?_) (fun hc2 => ?_)
    · try simp only [cnd] at hc2
      refine WP.skip (EX.then (WP.seq (WP.block (WP.seq (WP.region ?_)))))
      refine WPl.v rfl (o_move rfl) ?_
      refine WPl.x 3 4 rfl rfl rfl (o_idx L45 rfl (lx rfl) rfl (by first | omega | (simp; omega)) (by first | omega | (simp; omega))) ?_
      refine WPl.v rfl (o_ldq S3 rfl (lx rfl) intc) ?_
      refine WPl.v rfl (o_assign rfl) ?_
      refine WPl.v rfl (o_assign rfl) ?_
      refine WPl.nil (EX.then (WP.seq (WP.region ?_)))
      refine WPl.v rfl (o_move rfl) ?_
      refine WPl.v rfl (o_fldp F73_0 rfl) ?_
      refine WPl.v rfl (o_fldp F28_4 rfl) ?_
      refine WPl.v rfl (o_ldp S26 rfl rfl rfl) ?_
      refine WPl.v rfl (o_move rfl) ?_
      refine WPl.x 4 5 rfl rfl rfl (o_idx L26 rfl (lx rfl) rfl (by first | omega | (simp; omega)) (by first | omega | (simp; omega))) ?_
      refine WPl.v rfl (o_fldq F84_4 rfl (lx rfl)) ?_
      refine WPl.v rfl (o_lde S3 rfl (lx rfl) (strI rfl)) ?_
      refine WPl.cs 5 rfl rfl rfl rfl (o_sig 5 id (c33 (nth add (i : Int)) 0 ((nth s.pigs (i : Int)).many)) e33 rfl rfl rfl w33 trivial r33) ?_
      refine WPl.v rfl (o_not rfl) ?_
      refine WPl.nil (EX.then ?_)
      refine WP.cond rfl (fun hc3 => ?_) (fun hc3 => ?_)
      · try simp only [cnd] at hc3
        refine WP.seq (WP.region ?_)
        refine WPl.v rfl (o_assign rfl) ?_
        refine WPl.nil (EX.then (WP.ret (EX.ret_blk (EX.ret_then (EX.ret_then (EX.ret_blk (EX.ret_then ?_)))))))
        rw [show isAdd s add = false from by simp only [isAdd, not_allI (show i < add.length by omega) (show fitsMany s.pigs add i = false from hc3)]; simp]
        exact EX.fin id (.inl rfl) rfl (.tmp rfl .nil) rfl (by simp [SV.res, El.res, At.res, keys]) trivial (by simp) (by simp)
      · try simp only [cnd] at hc3
        refine WP.skip (EX.blk (EX.then (WP.region ?_)))
        refine WPl.v rfl (o_add rfl rfl (by first | omega | (simp; omega)) (by first | omega | (simp; omega))) ?_
        refine WPl.v rfl (o_move rfl) ?_
        refine WPl.nil ?_
        refine EX.again (i + 1) id (by exact ⟨by omega, by simp only [allI, hall, Bool.true_and]; exact hc3⟩) (by omega) (LeR.of ⟨rfl, rfl, rfl, rfl, rfl, rfl, trivial⟩ ⟨(lx rfl), (lx rfl), trivial⟩ ⟨rfl, trivial⟩ rfl rfl rfl rfl rfl)
    · try simp only [cnd] at hc2
      refine WP.exit (EX.exit_then (EX.exit_then (EX.exit_blk (EX.then (WP.seq ?_)))))
      refine WP.imp (Imp.nam 3 4 (.func (.func 52) #[] #[]) (R := (PigQ Pig.pounds).and (Pred.is (.func (.func 52) #[] #[]))) (fun I => FvP.namea (fun (x : Pig) => (c52 x)) e52 (fun _ => (by simp [SV.res, El.res, At.res, keys])) I) rfl rfl) ?_
      refine WP.draw (nf := 4) [⟨[36, 37, 38, 40, 41, 42], [], [], [], []⟩, ⟨[36, 37, 38, 40, 41, 42], [], [], [], [0]⟩, ⟨[36, 37, 38, 40, 41, 42], [], [], [], [0, 1]⟩, ⟨[36, 37, 38, 40, 41, 42], [], [], [], [0, 1, 2]⟩, ⟨[32, 33, 34, 35, 37, 40, 41, 42], [], [], [], []⟩, ⟨[32, 33, 34, 35, 36, 40, 41, 42], [], [], [], []⟩, ⟨[32, 33, 34, 35, 40, 41, 42], [], [], [], [4, 5]⟩, ⟨[40, 41, 42], [], [], [], [0, 1, 2, 3, 4, 5, 6]⟩, ⟨[32, 33, 34, 35, 36, 37, 38, 39], [], [], [], []⟩, ⟨[32, 33, 34, 35, 36, 37, 38, 39], [], [], [], [8]⟩, ⟨[32, 33, 34, 35, 36, 37, 38, 39], [], [], [], [8, 9]⟩, ⟨[], [], [], [], [0, 1, 2, 3, 4, 5, 6, 7, 8, 9, 10]⟩, ⟨[], [], [], [], [0, 1, 2, 3, 4, 5, 6, 7, 8, 9, 10, 11]⟩] (by kernel_rfl) (by kernel_rfl) ?_
      have he : i = add.length := by omega
      subst he
      have hbn := fits_bnd hpg (by omega) hall
      have hsum := sumOf_bnd (f := Pig.pounds) hpg (by omega) hbn (fun p h => by have := Pig.bnds h; omega)
      refine DRQ.v rfl rfl rfl (o_fldp F73_0 rfl) ?_
      refine DRQ.v rfl rfl rfl (o_fldp F28_0 rfl) ?_
      refine DRQ.v rfl rfl rfl (o_fldp F25_0 rfl) ?_
      refine DRQ.v rfl rfl rfl (o_ldp S3 rfl rfl rfl) ?_
      refine DRQ.v rfl rfl rfl (o_ldpa G73 rfl rfl rfl) ?_
      refine DRQ.v rfl rfl rfl (o_move rfl) ?_
      refine DRQ.cs rfl rfl rfl rfl (o_sigc 4 (ren [(0, 0), (1, 1), (2, 3)]) (c50 s add Pig.pounds hpg hbn (by omega) (fun p h => by have := Pig.bnds h; (show 0 ≤ p.pounds ∧ p.pounds ≤ 99); omega)) e50 rfl rfl ⟨.inl rfl, .inl rfl, .inr ⟨_, _, rfl, fun _ => rfl, (lxr rfl)⟩, trivial⟩ w50 ⟨(lx rfl), (lx rfl), (lxl rfl), trivial⟩ r50) ?_
      refine DRQ.v rfl rfl rfl (o_add rfl rfl (by first | omega | (simp; omega)) (by first | omega | (simp; omega))) ?_
      refine DRQ.v rfl rfl rfl (o_fldp F73_0 rfl) ?_
      refine DRQ.v rfl rfl rfl (o_fldp F28_1 rfl) ?_
      refine DRQ.v rfl rfl rfl (o_ldp S3 rfl rfl rfl) ?_
      refine DRQ.v rfl rfl rfl (o_leq rfl rfl) ?_
      refine DRQ.v rfl rfl rfl (o_assign rfl) ?_
      refine DRQ.nil' ?_
      refine EX.then (WP.ret ?_)
      rw [show isAdd s add = decide (s.pounds + sumOf Pig.pounds s.pigs add ≤ s.room) from by simp [isAdd, hall, hlen]]
      exact EX.fin id (.inl rfl) rfl (.tmp rfl .nil) rfl (by simp [SV.res, El.res, At.res, keys]) trivial (by simp) (by simp)
theorem w57 {a b n : Int} : ∀ x ∈ ([.e (.g [ai (a), ai (b)]), .i (n)] : List SV), x.res (keys (α := Pred) []) := by simp [SV.res, El.res, At.res, keys]
theorem r57 {a b n : Int} : SV.res (keys (α := Pred) []) (.e (.g [ai (a + n), ai (b + n)])) := by simp [SV.res, El.res, At.res, keys]
set_option maxHeartbeats 4000000 in
theorem c57 (a b n : Int) (h1 : -1000000000 ≤ a ∧ a ≤ 1000000000) (h2 : -1000000000 ≤ b ∧ b ≤ 1000000000) (h3 : -1000000000 ≤ n ∧ n ≤ 1000000000) : Sig Tryz.prog 57 [.e (.g [ai (a), ai (b)]), .i (n)] [] (.e (.g [ai (a + n), ai (b + n)])) [] := by
  refine Sig.intro Tryz.func57 rfl 0 [(0, .e (.g [ai (a), ai (b)])), (1, .i (n))] rfl w57 rfl rfl fun I w => ?_
  refine WP.seq (WP.region ?_)
  refine WPl.l 0 1 rfl rfl rfl (o_boxg rfl) ?_
  refine WPl.l 1 2 rfl rfl rfl (o_alloc Z23) ?_
  refine WPl.nil (EX.then (WP.seq (WP.region ?_)))
  refine WPl.v rfl (o_fldp F23_0 rfl) ?_
  refine WPl.v rfl (o_ldp S3 rfl rfl rfl) ?_
  refine WPl.v rfl (o_move rfl) ?_
  refine WPl.v rfl (o_add rfl rfl (by first | omega | (simp; omega)) (by first | omega | (simp; omega))) ?_
  refine WPl.v rfl (o_fldp F23_1 rfl) ?_
  refine WPl.v rfl (o_ldp S3 rfl rfl rfl) ?_
  refine WPl.v rfl (o_move rfl) ?_
  refine WPl.v rfl (o_add rfl rfl (by first | omega | (simp; omega)) (by first | omega | (simp; omega))) ?_
  refine WPl.v rfl (o_build B23 rfl ⟨rfl, rfl, trivial⟩ rfl rfl) ?_
  refine WPl.s1 (o_stag G23 rfl rfl rfl ⟨rfl, rfl, trivial⟩ rfl rfl) ?_
  refine WPl.nil (EX.then (WP.ret ?_))
  exact EX.fin id (.inl rfl) rfl (.cellg G23 rfl rfl rfl (.nil)) rfl r57 trivial (by simp) (by simp)
theorem w48 {s : Shop} {add : List Int} : ∀ x ∈ ([.e (.g [ai (s.pounds), ai (s.tl), ai (s.th), ai (s.al), ai (s.ah), ai (s.room), ai (s.tpl), ai (s.tph), ai (s.apl), ai (s.aph), .q 0]), .e (.a (.q 1))] : List SV), x.res (keys (α := Pred) [(0, PL EPig (s.pigs)), (1, PL EP.int (add))]) := by simp [SV.res, El.res, At.res, keys]
theorem r48 {s : Shop} {add : List Int} : SV.res (keys (α := Pred) []) (.e (.g [ai ((s.aft add).pounds), ai ((s.aft add).tl), ai ((s.aft add).th), ai ((s.aft add).al), ai ((s.aft add).ah)])) := by simp [SV.res, El.res, At.res, keys]
set_option maxHeartbeats 4000000 in
theorem c48 (s : Shop) (add : List Int) (hs : s.chk = true) (hl : add.length ≤ s.pigs.length) (hb : bnd add 1000) : Sig Tryz.prog 48 [.e (.g [ai (s.pounds), ai (s.tl), ai (s.th), ai (s.al), ai (s.ah), ai (s.room), ai (s.tpl), ai (s.tph), ai (s.apl), ai (s.aph), .q 0]), .e (.a (.q 1))] [(0, PL EPig (s.pigs)), (1, PL EP.int (add))] (.e (.g [ai ((s.aft add).pounds), ai ((s.aft add).tl), ai ((s.aft add).th), ai ((s.aft add).al), ai ((s.aft add).ah)])) [] := by
  have hpg := Shop.pigsOK hs
  have htb := tl_bnd hs
  have hs0 := sumOf_bnd (f := Pig.pounds) hpg hl hb (fun p h => by have := Pig.bnds h; omega)
  have hs1 := sumOf_bnd (f := Pig.tin) hpg hl hb (fun p h => by have := Pig.bnds h; omega)
  have hs2 := sumOf_bnd (f := Pig.ant) hpg hl hb (fun p h => by have := Pig.bnds h; omega)
  refine Sig.intro Tryz.func48 rfl 2 [(0, .e (.g [ai (s.pounds), ai (s.tl), ai (s.th), ai (s.al), ai (s.ah), ai (s.room), ai (s.tpl), ai (s.tph), ai (s.apl), ai (s.aph), .q 0])), (1, .e (.a (.q 1)))] rfl w48 rfl rfl fun I w => ?_
  refine WP.seq (WP.region ?_)
  refine WPl.l 2 3 rfl rfl rfl (o_boxg rfl) ?_
  refine WPl.l 3 4 rfl rfl rfl (o_alloc Z25) ?_
  refine WPl.nil (EX.then (WP.seq ?_))
  refine WP.imp (Imp.nam 4 5 (.func (.func 52) #[] #[]) (R := (PigQ Pig.pounds).and (Pred.is (.func (.func 52) #[] #[]))) (fun I => FvP.namea (fun (x : Pig) => (c52 x)) e52 (fun _ => (by simp [SV.res, El.res, At.res, keys])) I) rfl rfl) ?_
  refine WP.imp (Imp.nam 5 6 (.func (.func 59) #[] #[]) (R := (PigQ Pig.tin).and (Pred.is (.func (.func 59) #[] #[]))) (fun I => FvP.namea (fun (x : Pig) => (c59 x)) e59 (fun _ => (by simp [SV.res, El.res, At.res, keys])) I) rfl rfl) ?_
  refine WP.imp (Imp.nam 6 7 (.func (.func 60) #[] #[]) (R := (PigQ Pig.ant).and (Pred.is (.func (.func 60) #[] #[]))) (fun I => FvP.namea (fun (x : Pig) => (c60 x)) e60 (fun _ => (by simp [SV.res, El.res, At.res, keys])) I) rfl rfl) ?_
  refine WP.draw (nf := 7) [⟨[9, 10, 11, 13, 14, 15, 16, 17, 18, 19, 20, 21, 22, 23, 24, 25, 26, 27, 28], [], [], [], []⟩, ⟨[9, 10, 11, 13, 14, 15, 16, 17, 18, 19, 20, 21, 22, 23, 24, 25, 26, 27, 28], [], [], [], [0]⟩, ⟨[9, 10, 11, 13, 14, 15, 16, 17, 18, 19, 20, 21, 22, 23, 24, 25, 26, 27, 28], [], [], [], [0, 1]⟩, ⟨[9, 10, 11, 13, 14, 15, 16, 17, 18, 19, 20, 21, 22, 23, 24, 25, 26, 27, 28], [], [], [], [0, 1, 2]⟩, ⟨[5, 6, 7, 8, 10, 13, 14, 15, 16, 17, 18, 21, 22, 23, 24, 25, 26], [], [], [], []⟩, ⟨[5, 6, 7, 8, 9, 13, 14, 15, 16, 17, 18, 21, 22, 23, 24, 25, 26], [], [], [], []⟩, ⟨[5, 6, 7, 8, 13, 14, 15, 16, 17, 18, 21, 22, 23, 24, 25, 26], [], [], [], [4, 5]⟩, ⟨[13, 14, 15, 16, 17, 18, 19, 20, 21, 22, 23, 24, 25, 26, 27, 28], [], [], [], [0, 1, 2, 3, 4, 5, 6]⟩, ⟨[5, 6, 7, 8, 9, 10, 11, 12, 17, 18, 19, 21, 22, 23, 24, 25, 26], [], [], [], []⟩, ⟨[5, 6, 7, 8, 9, 10, 11, 12, 17, 18, 19, 21, 22, 23, 24, 25, 26], [], [], [], [8]⟩, ⟨[5, 6, 7, 8, 9, 10, 11, 12, 17, 18, 19, 21, 22, 23, 24, 25, 26], [], [], [], [8, 9]⟩, ⟨[5, 6, 7, 8, 9, 10, 11, 12, 17, 18, 19, 21, 22, 23, 24, 25, 26], [], [], [], [8, 9, 10]⟩, ⟨[5, 6, 7, 8, 9, 10, 11, 12, 13, 14, 15, 16, 18, 21, 22, 23, 24, 25, 26], [], [], [], []⟩, ⟨[5, 6, 7, 8, 9, 10, 11, 12, 13, 14, 15, 16, 17, 21, 22, 23, 24, 25, 26], [], [], [], []⟩, ⟨[5, 6, 7, 8, 12, 13, 14, 15, 16, 21, 22, 23, 24, 25, 26], [], [], [], [4, 5, 6, 12, 13]⟩, ⟨[5, 6, 7, 8, 12, 21, 22, 23, 24, 25, 26], [], [], [], [4, 5, 6, 8, 9, 10, 11, 12, 13, 14]⟩, ⟨[5, 6, 7, 8, 9, 10, 11, 12, 13, 14, 15, 16, 17, 18, 19, 20, 25, 26, 27], [], [], [], []⟩, ⟨[5, 6, 7, 8, 9, 10, 11, 12, 13, 14, 15, 16, 17, 18, 19, 20, 25, 26, 27], [], [], [], [16]⟩, ⟨[5, 6, 7, 8, 9, 10, 11, 12, 13, 14, 15, 16, 17, 18, 19, 20, 25, 26, 27], [], [], [], [16, 17]⟩, ⟨[5, 6, 7, 8, 9, 10, 11, 12, 13, 14, 15, 16, 17, 18, 19, 20, 25, 26, 27], [], [], [], [16, 17, 18]⟩, ⟨[5, 6, 7, 8, 9, 10, 11, 12, 13, 14, 15, 16, 17, 18, 19, 20, 21, 22, 23, 24, 26], [], [], [], []⟩, ⟨[5, 6, 7, 8, 9, 10, 11, 12, 13, 14, 15, 16, 17, 18, 19, 20, 21, 22, 23, 24, 25], [], [], [], []⟩, ⟨[5, 6, 7, 8, 12, 21, 22, 23, 24], [], [], [], [4, 5, 6, 8, 9, 10, 11, 12, 13, 14, 15, 20, 21]⟩, ⟨[5, 6, 7, 8, 12], [], [], [], [4, 5, 6, 8, 9, 10, 11, 12, 13, 14, 15, 16, 17, 18, 19, 20, 21, 22]⟩, ⟨[], [], [], [], [0, 1, 2, 3, 4, 5, 6, 7, 8, 9, 10, 11, 12, 13, 14, 15, 16, 17, 18, 19, 20, 21, 22, 23]⟩, ⟨[], [], [], [3], [0, 1, 2, 3, 4, 5, 6, 7, 8, 9, 10, 11, 12, 13, 14, 15, 16, 17, 18, 19, 20, 21, 22, 23, 24]⟩] (by kernel_rfl) (by kernel_rfl) ?_
  refine DRQ.v rfl rfl rfl (o_fldp F73_0 rfl) ?_
  refine DRQ.v rfl rfl rfl (o_fldp F28_0 rfl) ?_
  refine DRQ.v rfl rfl rfl (o_fldp F25_0 rfl) ?_
  refine DRQ.v rfl rfl rfl (o_ldp S3 rfl rfl rfl) ?_
  refine DRQ.v rfl rfl rfl (o_ldpa G73 rfl rfl rfl) ?_
  refine DRQ.v rfl rfl rfl (o_move rfl) ?_
  refine DRQ.cs rfl rfl rfl rfl (o_sigc 7 (ren [(0, 0), (1, 1), (2, 4)]) (c50 s add Pig.pounds hpg hb hl (fun p h => by have := Pig.bnds h; (show 0 ≤ p.pounds ∧ p.pounds ≤ 99); omega)) e50 rfl rfl ⟨.inl rfl, .inl rfl, .inr ⟨_, _, rfl, fun _ => rfl, (lxr rfl)⟩, trivial⟩ w50 ⟨(lx rfl), (lx rfl), (lxl rfl), trivial⟩ r50) ?_
  refine DRQ.v rfl rfl rfl (o_add rfl rfl (by first | omega | (simp; omega)) (by first | omega | (simp; omega))) ?_
  refine DRQ.v rfl rfl rfl (o_fldp F73_0 rfl) ?_
  refine DRQ.v rfl rfl rfl (o_fldp F28_0 rfl) ?_
  refine DRQ.v rfl rfl rfl (o_fldp F25_1 rfl) ?_
  refine DRQ.v rfl rfl rfl (o_ldpg G23 rfl rfl rfl) ?_
  refine DRQ.v rfl rfl rfl (o_ldpa G73 rfl rfl rfl) ?_
  refine DRQ.v rfl rfl rfl (o_move rfl) ?_
  refine DRQ.cs rfl rfl rfl rfl (o_sigc 7 (ren [(0, 0), (1, 1), (2, 5)]) (c50 s add Pig.tin hpg hb hl (fun p h => by have := Pig.bnds h; (show 0 ≤ p.tin ∧ p.tin ≤ 99); omega)) e50 rfl rfl ⟨.inl rfl, .inl rfl, .inr ⟨_, _, rfl, fun _ => rfl, (lxr rfl)⟩, trivial⟩ w50 ⟨(lx rfl), (lx rfl), (lxl rfl), trivial⟩ r50) ?_
  refine DRQ.cs rfl rfl rfl rfl (o_sig 7 id (c57 s.tl s.th (sumOf Pig.tin s.pigs add) (by omega) (by omega) (by omega)) e57 rfl rfl rfl w57 trivial r57) ?_
  refine DRQ.v rfl rfl rfl (o_fldp F73_0 rfl) ?_
  refine DRQ.v rfl rfl rfl (o_fldp F28_0 rfl) ?_
  refine DRQ.v rfl rfl rfl (o_fldp F25_2 rfl) ?_
  refine DRQ.v rfl rfl rfl (o_ldpg G23 rfl rfl rfl) ?_
  refine DRQ.v rfl rfl rfl (o_ldpa G73 rfl rfl rfl) ?_
  refine DRQ.v rfl rfl rfl (o_move rfl) ?_
  refine DRQ.cs rfl rfl rfl rfl (o_sigc 7 (ren [(0, 0), (1, 1), (2, 6)]) (c50 s add Pig.ant hpg hb hl (fun p h => by have := Pig.bnds h; (show 0 ≤ p.ant ∧ p.ant ≤ 99); omega)) e50 rfl rfl ⟨.inl rfl, .inl rfl, .inr ⟨_, _, rfl, fun _ => rfl, (lxr rfl)⟩, trivial⟩ w50 ⟨(lx rfl), (lx rfl), (lxl rfl), trivial⟩ r50) ?_
  refine DRQ.cs rfl rfl rfl rfl (o_sig 7 id (c57 s.al s.ah (sumOf Pig.ant s.pigs add) (by omega) (by omega) (by omega)) e57 rfl rfl rfl w57 trivial r57) ?_
  refine DRQ.v rfl rfl rfl (o_build B25 rfl ⟨rfl, trivial⟩ rfl rfl) ?_
  refine DRQ.s 3 rfl rfl rfl (o_stag G25 rfl rfl rfl ⟨rfl, rfl, rfl, rfl, rfl, trivial⟩ rfl rfl) ?_
  refine DRQ.nil' ?_
  refine EX.then (WP.ret ?_)
  exact EX.fin id (.inl rfl) rfl (.cellg G25 rfl rfl rfl (.nil)) rfl r48 trivial (by simp) (by simp)
theorem w82 {s : Shop} {p : Po} {n : Int} : ∀ x ∈ ([.e (.g [ai (s.pounds), ai (s.tl), ai (s.th), ai (s.al), ai (s.ah), ai (s.room), ai (s.tpl), ai (s.tph), ai (s.apl), ai (s.aph), .q 0]), .e (.g [ai (p.pounds), ai (p.tl), ai (p.th), ai (p.al), ai (p.ah)]), .i (n)] : List SV), x.res (keys (α := Pred) [(0, PL EPig (s.pigs))]) := by simp [SV.res, El.res, At.res, keys]
theorem r82 {s : Shop} {p : Po} {n : Int} : SV.res (keys (α := Pred) []) (.b (s.failsP p n)) := by simp [SV.res, El.res, At.res, keys]
set_option maxHeartbeats 4000000 in
theorem c82 (s : Shop) (p : Po) (n : Int) (hs : s.chk = true) (hp : PoB p) : Sig Tryz.prog 82 [.e (.g [ai (s.pounds), ai (s.tl), ai (s.th), ai (s.al), ai (s.ah), ai (s.room), ai (s.tpl), ai (s.tph), ai (s.apl), ai (s.aph), .q 0]), .e (.g [ai (p.pounds), ai (p.tl), ai (p.th), ai (p.al), ai (p.ah)]), .i (n)] [(0, PL EPig (s.pigs))] (.b (s.failsP p n)) [] := by
  have htb := tl_bnd hs
  unfold PoB at hp
  have m0 := mulb (a := p.pounds) (A := 1000000) (b := s.tpl) (B := 1000) (by omega) (by omega) (by omega) (by omega)
  have m1 := mulb (a := p.pounds) (A := 1000000) (b := s.tph) (B := 1000) (by omega) (by omega) (by omega) (by omega)
  have m2 := mulb (a := p.pounds) (A := 1000000) (b := s.apl) (B := 1000) (by omega) (by omega) (by omega) (by omega)
  have m3 := mulb (a := p.pounds) (A := 1000000) (b := s.aph) (B := 1000) (by omega) (by omega) (by omega) (by omega)
  refine Sig.intro Tryz.func82 rfl 1 [(0, .e (.g [ai (s.pounds), ai (s.tl), ai (s.th), ai (s.al), ai (s.ah), ai (s.room), ai (s.tpl), ai (s.tph), ai (s.apl), ai (s.aph), .q 0])), (1, .e (.g [ai (p.pounds), ai (p.tl), ai (p.th), ai (p.al), ai (p.ah)])), (2, .i (n))] rfl w82 rfl rfl fun I w => ?_
  refine WP.seq (WP.region ?_)
  refine WPl.l 1 2 rfl rfl rfl (o_boxg rfl) ?_
  refine WPl.l 2 3 rfl rfl rfl (o_boxg rfl) ?_
  refine WPl.v rfl (o_assign rfl) ?_
  refine WPl.nil (EX.then (WP.seq (WP.seq (WP.region ?_))))
  refine WPl.v rfl (o_move rfl) ?_
  refine WPl.nil (EX.then (WP.block (WP.seq (WP.region ?_))))
  refine WPl.v rfl (o_eql rfl rfl) ?_
  refine WPl.v rfl (o_assign rfl) ?_
  refine WPl.nil (EX.then ?_)
  refine WP.cond rfl (fun hc1 => ?_) (fun hc1 => ?_)
  · try simp only [cnd] at hc1
    refine WP.seq (WP.region ?_)
    refine WPl.v rfl (o_fldp F25_1 rfl) ?_
    refine WPl.v rfl (o_fldp F23_0 rfl) ?_
    refine WPl.v rfl (o_ldp S3 rfl rfl rfl) ?_
    refine WPl.v rfl (o_mul rfl rfl (by first | omega | (simp; omega)) (by first | omega | (simp; omega))) ?_
    refine WPl.v rfl (o_fldp F25_0 rfl) ?_
    refine WPl.v rfl (o_ldp S3 rfl rfl rfl) ?_
    refine WPl.v rfl (o_fldp F73_0 rfl) ?_
    refine WPl.v rfl (o_fldp F28_2 rfl) ?_
    refine WPl.v rfl (o_fldp F23_0 rfl) ?_
    refine WPl.v rfl (o_ldp S3 rfl rfl rfl) ?_
    refine WPl.v rfl (o_mul rfl rfl (by first | omega | (simp; omega)) (by first | omega | (simp; omega))) ?_
    refine WPl.v rfl (o_lss rfl rfl) ?_
    refine WPl.v rfl (o_assign rfl) ?_
    refine WPl.nil (EX.then (WP.ret (EX.ret_blk (EX.ret_then ?_))))
    rw [show s.failsP p n = decide (1000 * p.tl < p.pounds * s.tpl) from if_pos hc1]
    exact EX.fin id (.inl rfl) rfl (.tmp rfl .nil) rfl (by simp [SV.res, El.res, At.res, keys]) trivial (by simp) (by simp)
  · try simp only [cnd] at hc1
    refine WP.seq (WP.region ?_)
    refine WPl.v rfl (o_eql rfl rfl) ?_
    refine WPl.v rfl (o_assign rfl) ?_
    refine WPl.nil (EX.then ?_)
    refine WP.cond rfl (fun hc2 => ?_) (fun hc2 => ?_)
    · try simp only [cnd] at hc2
      refine WP.seq (WP.region ?_)
      refine WPl.v rfl (o_fldp F25_1 rfl) ?_
      refine WPl.v rfl (o_fldp F23_1 rfl) ?_
      refine WPl.v rfl (o_ldp S3 rfl rfl rfl) ?_
      refine WPl.v rfl (o_mul rfl rfl (by first | omega | (simp; omega)) (by first | omega | (simp; omega))) ?_
      refine WPl.v rfl (o_fldp F25_0 rfl) ?_
      refine WPl.v rfl (o_ldp S3 rfl rfl rfl) ?_
      refine WPl.v rfl (o_fldp F73_0 rfl) ?_
      refine WPl.v rfl (o_fldp F28_2 rfl) ?_
      refine WPl.v rfl (o_fldp F23_1 rfl) ?_
      refine WPl.v rfl (o_ldp S3 rfl rfl rfl) ?_
      refine WPl.v rfl (o_mul rfl rfl (by first | omega | (simp; omega)) (by first | omega | (simp; omega))) ?_
      refine WPl.v rfl (o_gtr rfl rfl) ?_
      refine WPl.v rfl (o_assign rfl) ?_
      refine WPl.nil (EX.then (WP.ret (EX.ret_blk (EX.ret_then ?_))))
      rw [show s.failsP p n = decide (p.pounds * s.tph < 1000 * p.th) from by unfold Shop.failsP; rw [if_neg hc1, if_pos hc2]]
      exact EX.fin id (.inl rfl) rfl (.tmp rfl .nil) rfl (by simp [SV.res, El.res, At.res, keys]) trivial (by simp) (by simp)
    · try simp only [cnd] at hc2
      refine WP.seq (WP.region ?_)
      refine WPl.v rfl (o_eql rfl rfl) ?_
      refine WPl.v rfl (o_assign rfl) ?_
      refine WPl.nil (EX.then ?_)
      refine WP.cond rfl (fun hc3 => ?_) (fun hc3 => ?_)
      · try simp only [cnd] at hc3
        refine WP.seq (WP.region ?_)
        refine WPl.v rfl (o_fldp F25_2 rfl) ?_
        refine WPl.v rfl (o_fldp F23_0 rfl) ?_
        refine WPl.v rfl (o_ldp S3 rfl rfl rfl) ?_
        refine WPl.v rfl (o_mul rfl rfl (by first | omega | (simp; omega)) (by first | omega | (simp; omega))) ?_
        refine WPl.v rfl (o_fldp F25_0 rfl) ?_
        refine WPl.v rfl (o_ldp S3 rfl rfl rfl) ?_
        refine WPl.v rfl (o_fldp F73_0 rfl) ?_
        refine WPl.v rfl (o_fldp F28_3 rfl) ?_
        refine WPl.v rfl (o_fldp F23_0 rfl) ?_
        refine WPl.v rfl (o_ldp S3 rfl rfl rfl) ?_
        refine WPl.v rfl (o_mul rfl rfl (by first | omega | (simp; omega)) (by first | omega | (simp; omega))) ?_
        refine WPl.v rfl (o_lss rfl rfl) ?_
        refine WPl.v rfl (o_assign rfl) ?_
        refine WPl.nil (EX.then (WP.ret (EX.ret_blk (EX.ret_then ?_))))
        rw [show s.failsP p n = decide (1000 * p.al < p.pounds * s.apl) from by unfold Shop.failsP; rw [if_neg hc1, if_neg hc2, if_pos hc3]]
        exact EX.fin id (.inl rfl) rfl (.tmp rfl .nil) rfl (by simp [SV.res, El.res, At.res, keys]) trivial (by simp) (by simp)
      · try simp only [cnd] at hc3
        refine WP.skip (EX.blk (EX.then (WP.seq (WP.region ?_))))
        refine WPl.v rfl (o_fldp F25_2 rfl) ?_
        refine WPl.v rfl (o_fldp F23_1 rfl) ?_
        refine WPl.v rfl (o_ldp S3 rfl rfl rfl) ?_
        refine WPl.v rfl (o_mul rfl rfl (by first | omega | (simp; omega)) (by first | omega | (simp; omega))) ?_
        refine WPl.v rfl (o_fldp F25_0 rfl) ?_
        refine WPl.v rfl (o_ldp S3 rfl rfl rfl) ?_
        refine WPl.v rfl (o_fldp F73_0 rfl) ?_
        refine WPl.v rfl (o_fldp F28_3 rfl) ?_
        refine WPl.v rfl (o_fldp F23_1 rfl) ?_
        refine WPl.v rfl (o_ldp S3 rfl rfl rfl) ?_
        refine WPl.v rfl (o_mul rfl rfl (by first | omega | (simp; omega)) (by first | omega | (simp; omega))) ?_
        refine WPl.v rfl (o_gtr rfl rfl) ?_
        refine WPl.v rfl (o_assign rfl) ?_
        refine WPl.nil (EX.then (WP.ret ?_))
        rw [show s.failsP p n = decide (p.pounds * s.aph < 1000 * p.ah) from by unfold Shop.failsP; rw [if_neg hc1, if_neg hc2, if_neg hc3]]
        exact EX.fin id (.inl rfl) rfl (.tmp rfl .nil) rfl (by simp [SV.res, El.res, At.res, keys]) trivial (by simp) (by simp)
theorem w81  : ∀ x ∈ ([] : List SV), x.res (keys (α := Pred) []) := by simp [SV.res, El.res, At.res, keys]
set_option maxHeartbeats 4000000 in
theorem c81   : SigI Tryz.prog 81 [] [] (limItems) := by
  refine SigI.intro Tryz.func81 rfl 1 0 w81 rfl rfl rfl fun I w l Y K F0 hround => ?_
  have hF : ∀ c, F0 c → F0 c := fun _ h => h
  refine WP.seq (WP.region ?_)
  refine WPl.v rfl (o_assign rfl) ?_
  refine WPl.nil (EX.then (WP.block ?_))
  refine WP.loop (Gh := Nat × (Nat → Prop)) (fun (⟨i, F⟩ : Nat × (Nat → Prop)) => ⟨1, [(0, .e (.a (.v (yv l)))), (2, .i ((i : Int) + 1))], [], [(0, .ext ((Y i).xp F))], [], []⟩) (fun (⟨i, F⟩ : Nat × (Nat → Prop)) => i ≤ 4 ∧ ∀ c, F0 c → F c) (fun (⟨i, F⟩ : Nat × (Nat → Prop)) => 4 - i) ((0, F0)) id ?_ (LeR.of ⟨rfl, rfl, trivial⟩ trivial ⟨rfl, trivial⟩ rfl rfl rfl rfl rfl) ?_
  · exact ⟨by omega, fun _ h => h⟩
  rintro ⟨i, F⟩ hφ
  obtain ⟨hi, hF⟩ : i ≤ 4 ∧ ∀ c, F0 c → F c := hφ
  refine WP.seq (WP.seq (WP.region ?_))
  refine WPl.v rfl (o_move rfl) ?_
  refine WPl.v rfl (o_leq rfl rfl) ?_
  refine WPl.nil (EX.then ?_)
  refine WP.cond rfl (fun hc1 => ?_) (fun hc1 => ?_)
  · try simp only [cnd] at hc1
    refine WP.skip (EX.then (WP.seq (WP.block (WP.seq (WP.region ?_)))))
    refine WPl.v rfl (o_move rfl) ?_
    refine WPl.v rfl (o_move rfl) ?_
    refine WPl.yield (Y' := Y (i + 1)) (K' := K) 0 rfl rfl rfl rfl rfl rfl (yieldH (ky := 0) (J := []) (it := ⟨[.i ((i : Int) + 1)], [], []⟩) id (hround (i) _ (range_at (by omega))) rfl (hF) SvsOK.rf (by simp [SV.res, El.res, At.res, keys]) trivial trivial) fun by9 F1 hF1 => ?_
    have hF : ∀ c, F0 c → F1 c := fun c hc => hF1 c (hF c hc)
    cases by9
    · skip
      refine WPl.v rfl (o_not rfl) ?_
      refine WPl.nil (EX.then ?_)
      refine WP.cond rfl (fun _ => ?_) (fun h => by cases h)
      refine WP.ret (EX.ret_blk (EX.ret_then (EX.ret_then (EX.ret_blk ?_))))
      exact EX.finI (.inl rfl) rfl rfl (ky := 0) (Y := K) rfl (fun _ _ h => .inr h)
    · skip
      refine WPl.v rfl (o_not rfl) ?_
      refine WPl.nil (EX.then ?_)
      refine WP.cond rfl (fun h => by cases h) (fun _ => ?_)
      refine WP.skip (EX.blk (EX.then (WP.region ?_)))
      refine WPl.v rfl (o_move rfl) ?_
      refine WPl.v rfl (o_add rfl rfl (by first | omega | (simp; omega)) (by first | omega | (simp; omega))) ?_
      refine WPl.v rfl (o_assign rfl) ?_
      refine WPl.nil ?_
      refine EX.again ((i + 1, F1)) id (by exact ⟨by omega, hF⟩) (by first | omega | (dsimp only; omega) | (simp only []; omega)) (LeR.of ⟨rfl, (congrArg (fun z => some (SV.i z)) (show (((i : Int) + 1) + 1) = ((fun (⟨i, F⟩ : Nat × (Nat → Prop)) => (i : Int) + 1) (i + 1, F1)) from by show (i : Int) + 1 + 1 = ((i + 1 : Nat) : Int) + 1; omega)), trivial⟩ trivial ⟨rfl, trivial⟩ rfl rfl rfl rfl rfl)
  · try simp only [cnd] at hc1
    refine WP.exit (EX.exit_then (EX.exit_then (EX.exit_blk ?_)))
    have hend : i = limItems.length := by simp [limItems]; omega
    exact EX.finI (.inr rfl) rfl rfl (ky := 0) (Y := Y (i)) rfl (fun _ _ h => .inl (by rw [hend] at h; exact h))
theorem w47 {s : Shop} {p : Po} : ∀ x ∈ ([.e (.g [ai (s.pounds), ai (s.tl), ai (s.th), ai (s.al), ai (s.ah), ai (s.room), ai (s.tpl), ai (s.tph), ai (s.apl), ai (s.aph), .q 0]), .e (.g [ai (p.pounds), ai (p.tl), ai (p.th), ai (p.al), ai (p.ah)])] : List SV), x.res (keys (α := Pred) [(0, PL EPig (s.pigs))]) := by simp [SV.res, El.res, At.res, keys]
theorem r47 {s : Shop} {p : Po} : SV.res (keys (α := Pred) []) (.b (s.safeP p)) := by simp [SV.res, El.res, At.res, keys]
set_option maxHeartbeats 4000000 in
theorem c47 (s : Shop) (p : Po) (hs : s.chk = true) (hp : PoB p) : Sig Tryz.prog 47 [.e (.g [ai (s.pounds), ai (s.tl), ai (s.th), ai (s.al), ai (s.ah), ai (s.room), ai (s.tpl), ai (s.tph), ai (s.apl), ai (s.aph), .q 0]), .e (.g [ai (p.pounds), ai (p.tl), ai (p.th), ai (p.al), ai (p.ah)])] [(0, PL EPig (s.pigs))] (.b (s.safeP p)) [] := by
  refine Sig.intro Tryz.func47 rfl 1 [(0, .e (.g [ai (s.pounds), ai (s.tl), ai (s.th), ai (s.al), ai (s.ah), ai (s.room), ai (s.tpl), ai (s.tph), ai (s.apl), ai (s.aph), .q 0])), (1, .e (.g [ai (p.pounds), ai (p.tl), ai (p.th), ai (p.al), ai (p.ah)]))] rfl w47 rfl rfl fun I w => ?_
  refine WP.seq (WP.region ?_)
  refine WPl.l 1 2 rfl rfl rfl (o_boxg rfl) ?_
  refine WPl.l 2 3 rfl rfl rfl (o_boxg rfl) ?_
  refine WPl.l 3 4 rfl rfl rfl (o_alloc Z4) ?_
  refine WPl.nil (EX.then (WP.seq (WP.block ?_)))
  refine WP.leR (S' := ⟨4, [(2, .e (.a (.p 1 (0)))), (3, .e (.a (.p 2 (0)))), (4, .e (.a (.p 3 (0))))], [(0, PL EPig (s.pigs))], [(1, .blk [ai (s.pounds), ai (s.tl), ai (s.th), ai (s.al), ai (s.ah), ai (s.room), ai (s.tpl), ai (s.tph), ai (s.apl), ai (s.aph), .q 0] 73), (2, .blk [ai (p.pounds), ai (p.tl), ai (p.th), ai (p.al), ai (p.ah)] 25), (3, .blk [.v (.bool (false))] 4)], [], []⟩) id (LeR.of ⟨rfl, rfl, rfl, trivial⟩ ⟨(lx rfl), trivial⟩ ⟨rfl, rfl, rfl, trivial⟩ rfl rfl rfl rfl rfl) ?_
  refine WP.imp (Imp.nam 4 5 (.bool true) (R := Pred.pure (allI (fun j => !s.failsP p ((j : Int) + 1)) 0 = true)) (fun _ => rfl) rfl rfl) ?_
  refine WP.rangeV 8 0 (4) (fun g => ⟨[.i ((g : Int) + 1)], [], []⟩) (fun g => ⟨8, [(2, .e (.a (.p 1 (0)))), (3, .e (.a (.p 2 (0)))), (4, .e (.a (.p 3 (0))))], [(0, PL EPig (s.pigs)), (7, Pred.pure (allI (fun j => !s.failsP p ((j : Int) + 1)) g = true))], [(1, .blk [ai (s.pounds), ai (s.tl), ai (s.th), ai (s.al), ai (s.ah), ai (s.room), ai (s.tpl), ai (s.tph), ai (s.apl), ai (s.aph), .q 0] 73), (2, .blk [ai (p.pounds), ai (p.tl), ai (p.th), ai (p.al), ai (p.ah)] 25), (3, .blk [.v (.bool (false))] 4), (5, .ob (.deferred (some [])))], [5], []⟩) (fun c T => (s.safeP p = false ∧ c = .ret ∧ T = ⟨8, [(2, .e (.a (.p 1 (0)))), (3, .e (.a (.p 2 (0)))), (4, .e (.a (.p 3 (0))))], [(0, PL EPig (s.pigs))], [(1, .blk [ai (s.pounds), ai (s.tl), ai (s.th), ai (s.al), ai (s.ah), ai (s.room), ai (s.tpl), ai (s.tph), ai (s.apl), ai (s.aph), .q 0] 73), (2, .blk [ai (p.pounds), ai (p.tl), ai (p.th), ai (p.al), ai (p.ah)] 25), (3, .blk [.v (.bool (false))] 4), (5, .ob (.deferred (some [])))], [5], []⟩)) rfl (fv := .e (.a (.f 81 [])))  rfl (SigI.hit c81 e81) (rfl) (fun _ => RSt.of rfl rfl rfl rfl rfl rfl) ((by rintro c T (⟨_, rfl, rfl⟩) <;> exact RSt.of rfl rfl rfl rfl rfl rfl)) rfl rfl rfl (fun _ _ => ItemOK.of rfl) rfl rfl (ren [(7, 4)]) (LeR.of ⟨rfl, rfl, rfl, trivial⟩ ⟨(lx rfl), (lx rfl), trivial⟩ ⟨rfl, rfl, rfl, rfl, trivial⟩ rfl rfl rfl rfl rfl) ?_ ?_ ?_
  · intro g hg w1 E1 I1 R1 pβ1 pν1 us1
    refine WP.pure 7 (lx rfl) fun hinv1 => ?_
    refine WP.region ?_
    refine WPl.v rfl (o_assign rfl) ?_
    refine WPl.nil ?_
    refine EX.beg rfl ?_
    refine WP.block (WP.seq (WP.region ?_))
    refine WPl.v rfl (o_ldpa G73 rfl rfl rfl) ?_
    refine WPl.v rfl (o_ldpa G25 rfl rfl rfl) ?_
    refine WPl.v rfl (o_move rfl) ?_
    refine WPl.cs 8 rfl rfl rfl rfl (o_sig 8 (ren [(0, 0)]) (c82 s p ((g : Int) + 1) hs hp) e82 rfl rfl rfl w82 ⟨(lx rfl), trivial⟩ r82) ?_
    refine WPl.nil (EX.then ?_)
    refine WP.cond rfl (fun hc1 => ?_) (fun hc1 => ?_)
    · try simp only [cnd] at hc1
      refine WP.seq (WP.region ?_)
      refine WPl.s1 (o_sta S4 rfl rfl rfl rfl rfl) ?_
      refine WPl.nil (EX.then (WP.ret (EX.ret_blk ?_)))
      exact EX.jret id ⟨(by exact not_allI hg (by simpa using hc1)), rfl, rfl⟩ (LeR.of trivial ⟨(lx rfl), trivial⟩ ⟨rfl, rfl, rfl, rfl, rfl, trivial⟩ rfl rfl rfl rfl rfl)
    · try simp only [cnd] at hc1
      refine WP.skip (EX.blk ?_)
      have hinvn : allI (fun j => !s.failsP p ((j : Int) + 1)) (g + 1) = true := by simp only [allI, hinv1, Bool.true_and]; simpa using hc1
      refine EX.imp (Imp.nam 8 9 (.bool true) (R := Pred.pure (allI (fun j => !s.failsP p ((j : Int) + 1)) (g + 1) = true)) (fun _ => hinvn) rfl rfl) ?_
      exact EX.next (ren [(7, 8)]) (LeR.of trivial ⟨(lx rfl), (lx rfl), trivial⟩ ⟨rfl, rfl, rfl, rfl, rfl, trivial⟩ rfl rfl rfl rfl rfl)
  · rintro c T (⟨hj, rfl, rfl⟩)
    · skip
      refine WP.ret (EX.ret_blk (EX.ret_then ?_))
      rw [hj]
      exact EX.fin id (.inl rfl) rfl (.cell1 S4 rfl rfl (.nil)) rfl (by simp [SV.res, El.res, At.res, keys]) trivial (marks rfl) (by simp)
  · refine EX.pure 7 (lx rfl) fun hinv1 => ?_
    refine EX.blk (EX.then (WP.seq (WP.region ?_)))
    refine WPl.s1 (o_sta S4 rfl rfl rfl rfl rfl) ?_
    refine WPl.nil (EX.then (WP.ret ?_))
    rw [show s.safeP p = true from hinv1]
    exact EX.fin id (.inl rfl) rfl (.cell1 S4 rfl rfl (.nil)) rfl (by simp [SV.res, El.res, At.res, keys]) trivial (marks rfl) (by simp)
theorem w58 {a b n : Int} : ∀ x ∈ ([.e (.g [ai (a), ai (b)]), .i (n)] : List SV), x.res (keys (α := Pred) []) := by simp [SV.res, El.res, At.res, keys]
theorem r58 {a b n : Int} : SV.res (keys (α := Pred) []) (.e (.g [ai (justL a n), ai (justH b n)])) := by simp [SV.res, El.res, At.res, keys]
set_option maxHeartbeats 4000000 in
theorem c58 (a b n : Int) (h1 : 0 ≤ a ∧ a ≤ 1000) (h2 : 0 ≤ b ∧ b ≤ 1000) (h3 : 0 ≤ n ∧ n ≤ 1000000) : Sig Tryz.prog 58 [.e (.g [ai (a), ai (b)]), .i (n)] [] (.e (.g [ai (justL a n), ai (justH b n)])) [] := by
  have m1 := mulb (a := n) (A := 1000000) (b := a) (B := 1000) (by omega) (by omega) (by omega) (by omega)
  have m2 := mulb (a := n) (A := 1000000) (b := b) (B := 1000) (by omega) (by omega) (by omega) (by omega)
  have q1 := Int.tdiv_nonneg (show 0 ≤ n * a + 1000 - 1 by omega) (show (0 : Int) ≤ 1000 by omega)
  have q2 := Int.tdiv_le_self 1000 (show 0 ≤ n * a + 1000 - 1 by omega)
  have q3 := Int.tdiv_nonneg m2.1 (show (0 : Int) ≤ 1000 by omega)
  have q4 := Int.tdiv_le_self 1000 m2.1
  refine Sig.intro Tryz.func58 rfl 0 [(0, .e (.g [ai (a), ai (b)])), (1, .i (n))] rfl w58 rfl rfl fun I w => ?_
  refine WP.seq (WP.region ?_)
  refine WPl.l 0 1 rfl rfl rfl (o_boxg rfl) ?_
  refine WPl.l 1 2 rfl rfl rfl (o_alloc Z23) ?_
  refine WPl.nil (EX.then (WP.seq (WP.region ?_)))
  refine WPl.v rfl (o_move rfl) ?_
  refine WPl.v rfl (o_fldp F23_0 rfl) ?_
  refine WPl.v rfl (o_ldp S3 rfl rfl rfl) ?_
  refine WPl.v rfl (o_mul rfl rfl (by first | omega | (simp; omega)) (by first | omega | (simp; omega))) ?_
  refine WPl.v rfl (o_add rfl rfl (by first | omega | (simp; omega)) (by first | omega | (simp; omega))) ?_
  refine WPl.v rfl (o_sub rfl rfl (by first | omega | (simp; omega)) (by first | omega | (simp; omega))) ?_
  refine WPl.v rfl (o_quo rfl rfl (by first | omega | (simp; omega)) (by first | omega | (simp; omega)) (by first | omega | (simp; omega))) ?_
  refine WPl.v rfl (o_move rfl) ?_
  refine WPl.v rfl (o_fldp F23_1 rfl) ?_
  refine WPl.v rfl (o_ldp S3 rfl rfl rfl) ?_
  refine WPl.v rfl (o_mul rfl rfl (by first | omega | (simp; omega)) (by first | omega | (simp; omega))) ?_
  refine WPl.v rfl (o_quo rfl rfl (by first | omega | (simp; omega)) (by first | omega | (simp; omega)) (by first | omega | (simp; omega))) ?_
  refine WPl.v rfl (o_build B23 rfl ⟨rfl, rfl, trivial⟩ rfl rfl) ?_
  refine WPl.s1 (o_stag G23 rfl rfl rfl ⟨rfl, rfl, trivial⟩ rfl rfl) ?_
  refine WPl.nil (EX.then (WP.ret ?_))
  exact EX.fin id (.inl rfl) rfl (.cellg G23 rfl rfl rfl (.nil)) rfl r58 trivial (by simp) (by simp)
theorem w29N {s : Shop} : ∀ x ∈ ([.e (.g [ai (s.pounds), ai (s.tl), ai (s.th), ai (s.al), ai (s.ah), ai (s.room), ai (s.tpl), ai (s.tph), ai (s.apl), ai (s.aph), .q 0]), .e (.a (.v (.nilFunc)))] : List SV), x.res (keys (α := Pred) [(0, PL EPig (s.pigs))]) := by simp [SV.res, El.res, At.res, keys]
theorem r29N {s : Shop} : SV.res (keys (α := Pred) [(0, PL EPig (s.pigs))]) (.t [.g [ai (s.pounds), ai (s.tl), ai (s.th), ai (s.al), ai (s.ah), ai (s.room), ai (s.tpl), ai (s.tph), ai (s.apl), ai (s.aph), .q 0], .a (ai (errM s.chk))]) := by simp [SV.res, El.res, At.res, keys]
set_option maxHeartbeats 4000000 in
theorem c29N (s : Shop) (hl : s.pigs.length ≤ 40) : Sig Tryz.prog 29 [.e (.g [ai (s.pounds), ai (s.tl), ai (s.th), ai (s.al), ai (s.ah), ai (s.room), ai (s.tpl), ai (s.tph), ai (s.apl), ai (s.aph), .q 0]), .e (.a (.v (.nilFunc)))] [(0, PL EPig (s.pigs))] (.t [.g [ai (s.pounds), ai (s.tl), ai (s.th), ai (s.al), ai (s.ah), ai (s.room), ai (s.tpl), ai (s.tph), ai (s.apl), ai (s.aph), .q 0], .a (ai (errM s.chk))]) [(0, PL EPig (s.pigs))] := by
  refine Sig.intro Tryz.func29 rfl 1 [(0, .e (.g [ai (s.pounds), ai (s.tl), ai (s.th), ai (s.al), ai (s.ah), ai (s.room), ai (s.tpl), ai (s.tph), ai (s.apl), ai (s.aph), .q 0])), (1, .e (.a (.v (.nilFunc))))] rfl w29N rfl rfl fun I w => ?_
  refine WP.seq (WP.region ?_)
  refine WPl.l 1 2 rfl rfl rfl (o_boxg rfl) ?_
  refine WPl.l 2 3 rfl rfl rfl (o_alloc Z73) ?_
  refine WPl.v rfl (o_assign rfl) ?_
  refine WPl.nil (EX.then (WP.seq (WP.region ?_)))
  refine WPl.v rfl (o_ldpa G28 rfl rfl rfl) ?_
  refine WPl.v rfl (o_build B73 rfl trivial rfl rfl) ?_
  refine WPl.l 3 4 rfl rfl rfl (o_alloc Z73) ?_
  refine WPl.s1 (o_stag G73 rfl rfl rfl ⟨rfl, rfl, rfl, rfl, rfl, rfl, rfl, rfl, rfl, rfl, (.inl ⟨_, (lx rfl), PL.one⟩), trivial⟩ rfl rfl) ?_
  refine WPl.nil (EX.then (WP.seq (WP.seq (WP.region ?_))))
  refine WPl.v rfl (o_ldpa G28 rfl rfl rfl) ?_
  refine WPl.cs 4 rfl rfl rfl rfl (o_sig 4 (ren [(0, 0)]) (c56 s hl) e56 rfl rfl rfl w56 ⟨(lx rfl), trivial⟩ r56) ?_
  refine WPl.v rfl (o_assign rfl) ?_
  refine WPl.nil (EX.then (WP.seq (WP.region ?_)))
  refine WPl.v rfl (o_move rfl) ?_
  refine WPl.v rfl (o_neq rfl rfl) ?_
  refine WPl.nil (EX.then ?_)
  refine WP.cond rfl (fun hc1 => ?_) (fun hc1 => ?_)
  · try simp only [cnd] at hc1
    refine WP.seq (WP.region ?_)
    refine WPl.v rfl (o_ldpa G73 rfl rfl rfl) ?_
    refine WPl.v rfl (o_move rfl) ?_
    refine WPl.s1 (o_stag G73 rfl rfl rfl ⟨rfl, rfl, rfl, rfl, rfl, rfl, rfl, rfl, rfl, rfl, (.inl ⟨_, (lx rfl), PL.one⟩), trivial⟩ rfl rfl) ?_
    refine WPl.v rfl (o_assign rfl) ?_
    refine WPl.nil (EX.then (WP.ret (EX.ret_then ?_)))
    exact EX.fin (ren [(0, 0)]) (.inl rfl) rfl (.cellg G73 rfl rfl rfl (.tmp rfl .nil)) rfl r29N ⟨(lx rfl), trivial⟩ (by simp) (by simp)
  · try simp only [cnd] at hc1
    refine WP.skip (EX.then (WP.seq (WP.seq (WP.region ?_))))
    refine WPl.v rfl (o_move rfl) ?_
    refine WPl.v rfl (o_nenil Tryz.underlying105 rfl) ?_
    refine WPl.v rfl (o_move rfl) ?_
    refine WPl.off rfl ⟨_, _, rfl, rfl, rfl⟩ ?_
    refine WPl.off rfl ⟨_, _, rfl, rfl, rfl⟩ ?_
    refine WPl.off rfl ⟨_, _, rfl, rfl, rfl⟩ ?_
    refine WPl.off rfl ⟨_, _, rfl, rfl, rfl⟩ ?_
    refine WPl.v rfl (o_pickF rfl rfl) ?_
    refine WPl.nil (EX.then ?_)
    refine WP.cond rfl (fun h => by cases h) (fun _ => ?_)
    refine WP.skip (EX.then (WP.seq (WP.region ?_)))
    refine WPl.v rfl (o_ldpa G73 rfl rfl rfl) ?_
    refine WPl.s1 (o_stag G73 rfl rfl rfl ⟨rfl, rfl, rfl, rfl, rfl, rfl, rfl, rfl, rfl, rfl, (.inl ⟨_, (lx rfl), PL.one⟩), trivial⟩ rfl rfl) ?_
    refine WPl.v rfl (o_assign rfl) ?_
    refine WPl.nil (EX.then (WP.ret ?_))
    rw [show errM s.chk = 0 from by simpa using hc1]
    exact EX.fin (ren [(0, 0)]) (.inl rfl) rfl (.cellg G73 rfl rfl rfl (.tmp rfl .nil)) rfl (by simp [SV.res, El.res, At.res, keys]) ⟨(lx rfl), trivial⟩ (by simp) (by simp)
theorem w25 {s : Shop} {z : AdL s} : ∀ x ∈ ([.e (.g [ai (s.pounds), ai (s.tl), ai (s.th), ai (s.al), ai (s.ah), ai (s.room), ai (s.tpl), ai (s.tph), ai (s.apl), ai (s.aph), .q 0]), .e (.a (.q 1))] : List SV), x.res (keys (α := Pred) [(0, PL EPig (s.pigs)), (1, PL EP.int (z.1))]) := by simp [SV.res, El.res, At.res, keys]
theorem r25 {s : Shop} {z : AdL s} : SV.res (keys (α := Pred) [(0, PL EP.int (priceG s z.1))]) (.e (.a (.q 0))) := by simp [SV.res, El.res, At.res, keys]
set_option maxHeartbeats 4000000 in
theorem c25 (s : Shop) (z : AdL s) (hs : s.chk = true) : Sig Tryz.prog 25 [.e (.g [ai (s.pounds), ai (s.tl), ai (s.th), ai (s.al), ai (s.ah), ai (s.room), ai (s.tpl), ai (s.tph), ai (s.apl), ai (s.aph), .q 0]), .e (.a (.q 1))] [(0, PL EPig (s.pigs)), (1, PL EP.int (z.1))] (.e (.a (.q 0))) [(0, PL EP.int (priceG s z.1))] := by
  have hpg := Shop.pigsOK hs
  have hx := z.2
  refine Sig.intro Tryz.func25 rfl 2 [(0, .e (.g [ai (s.pounds), ai (s.tl), ai (s.th), ai (s.al), ai (s.ah), ai (s.room), ai (s.tpl), ai (s.tph), ai (s.apl), ai (s.aph), .q 0])), (1, .e (.a (.q 1)))] rfl w25 rfl rfl fun I w => ?_
  refine WP.seq (WP.region ?_)
  refine WPl.l 2 3 rfl rfl rfl (o_boxg rfl) ?_
  refine WPl.v rfl (o_assign rfl) ?_
  refine WPl.nil (EX.then (WP.seq ?_))
  refine WP.imp (Imp.nam 3 4 (.func (.func 51) #[] #[]) (R := (PigQ Pig.pence).and (Pred.is (.func (.func 51) #[] #[]))) (fun I => FvP.namea (fun (x : Pig) => (c51 x)) e51 (fun _ => (by simp [SV.res, El.res, At.res, keys])) I) rfl rfl) ?_
  refine WP.imp (Imp.nam 4 5 (.func (.func 52) #[] #[]) (R := (PigQ Pig.pounds).and (Pred.is (.func (.func 52) #[] #[]))) (fun I => FvP.namea (fun (x : Pig) => (c52 x)) e52 (fun _ => (by simp [SV.res, El.res, At.res, keys])) I) rfl rfl) ?_
  refine WP.draw (nf := 6) [⟨[6, 8, 9], [], [], [], []⟩, ⟨[5, 8, 9], [], [], [], []⟩, ⟨[8, 9], [], [], [], [0, 1]⟩, ⟨[5, 6, 7, 9], [], [], [], []⟩, ⟨[5, 6, 7, 8], [], [], [], []⟩, ⟨[], [], [], [], [0, 1, 2, 3, 4]⟩, ⟨[], [], [5], [5], [0, 1, 2, 3, 4, 5]⟩, ⟨[], [], [], [], [0, 1, 2, 3, 4, 5, 6]⟩] (by kernel_rfl) (by kernel_rfl) ?_
  refine DRQ.v rfl rfl rfl (o_ldpa G73 rfl rfl rfl) ?_
  refine DRQ.v rfl rfl rfl (o_move rfl) ?_
  refine DRQ.cs rfl rfl rfl rfl (o_sigc 5 (ren [(0, 0), (1, 1), (2, 3)]) (c50 s z.1 Pig.pence hpg hx.2 (by omega) (fun p h => by have := Pig.bnds h; (show 0 ≤ p.pence ∧ p.pence ≤ 99); omega)) e50 rfl rfl ⟨.inl rfl, .inl rfl, .inr ⟨_, _, rfl, fun _ => rfl, (lxr rfl)⟩, trivial⟩ w50 ⟨(lx rfl), (lx rfl), (lxl rfl), trivial⟩ r50) ?_
  refine DRQ.v rfl rfl rfl (o_ldpa G73 rfl rfl rfl) ?_
  refine DRQ.v rfl rfl rfl (o_move rfl) ?_
  refine DRQ.cs rfl rfl rfl rfl (o_sigc 5 (ren [(0, 0), (1, 1), (2, 4)]) (c50 s z.1 Pig.pounds hpg hx.2 (by omega) (fun p h => by have := Pig.bnds h; (show 0 ≤ p.pounds ∧ p.pounds ≤ 99); omega)) e50 rfl rfl ⟨.inl rfl, .inl rfl, .inr ⟨_, _, rfl, fun _ => rfl, (lxr rfl)⟩, trivial⟩ w50 ⟨(lx rfl), (lx rfl), (lxl rfl), trivial⟩ r50) ?_
  refine DRQ.l 5 rfl rfl rfl rfl (o_bsl (E := EP.int) (l := [sumOf Pig.pence s.pigs z.1, sumOf Pig.pounds s.pigs z.1]) R45 rfl rfl (.cons (rfl) rfl (eok_int) (.cons (rfl) rfl (eok_int) (.nil))) rfl rfl) ?_
  refine DRQ.v rfl rfl rfl (o_assign rfl) ?_
  refine DRQ.nil' ?_
  refine EX.then (WP.ret ?_)
  refine EX.imp (Imp.frz (E := EP.int) (l := [sumOf Pig.pence s.pigs z.1, sumOf Pig.pounds s.pigs z.1]) 5 rfl rfl) ?_
  exact EX.fin (ren [(0, 5)]) (.inl rfl) rfl (.tmp rfl .nil) rfl r25 ⟨(lx rfl), trivial⟩ (by simp) (by simp)
theorem w87 {n : Int} : ∀ x ∈ ([.i (n)] : List SV), x.res (keys (α := Pred) []) := by simp [SV.res, El.res, At.res, keys]
theorem r87  : SV.res (keys (α := Pred) []) (.b (false)) := by simp [SV.res, El.res, At.res, keys]
set_option maxHeartbeats 4000000 in
theorem c87 (n : Int)  : Sig Tryz.prog 87 [.i (n)] [] (.b (false)) [] := by
  refine Sig.intro Tryz.func87 rfl 0 [(0, .i (n))] rfl w87 rfl rfl fun I w => ?_
  refine WP.seq (WP.region ?_)
  refine WPl.v rfl (o_assign rfl) ?_
  refine WPl.nil (EX.then (WP.seq (WP.region ?_)))
  refine WPl.v rfl (o_move rfl) ?_
  refine WPl.v rfl (o_move rfl) ?_
  refine WPl.v rfl (o_neq rfl rfl) ?_
  refine WPl.v rfl (o_assign rfl) ?_
  refine WPl.nil (EX.then (WP.ret ?_))
  rw [show decide (n ≠ n) = false from by simp]
  exact EX.fin id (.inl rfl) rfl (.tmp rfl .nil) rfl (by simp [SV.res, El.res, At.res, keys]) trivial (by simp) (by simp)
theorem w63 {a b : Int} : ∀ x ∈ ([.i (a), .i (b)] : List SV), x.res (keys (α := Pred) []) := by simp [SV.res, El.res, At.res, keys]
theorem r63 {a b : Int} : SV.res (keys (α := Pred) []) (.i (cmpI a b)) := by simp [SV.res, El.res, At.res, keys]
set_option maxHeartbeats 4000000 in
theorem c63 (a b : Int)  : Sig Tryz.prog 63 [.i (a), .i (b)] [] (.i (cmpI a b)) [] := by
  refine Sig.intro Tryz.func63 rfl 0 [(0, .i (a)), (1, .i (b))] rfl w63 rfl rfl fun I w => ?_
  refine WP.seq (WP.region ?_)
  refine WPl.v rfl (o_assign rfl) ?_
  refine WPl.nil (EX.then (WP.seq (WP.region ?_)))
  refine WPl.v rfl (o_move rfl) ?_
  refine WPl.cs 0 rfl rfl rfl rfl (o_sig 0 id (c87 a) e87 rfl rfl rfl w87 trivial r87) ?_
  refine WPl.v rfl (o_assign rfl) ?_
  refine WPl.nil (EX.then (WP.seq (WP.region ?_)))
  refine WPl.v rfl (o_move rfl) ?_
  refine WPl.cs 0 rfl rfl rfl rfl (o_sig 0 id (c87 b) e87 rfl rfl rfl w87 trivial r87) ?_
  refine WPl.v rfl (o_assign rfl) ?_
  refine WPl.nil (EX.then (WP.seq (WP.seq (WP.region ?_))))
  refine WPl.v rfl (o_move rfl) ?_
  refine WPl.nil (EX.then ?_)
  refine WP.cond rfl (fun h => by cases h) (fun _ => ?_)
  refine WP.skip (EX.then (WP.seq (WP.seq (WP.region ?_))))
  refine WPl.v rfl (o_move rfl) ?_
  refine WPl.nil (EX.then ?_)
  refine WP.cond rfl (fun h => by cases h) (fun _ => ?_)
  refine WP.skip (EX.then (WP.seq (WP.seq (WP.region ?_))))
  refine WPl.v rfl (o_move rfl) ?_
  refine WPl.v rfl (o_move rfl) ?_
  refine WPl.v rfl (o_lss rfl rfl) ?_
  refine WPl.nil (EX.then ?_)
  refine WP.cond rfl (fun hc3 => ?_) (fun hc3 => ?_)
  · try simp only [cnd] at hc3
    refine WP.seq (WP.region ?_)
    refine WPl.v rfl (o_assign rfl) ?_
    refine WPl.nil (EX.then (WP.ret (EX.ret_then ?_)))
    rw [show cmpI a b = -1 from if_pos hc3]
    exact EX.fin id (.inl rfl) rfl (.tmp rfl .nil) rfl (by simp [SV.res, El.res, At.res, keys]) trivial (by simp) (by simp)
  · try simp only [cnd] at hc3
    refine WP.skip (EX.then (WP.seq (WP.seq (WP.region ?_))))
    refine WPl.v rfl (o_move rfl) ?_
    refine WPl.v rfl (o_move rfl) ?_
    refine WPl.v rfl (o_gtr rfl rfl) ?_
    refine WPl.nil (EX.then ?_)
    refine WP.cond rfl (fun hc4 => ?_) (fun hc4 => ?_)
    · try simp only [cnd] at hc4
      refine WP.seq (WP.region ?_)
      refine WPl.v rfl (o_assign rfl) ?_
      refine WPl.nil (EX.then (WP.ret (EX.ret_then ?_)))
      rw [show cmpI a b = 1 from by unfold cmpI; rw [if_neg hc3, if_pos hc4]]
      exact EX.fin id (.inl rfl) rfl (.tmp rfl .nil) rfl (by simp [SV.res, El.res, At.res, keys]) trivial (by simp) (by simp)
    · try simp only [cnd] at hc4
      refine WP.skip (EX.then (WP.seq (WP.region ?_)))
      refine WPl.v rfl (o_assign rfl) ?_
      refine WPl.nil (EX.then (WP.ret ?_))
      rw [show cmpI a b = 0 from by unfold cmpI; rw [if_neg hc3, if_neg hc4]]
      exact EX.fin id (.inl rfl) rfl (.tmp rfl .nil) rfl (by simp [SV.res, El.res, At.res, keys]) trivial (by simp) (by simp)
theorem w49 {a b : List Int} : ∀ x ∈ ([.e (.a (.q 0)), .e (.a (.q 1))] : List SV), x.res (keys (α := Pred) [(0, PL EP.int (a)), (1, PL EP.int (b))]) := by simp [SV.res, El.res, At.res, keys]
theorem r49 {a b : List Int} : SV.res (keys (α := Pred) []) (.i (cmpL a b)) := by simp [SV.res, El.res, At.res, keys]
set_option maxHeartbeats 4000000 in
theorem c49 (a b : List Int) (ha : a.length ≤ 1000) (hb : b.length ≤ 1000) : Sig Tryz.prog 49 [.e (.a (.q 0)), .e (.a (.q 1))] [(0, PL EP.int (a)), (1, PL EP.int (b))] (.i (cmpL a b)) [] := by
  refine Sig.intro Tryz.func49 rfl 2 [(0, .e (.a (.q 0))), (1, .e (.a (.q 1)))] rfl w49 rfl rfl fun I w => ?_
  refine WP.seq (WP.region ?_)
  refine WPl.v rfl (o_assign rfl) ?_
  refine WPl.nil (EX.then (WP.seq (WP.seq (WP.region ?_))))
  refine WPl.v rfl (o_move rfl) ?_
  refine WPl.v rfl (o_lenq L45 rfl (lx rfl)) ?_
  refine WPl.v rfl (o_move rfl) ?_
  refine WPl.nil (EX.then (WP.block ?_))
  refine WP.loop (Gh := Nat) (fun i => ⟨2, [(0, .e (.a (.q 0))), (1, .e (.a (.q 1))), (4, .i (0)), (9, .e (.a (.q 0))), (10, .i ((a.length : Int))), (11, .i ((i : Int)))], [(0, PL EP.int (a)), (1, PL EP.int (b))], [], [], []⟩) (fun i => i ≤ a.length ∧ i ≤ b.length ∧ allI (sameAt a b) i = true) (fun i => a.length - i) (0) id ?_ (LeR.of ⟨rfl, rfl, rfl, rfl, rfl, rfl, trivial⟩ ⟨(lx rfl), (lx rfl), trivial⟩ trivial rfl rfl rfl rfl rfl) ?_
  · exact ⟨by omega, ⟨by omega, rfl⟩⟩
  intro i hφ
  have hi : i ≤ a.length := hφ.1
  obtain ⟨_, hb1, hall⟩ := hφ
  refine WP.seq (WP.region ?_)
  refine WPl.v rfl (o_lss rfl rfl) ?_
  refine WPl.nil (EX.then (WP.seq ?_))
  refine WP.cond rfl (fun hc1 => ?_) (fun hc1 => ?_)
  · try simp only [cnd] at hc1
    refine WP.skip (EX.then (WP.seq (WP.block (WP.seq (WP.region ?_)))))
    refine WPl.v rfl (o_move rfl) ?_
    refine WPl.x 2 3 rfl rfl rfl (o_idx L45 rfl (lx rfl) rfl (by first | omega | (simp; omega)) (by first | omega | (simp; omega))) ?_
    refine WPl.v rfl (o_ldq S3 rfl (lx rfl) intc) ?_
    refine WPl.v rfl (o_assign rfl) ?_
    refine WPl.v rfl (o_assign rfl) ?_
    refine WPl.nil (EX.then (WP.seq (WP.seq (WP.region ?_))))
    refine WPl.v rfl (o_move rfl) ?_
    refine WPl.v rfl (o_move rfl) ?_
    refine WPl.v rfl (o_lenq L45 rfl (lx rfl)) ?_
    refine WPl.v rfl (o_geq rfl rfl) ?_
    refine WPl.nil (EX.then ?_)
    refine WP.cond rfl (fun hc2 => ?_) (fun hc2 => ?_)
    · try simp only [cnd] at hc2
      refine WP.seq (WP.region ?_)
      refine WPl.v rfl (o_assign rfl) ?_
      refine WPl.nil (EX.then (WP.ret (EX.ret_then (EX.ret_blk (EX.ret_then (EX.ret_then (EX.ret_blk (EX.ret_then ?_))))))))
      rw [show cmpL a b = 1 from cmpL_long hall (by omega) (by omega)]
      exact EX.fin id (.inl rfl) rfl (.tmp rfl .nil) rfl (by simp [SV.res, El.res, At.res, keys]) trivial (by simp) (by simp)
    · try simp only [cnd] at hc2
      refine WP.skip (EX.then (WP.seq (WP.region ?_)))
      refine WPl.v rfl (o_move rfl) ?_
      refine WPl.v rfl (o_move rfl) ?_
      refine WPl.x 3 4 rfl rfl rfl (o_idx L45 rfl (lx rfl) rfl (by first | omega | (simp; omega)) (by first | omega | (simp; omega))) ?_
      refine WPl.v rfl (o_ldq S3 rfl (lx rfl) intc) ?_
      refine WPl.v rfl (o_assign rfl) ?_
      refine WPl.nil (EX.then (WP.seq (WP.region ?_)))
      refine WPl.v rfl (o_move rfl) ?_
      refine WPl.v rfl (o_move rfl) ?_
      refine WPl.cs 4 rfl rfl rfl rfl (o_sig 4 id (c63 (nth a (i : Int)) (nth b (i : Int))) e63 rfl rfl rfl w63 trivial r63) ?_
      refine WPl.v rfl (o_assign rfl) ?_
      refine WPl.nil (EX.then (WP.seq (WP.region ?_)))
      refine WPl.v rfl (o_move rfl) ?_
      refine WPl.v rfl (o_neq rfl rfl) ?_
      refine WPl.nil (EX.then ?_)
      refine WP.cond rfl (fun hc3 => ?_) (fun hc3 => ?_)
      · try simp only [cnd] at hc3
        refine WP.seq (WP.region ?_)
        refine WPl.v rfl (o_move rfl) ?_
        refine WPl.v rfl (o_assign rfl) ?_
        refine WPl.nil (EX.then (WP.ret (EX.ret_blk (EX.ret_then (EX.ret_then (EX.ret_blk (EX.ret_then ?_)))))))
        rw [show cmpL a b = cmpI (nth a (i : Int)) (nth b (i : Int)) from cmpL_at hall (by omega) (by omega) hc3]
        exact EX.fin id (.inl rfl) rfl (.tmp rfl .nil) rfl (by simp [SV.res, El.res, At.res, keys]) trivial (by simp) (by simp)
      · try simp only [cnd] at hc3
        refine WP.skip (EX.blk (EX.then (WP.region ?_)))
        refine WPl.v rfl (o_add rfl rfl (by first | omega | (simp; omega)) (by first | omega | (simp; omega))) ?_
        refine WPl.v rfl (o_move rfl) ?_
        refine WPl.nil ?_
        refine EX.again (i + 1) id (by exact ⟨by omega, ⟨by omega, by simp only [allI, hall, Bool.true_and, sameAt, decide_eq_true_eq]; exact cmpI_eq.1 hc3⟩⟩) (by omega) (LeR.of ⟨rfl, rfl, rfl, rfl, rfl, rfl, trivial⟩ ⟨(lx rfl), (lx rfl), trivial⟩ trivial rfl rfl rfl rfl rfl)
  · try simp only [cnd] at hc1
    refine WP.exit (EX.exit_then (EX.exit_then (EX.exit_blk (EX.then (WP.seq (WP.seq (WP.region ?_)))))))
    refine WPl.v rfl (o_move rfl) ?_
    refine WPl.v rfl (o_lenq L45 rfl (lx rfl)) ?_
    refine WPl.v rfl (o_move rfl) ?_
    refine WPl.v rfl (o_lenq L45 rfl (lx rfl)) ?_
    refine WPl.v rfl (o_lss rfl rfl) ?_
    refine WPl.nil (EX.then ?_)
    refine WP.cond rfl (fun hc4 => ?_) (fun hc4 => ?_)
    · try simp only [cnd] at hc4
      refine WP.seq (WP.region ?_)
      refine WPl.v rfl (o_assign rfl) ?_
      refine WPl.nil (EX.then (WP.ret (EX.ret_then ?_)))
      rw [show cmpL a b = -1 from cmpL_short hall (by omega) (by omega)]
      exact EX.fin id (.inl rfl) rfl (.tmp rfl .nil) rfl (by simp [SV.res, El.res, At.res, keys]) trivial (by simp) (by simp)
    · try simp only [cnd] at hc4
      refine WP.skip (EX.then (WP.seq (WP.region ?_)))
      refine WPl.v rfl (o_assign rfl) ?_
      refine WPl.nil (EX.then (WP.ret ?_))
      rw [show cmpL a b = 0 from cmpL_same hall (by omega) (by omega)]
      exact EX.fin id (.inl rfl) rfl (.tmp rfl .nil) rfl (by simp [SV.res, El.res, At.res, keys]) trivial (by simp) (by simp)
theorem w46 {s : Shop} : ∀ x ∈ ([.e (.g [ai (s.pounds), ai (s.tl), ai (s.th), ai (s.al), ai (s.ah), ai (s.room), ai (s.tpl), ai (s.tph), ai (s.apl), ai (s.aph), .q 0])] : List SV), x.res (keys (α := Pred) [(0, PL EPig (s.pigs))]) := by simp [SV.res, El.res, At.res, keys]
set_option maxHeartbeats 4000000 in
theorem c46 (s : Shop) (hs : s.chk = true) : SigJ Tryz.prog 46 [.e (.g [ai (s.pounds), ai (s.tl), ai (s.th), ai (s.al), ai (s.ah), ai (s.room), ai (s.tpl), ai (s.tph), ai (s.apl), ai (s.aph), .q 0])] [(0, PL EPig (s.pigs))] (s.adItems) := by
  have hpg := Shop.pigsOK hs
  have hp4 := hpg.2
  have h0b := adBox_pos hpg
  have hN0 : 0 < s.adBox.length := (List.getElem?_eq_some_iff.1 h0b).1
  refine SigJ.intro Tryz.func46 rfl 2 1 w46 rfl rfl rfl fun I w l Y K F0 hround => ?_
  have hF : ∀ c, F0 c → F0 c := fun _ h => h
  refine WP.seq (WP.region ?_)
  refine WPl.l 2 3 rfl rfl rfl (o_boxg rfl) ?_
  refine WPl.nil (EX.then (WP.seq (WP.region ?_)))
  refine WPl.v rfl (o_fldp F73_0 rfl) ?_
  refine WPl.v rfl (o_fldp F28_4 rfl) ?_
  refine WPl.v rfl (o_ldp S26 rfl rfl rfl) ?_
  refine WPl.v rfl (o_lenq L26 rfl (lx rfl)) ?_
  refine WPl.u1 (k := 3) (m := 4) rfl rfl rfl (OpG.newer0 (o_make (z := 0) (E := EP.int) s.pigs.length R45 (fun _ => rfl) rfl rfl (by first | omega | (simp; omega)) (by first | omega | (simp; omega)))) ?_
  refine WPl.v rfl (o_assign rfl) ?_
  refine WPl.nil (EX.then (WP.block ?_))
  refine WP.loop (Gh := Nat × (Nat → Prop)) (fun (⟨i, F⟩ : Nat × (Nat → Prop)) => ⟨4, [(1, .e (.a (.v (yv l)))), (2, .e (.a (.p 2 (0)))), (4, .e (.a (.q 3)))], [(0, PL EPig (s.pigs)), (3, Pred.newer _)], [(1, .ext ((Y (s.adIdx i)).xp F)), (2, .blk [ai (s.pounds), ai (s.tl), ai (s.th), ai (s.al), ai (s.ah), ai (s.room), ai (s.tpl), ai (s.tph), ai (s.apl), ai (s.aph), .q 0] 73), (3, .own 3 EP.int.size ((nth s.adBox (i : Int))).length (RP EP.int ((nth s.adBox (i : Int)))))], [], []⟩) (fun (⟨i, F⟩ : Nat × (Nat → Prop)) => i < s.adBox.length ∧ ∀ c, F0 c → F c) (fun (⟨i, F⟩ : Nat × (Nat → Prop)) => s.adBox.length - i) ((0, F0)) id ?_ (LeR.of ⟨rfl, rfl, rfl, trivial⟩ ⟨(lx rfl), (lx rfl), trivial⟩ ⟨(congrArg (fun z => some (Ent.ext ((Y z).xp F0))) (show 0 = s.adIdx 0 from rfl)), rfl, (congrArg (fun z => some (Ent.own 3 EP.int.size (List.length z) (RP EP.int z))) (show (List.replicate s.pigs.length 0) = ((fun (⟨i, F⟩ : Nat × (Nat → Prop)) => (nth s.adBox (i : Int))) (0, F0)) from by dsimp only; rw [nthN hN0]; exact (List.getElem?_eq_some_iff.1 h0b).2.symm)), trivial⟩ rfl rfl rfl rfl rfl) ?_
  · exact ⟨hN0, fun _ h => h⟩
  rintro ⟨i, F⟩ hφ
  obtain ⟨hiN, hF⟩ : i < s.adBox.length ∧ ∀ c, F0 c → F c := hφ
  obtain ⟨hrl, hrb, hrm⟩ := adBox_row hpg hiN
  refine WP.block (WP.seq (WP.seq (WP.region ?_)))
  refine WPl.v rfl (o_ldpa G73 rfl rfl rfl) ?_
  refine WPl.v rfl (o_move rfl) ?_
  refine WPl.cs 4 rfl rfl rfl rfl (o_sigbc 4 (ren [(0, 0), (1, 3)]) (Sig.free (c80 s (nth s.adBox (i : Int)) hs)) e80 rfl rfl SvsOK.rf w80 ⟨.x (lx rfl), .own rfl rfl, trivial⟩ r80) ?_
  refine WPl.v rfl (o_move rfl) ?_
  rcases Bool.eq_false_or_eq_true (isAdd s (nth s.adBox (i : Int))) with hs14 | hs14
  · refine WPl.imp (Imp.bitF 14 (b' := true) rfl hs14) ?_
    refine WPl.on rfl ⟨_, _, rfl, rfl, rfl⟩ (o_move rfl) ?_
    refine WPl.on rfl ⟨_, _, rfl, rfl, rfl⟩ (o_move rfl) ?_
    refine WPl.cL 5 rfl rfl rfl rfl ⟨_, _, rfl, rfl, rfl⟩ (o_sigbc 4 (ren [(0, 3)]) (c76 (nth s.adBox (i : Int)) (by omega)) e76 rfl rfl SvsOK.rf w76 ⟨.own rfl rfl, trivial⟩ r76) ?_
    refine WPl.yield (Y' := Y (s.adIdx i + 1)) (K' := K) 1 rfl rfl ⟨_, _, rfl, rfl, rfl⟩ rfl rfl rfl (yieldH (ky := 1) (J := [0]) (it := ⟨[.e (.a (.q 0))], [(0, PL EP.int ((nth s.adBox (i : Int))))], []⟩) (ren [(0, 4)]) (hround (s.adIdx i) _ (adIdx_at hiN hs14)) rfl (hF) SvsOK.rf (by simp [SV.res, El.res, At.res, keys]) ⟨(lx rfl), trivial⟩ trivial) fun by18 F1 hF1 => ?_
    have hF : ∀ c, F0 c → F1 c := fun c hc => hF1 c (hF c hc)
    cases by18
    · skip
      refine WPl.on rfl ⟨_, _, rfl, rfl, rfl⟩ (o_not rfl) ?_
      refine WPl.v rfl (o_pickT rfl rfl) ?_
      refine WPl.nil (EX.then ?_)
      refine WP.cond rfl (fun _ => ?_) (fun h => by cases h)
      refine WP.ret (EX.ret_then (EX.ret_blk (EX.ret_then (EX.ret_blk ?_))))
      exact EX.finI (.inl rfl) rfl rfl (ky := 1) (Y := K) rfl (fun _ _ h => .inr h)
    · skip
      refine WPl.on rfl ⟨_, _, rfl, rfl, rfl⟩ (o_not rfl) ?_
      refine WPl.v rfl (o_pickT rfl rfl) ?_
      refine WPl.nil (EX.then ?_)
      refine WP.cond rfl (fun h => by cases h) (fun _ => ?_)
      refine WP.skip (EX.then (WP.seq (WP.region ?_)))
      refine WPl.v rfl (o_move rfl) ?_
      refine WPl.v rfl (o_leno L45 rfl rfl) ?_
      refine WPl.v rfl (o_sub rfl rfl (by first | omega | (simp; omega)) (by first | omega | (simp; omega))) ?_
      refine WPl.v rfl (o_assign rfl) ?_
      refine WPl.nil (EX.then (WP.seq (WP.block ?_)))
      refine WP.loop (Gh := Nat) (fun j => ⟨5, [(1, .e (.a (.v (yv l)))), (2, .e (.a (.p 2 (0)))), (4, .e (.a (.q 3))), (11, .e (.g [ai (s.pounds), ai (s.tl), ai (s.th), ai (s.al), ai (s.ah), ai (s.room), ai (s.tpl), ai (s.tph), ai (s.apl), ai (s.aph), .q 0])), (12, .e (.a (.q 3))), (13, .b (isAdd s (nth s.adBox (i : Int)))), (14, .b (true)), (15, .e (.a (.v (yv l)))), (16, .e (.a (.q 3))), (17, .e (.a (.q 4))), (18, .b (true)), (19, .b (false)), (20, .b (false)), (21, .e (.a (.q 3))), (22, .i (((nth s.adBox (i : Int)).length : Int))), (23, .i (((nth s.adBox (i : Int)).length : Int) - 1)), (5, .i ((s.pigs.length : Int) - 1 - (j : Int)))], [(0, PL EPig (s.pigs)), (3, Pred.newer _), (4, PL EP.int ((nth s.adBox (i : Int))))], [(1, .ext ((Y (s.adIdx i + 1)).xp F1)), (2, .blk [ai (s.pounds), ai (s.tl), ai (s.th), ai (s.al), ai (s.ah), ai (s.room), ai (s.tpl), ai (s.tph), ai (s.apl), ai (s.aph), .q 0] 73), (3, .own 3 EP.int.size (zr (nth s.adBox (i : Int)) j).length (RP EP.int (zr (nth s.adBox (i : Int)) j)))], [], []⟩) (fun j => j ≤ s.pigs.length ∧ ∀ a : Nat, s.pigs.length - j ≤ a → a < s.pigs.length → nth (nth s.adBox (i : Int)) a = (nth s.pigs a).many) (fun j => s.pigs.length - j) (0) id ?_ (LeR.of ⟨rfl, rfl, rfl, rfl, rfl, rfl, rfl, rfl, rfl, rfl, rfl, rfl, rfl, rfl, rfl, rfl, (congrArg (fun z => some (SV.i z)) (show (((nth s.adBox (i : Int)).length : Int) - 1) = ((fun j => (s.pigs.length : Int) - 1 - (j : Int)) 0) from by rw [hrl]; simp)), trivial⟩ ⟨(lx rfl), (lx rfl), (lx rfl), trivial⟩ ⟨rfl, rfl, (congrArg (fun z => some (Ent.own 3 EP.int.size (List.length z) (RP EP.int z))) (show ((nth s.adBox (i : Int))) = ((fun j => zr (nth s.adBox (i : Int)) j) 0) from by simp [zr])), trivial⟩ rfl rfl rfl rfl rfl) ?_
      · exact ⟨by omega, fun a h1 h2 => by omega⟩
      intro j hφ
      obtain ⟨hj1, hj2⟩ := hφ
      have hzl : (zr (nth s.adBox (i : Int)) j).length = s.pigs.length := by rw [zr_len (by omega)]; exact hrl
      have hzn : j < s.pigs.length → nth (zr (nth s.adBox (i : Int)) j) ((s.pigs.length : Int) - 1 - (j : Int)) = nth (nth s.adBox (i : Int)) ((s.pigs.length : Int) - 1 - (j : Int)) := fun h => by rw [← hrl]; exact zr_nth (by omega)
      refine WP.seq (WP.seq ?_)
      refine WP.imp (Imp.bit 5 6 (decide (0 ≤ ((s.pigs.length : Int) - 1 - (j : Int)))) rfl rfl) ?_
      refine WP.draw (nf := 7) [⟨[], [], [], [], []⟩, ⟨[], [], [], [], [0]⟩, ⟨[], [], [], [], [0, 1]⟩, ⟨[28, 31, 32, 33, 34, 35, 36, 37], [6], [], [], [0, 1, 2]⟩, ⟨[27, 31, 32, 33, 34, 35, 36, 37], [6], [], [], [0, 1, 2]⟩, ⟨[31, 32, 33, 34, 35, 36, 37], [6], [], [], [0, 1, 2, 3, 4]⟩, ⟨[31, 32, 33, 34, 35, 36, 37], [6], [], [], [0, 1, 2, 3, 4, 5]⟩, ⟨[27, 28, 29, 30, 34], [], [], [], [0, 1, 2]⟩, ⟨[27, 28, 29, 30, 34], [], [], [], [0, 1, 2, 7]⟩, ⟨[27, 28, 29, 30, 34], [], [], [], [0, 1, 2, 7, 8]⟩, ⟨[27, 28, 29, 30, 31, 32, 33], [], [], [], [0, 1, 2]⟩, ⟨[27, 28, 29, 30], [], [6], [6], [0, 1, 2, 7, 8, 9, 10]⟩, ⟨[27, 28, 29, 30], [], [], [], [0, 1, 2, 7, 8, 9, 10, 11]⟩, ⟨[27, 28, 29, 30], [], [], [], [0, 1, 2, 7, 8, 9, 10, 11, 12]⟩, ⟨[], [], [], [], [0, 1, 2, 3, 4, 5, 6, 7, 8, 9, 10, 11, 12, 13]⟩, ⟨[], [], [], [], [0, 1, 2, 3, 4, 5, 6, 7, 8, 9, 10, 11, 12, 13, 14]⟩] (by kernel_rfl) (by kernel_rfl) ?_
      refine DRQ.v rfl rfl rfl (o_move rfl) ?_
      refine DRQ.v rfl rfl rfl (o_geq rfl rfl) ?_
      refine DRQ.v rfl rfl rfl (o_move rfl) ?_
      refine DRQ.gv 5 rfl rfl (.plain rfl Iff.rfl rfl) rfl (fun hb => o_move rfl) ?_
      refine DRQ.gv 5 rfl rfl (.plain rfl Iff.rfl rfl) rfl (fun hb => o_move rfl) ?_
      refine DRQ.gv 5 rfl rfl (.plain rfl Iff.rfl rfl) rfl (fun hb => have hb2 := of_decide_eq_true hb; o_idxo L45 rfl rfl rfl (by first | omega | (simp; omega)) (by first | omega | (simp; omega))) ?_
      refine DRQ.gv 5 rfl rfl (.plain rfl Iff.rfl rfl) rfl (fun hb => have hb2 := of_decide_eq_true hb; o_ldoi S3 rfl rfl rfl rfl (by first | omega | (simp; omega)) (by first | omega | (simp; omega))) ?_
      refine DRQ.gv 5 rfl rfl (.plain rfl Iff.rfl rfl) rfl (fun hb => o_fldp F73_0 rfl) ?_
      refine DRQ.gv 5 rfl rfl (.plain rfl Iff.rfl rfl) rfl (fun hb => o_fldp F28_4 rfl) ?_
      refine DRQ.gv 5 rfl rfl (.plain rfl Iff.rfl rfl) rfl (fun hb => o_ldp S26 rfl rfl rfl) ?_
      refine DRQ.gv 5 rfl rfl (.plain rfl Iff.rfl rfl) rfl (fun hb => o_move rfl) ?_
      refine DRQ.gx 5 6 rfl rfl (.plain rfl Iff.rfl rfl) rfl rfl (fun hb => have hb2 := of_decide_eq_true hb; o_idx L26 rfl (lx rfl) rfl (by first | omega | (simp; omega)) (by first | omega | (simp; omega))) ?_
      refine DRQ.gv 5 rfl rfl (.plain rfl Iff.rfl rfl) rfl (fun hb => o_fldq F84_4 rfl (lxi hb rfl)) ?_
      refine DRQ.gv 5 rfl rfl (.plain rfl Iff.rfl rfl) rfl (fun hb => o_lde S3 rfl (lxi hb rfl) (strI rfl)) ?_
      refine DRQ.gv 5 rfl rfl (.plain rfl Iff.rfl rfl) rfl (fun hb => o_eql rfl rfl) ?_
      refine DRQ.v rfl rfl rfl (o_and rfl rfl rfl id) ?_
      refine DRQ.nil' ?_
      refine EX.then ?_
      refine WP.cond rfl (fun hc2 => ?_) (fun hc2 => ?_)
      · try simp only [cnd] at hc2
        obtain ⟨hge, heq⟩ := hc2
        refine WP.skip (EX.then (WP.seq (WP.block (WP.region ?_))))
        refine WPl.v rfl (o_move rfl) ?_
        refine WPl.v rfl (o_move rfl) ?_
        refine WPl.v rfl (o_idxo L45 rfl rfl rfl (by first | omega | (simp; omega)) (by first | omega | (simp; omega))) ?_
        refine WPl.s1 (o_steE2 Tryz.sizeOf3 rfl rfl rfl rfl eok_int rfl rfl rfl (by first | omega | (simp; omega)) (by first | omega | (simp; omega))) ?_
        refine WPl.nil (EX.blk (EX.then (WP.region ?_)))
        refine WPl.v rfl (o_move rfl) ?_
        refine WPl.v rfl (o_sub rfl rfl (by first | omega | (simp; omega)) (by first | omega | (simp; omega))) ?_
        refine WPl.v rfl (o_assign rfl) ?_
        refine WPl.nil ?_
        refine EX.again (j + 1) id (by exact ⟨by omega, fun a h1 h2 => by by_cases h3 : s.pigs.length - j ≤ a; exact hj2 a h3 h2; have h4 : (a : Int) = (s.pigs.length : Int) - 1 - (j : Int) := (by omega); rw [h4, ← hzn (by omega)]; exact heq⟩) (by omega) (LeR.of ⟨rfl, rfl, rfl, rfl, rfl, rfl, rfl, rfl, rfl, rfl, rfl, rfl, rfl, rfl, rfl, rfl, (congrArg (fun z => some (SV.i z)) (show (((s.pigs.length : Int) - 1 - (j : Int)) - 1) = ((fun j => (s.pigs.length : Int) - 1 - (j : Int)) (j + 1)) from by show (s.pigs.length : Int) - 1 - (j : Int) - 1 = (s.pigs.length : Int) - 1 - ((j + 1 : Nat) : Int); omega)), trivial⟩ ⟨(lx rfl), (lx rfl), (lx rfl), trivial⟩ ⟨rfl, rfl, (congrArg (fun z => some (Ent.own 3 EP.int.size (List.length z) (RP EP.int z))) (show (lset (zr (nth s.adBox (i : Int)) j) ((s.pigs.length : Int) - 1 - (j : Int)) 0) = ((fun j => zr (nth s.adBox (i : Int)) j) (j + 1)) from by dsimp only; rw [← hrl]; exact zr_step (by omega))), trivial⟩ rfl rfl rfl rfl rfl)
      · try simp only [cnd] at hc2
        refine WP.exit (EX.exit_then (EX.exit_then (EX.exit_blk (EX.then (WP.seq (WP.seq (WP.region ?_)))))))
        refine WPl.v rfl (o_move rfl) ?_
        refine WPl.v rfl (o_lss rfl rfl) ?_
        refine WPl.nil (EX.then ?_)
        refine WP.cond rfl (fun hc3 => ?_) (fun hc3 => ?_)
        · try simp only [cnd] at hc3
          refine WP.ret (EX.ret_then (EX.ret_blk (EX.ret_then (EX.ret_blk ?_))))
          have hend : s.adIdx i + 1 = s.adItems.length := by rw [← adIdx_end, ← (ad_next hpg hiN hj2).1 (by omega), adIdx_succ hiN, show isAdd s (nth s.adBox (i : Int)) = true from hs14]; rfl
          exact EX.finI (.inl rfl) rfl rfl (ky := 1) (Y := Y (s.adIdx i + 1)) rfl (fun _ _ h => .inl (by rw [hend] at h; exact h))
        · try simp only [cnd] at hc3
          refine WP.skip (EX.then (WP.region ?_))
          refine WPl.v rfl (o_move rfl) ?_
          refine WPl.v rfl (o_move rfl) ?_
          refine WPl.v rfl (o_idxo L45 rfl rfl rfl (by first | omega | (simp; omega)) (by first | omega | (simp; omega))) ?_
          refine WPl.v rfl (o_ldoi S3 rfl rfl rfl rfl (by first | omega | (simp; omega)) (by first | omega | (simp; omega))) ?_
          have hbb := hrb (s.pigs.length - 1 - j) (by omega)
          rw [show ((s.pigs.length - 1 - j : Nat) : Int) = (s.pigs.length : Int) - 1 - (j : Int) by omega, ← hzn (by omega)] at hbb
          refine WPl.v rfl (o_add rfl rfl (by first | omega | (simp; omega)) (by first | omega | (simp; omega))) ?_
          refine WPl.v rfl (o_idxo L45 rfl rfl rfl (by first | omega | (simp; omega)) (by first | omega | (simp; omega))) ?_
          refine WPl.s1 (o_steE2 Tryz.sizeOf3 rfl rfl rfl rfl eok_int rfl rfl rfl (by first | omega | (simp; omega)) (by first | omega | (simp; omega))) ?_
          refine WPl.nil (EX.blk ?_)
          have hne := hc2.resolve_left (by omega)
          rw [hzn (by omega)] at hne
          have hnx := (ad_next hpg hiN hj2).2 (by omega) hne
          refine EX.again ((i + 1, F1)) id (by exact ⟨hnx.1, hF⟩) (by first | omega | (dsimp only; omega) | (simp only []; omega)) (LeR.of ⟨rfl, rfl, rfl, trivial⟩ ⟨(lx rfl), (lx rfl), trivial⟩ ⟨(congrArg (fun z => some (Ent.ext ((Y z).xp F1))) (show s.adIdx i + 1 = s.adIdx (i + 1) from by rw [adIdx_succ hiN, show isAdd s (nth s.adBox (i : Int)) = true from hs14]; rfl)), rfl, (congrArg (fun z => some (Ent.own 3 EP.int.size (List.length z) (RP EP.int z))) (show (lset (zr (nth s.adBox (i : Int)) j) ((s.pigs.length : Int) - 1 - (j : Int)) ((nth (zr (nth s.adBox (i : Int)) j) ((s.pigs.length : Int) - 1 - (j : Int))) + 1)) = ((fun (⟨i, F⟩ : Nat × (Nat → Prop)) => (nth s.adBox (i : Int))) (i + 1, F1)) from hnx.2)), trivial⟩ rfl rfl rfl rfl rfl)
  · refine WPl.imp (Imp.bitF 14 (b' := false) rfl hs14) ?_
    refine WPl.off rfl ⟨_, _, rfl, rfl, rfl⟩ ?_
    refine WPl.off rfl ⟨_, _, rfl, rfl, rfl⟩ ?_
    refine WPl.off rfl ⟨_, _, rfl, rfl, rfl⟩ ?_
    refine WPl.off rfl ⟨_, _, rfl, rfl, rfl⟩ ?_
    refine WPl.off rfl ⟨_, _, rfl, rfl, rfl⟩ ?_
    refine WPl.v rfl (o_pickF rfl rfl) ?_
    refine WPl.nil (EX.then ?_)
    refine WP.cond rfl (fun h => by cases h) (fun _ => ?_)
    refine WP.skip (EX.then (WP.seq (WP.region ?_)))
    refine WPl.v rfl (o_move rfl) ?_
    refine WPl.v rfl (o_leno L45 rfl rfl) ?_
    refine WPl.v rfl (o_sub rfl rfl (by first | omega | (simp; omega)) (by first | omega | (simp; omega))) ?_
    refine WPl.v rfl (o_assign rfl) ?_
    refine WPl.nil (EX.then (WP.seq (WP.block ?_)))
    refine WP.loop (Gh := Nat) (fun j => ⟨4, [(1, .e (.a (.v (yv l)))), (2, .e (.a (.p 2 (0)))), (4, .e (.a (.q 3))), (11, .e (.g [ai (s.pounds), ai (s.tl), ai (s.th), ai (s.al), ai (s.ah), ai (s.room), ai (s.tpl), ai (s.tph), ai (s.apl), ai (s.aph), .q 0])), (12, .e (.a (.q 3))), (13, .b (isAdd s (nth s.adBox (i : Int)))), (14, .b (false)), (15, .e (.a (.v (undef)))), (16, .e (.a (.v (undef)))), (17, .e (.a (.v (undef)))), (18, .e (.a (.v (undef)))), (19, .e (.a (.v (undef)))), (20, .b (false)), (21, .e (.a (.q 3))), (22, .i (((nth s.adBox (i : Int)).length : Int))), (23, .i (((nth s.adBox (i : Int)).length : Int) - 1)), (5, .i ((s.pigs.length : Int) - 1 - (j : Int)))], [(0, PL EPig (s.pigs)), (3, Pred.newer _)], [(1, .ext ((Y (s.adIdx i)).xp F)), (2, .blk [ai (s.pounds), ai (s.tl), ai (s.th), ai (s.al), ai (s.ah), ai (s.room), ai (s.tpl), ai (s.tph), ai (s.apl), ai (s.aph), .q 0] 73), (3, .own 3 EP.int.size (zr (nth s.adBox (i : Int)) j).length (RP EP.int (zr (nth s.adBox (i : Int)) j)))], [], []⟩) (fun j => j ≤ s.pigs.length ∧ ∀ a : Nat, s.pigs.length - j ≤ a → a < s.pigs.length → nth (nth s.adBox (i : Int)) a = (nth s.pigs a).many) (fun j => s.pigs.length - j) (0) id ?_ (LeR.of ⟨rfl, rfl, rfl, rfl, rfl, rfl, rfl, rfl, rfl, rfl, rfl, rfl, rfl, rfl, rfl, rfl, (congrArg (fun z => some (SV.i z)) (show (((nth s.adBox (i : Int)).length : Int) - 1) = ((fun j => (s.pigs.length : Int) - 1 - (j : Int)) 0) from by rw [hrl]; simp)), trivial⟩ ⟨(lx rfl), (lx rfl), trivial⟩ ⟨rfl, rfl, (congrArg (fun z => some (Ent.own 3 EP.int.size (List.length z) (RP EP.int z))) (show ((nth s.adBox (i : Int))) = ((fun j => zr (nth s.adBox (i : Int)) j) 0) from by simp [zr])), trivial⟩ rfl rfl rfl rfl rfl) ?_
    · exact ⟨by omega, fun a h1 h2 => by omega⟩
    intro j hφ
    obtain ⟨hj1, hj2⟩ := hφ
    have hzl : (zr (nth s.adBox (i : Int)) j).length = s.pigs.length := by rw [zr_len (by omega)]; exact hrl
    have hzn : j < s.pigs.length → nth (zr (nth s.adBox (i : Int)) j) ((s.pigs.length : Int) - 1 - (j : Int)) = nth (nth s.adBox (i : Int)) ((s.pigs.length : Int) - 1 - (j : Int)) := fun h => by rw [← hrl]; exact zr_nth (by omega)
    refine WP.seq (WP.seq ?_)
    refine WP.imp (Imp.bit 4 5 (decide (0 ≤ ((s.pigs.length : Int) - 1 - (j : Int)))) rfl rfl) ?_
    refine WP.draw (nf := 6) [⟨[], [], [], [], []⟩, ⟨[], [], [], [], [0]⟩, ⟨[], [], [], [], [0, 1]⟩, ⟨[28, 31, 32, 33, 34, 35, 36, 37], [5], [], [], [0, 1, 2]⟩, ⟨[27, 31, 32, 33, 34, 35, 36, 37], [5], [], [], [0, 1, 2]⟩, ⟨[31, 32, 33, 34, 35, 36, 37], [5], [], [], [0, 1, 2, 3, 4]⟩, ⟨[31, 32, 33, 34, 35, 36, 37], [5], [], [], [0, 1, 2, 3, 4, 5]⟩, ⟨[27, 28, 29, 30, 34], [], [], [], [0, 1, 2]⟩, ⟨[27, 28, 29, 30, 34], [], [], [], [0, 1, 2, 7]⟩, ⟨[27, 28, 29, 30, 34], [], [], [], [0, 1, 2, 7, 8]⟩, ⟨[27, 28, 29, 30, 31, 32, 33], [], [], [], [0, 1, 2]⟩, ⟨[27, 28, 29, 30], [], [5], [5], [0, 1, 2, 7, 8, 9, 10]⟩, ⟨[27, 28, 29, 30], [], [], [], [0, 1, 2, 7, 8, 9, 10, 11]⟩, ⟨[27, 28, 29, 30], [], [], [], [0, 1, 2, 7, 8, 9, 10, 11, 12]⟩, ⟨[], [], [], [], [0, 1, 2, 3, 4, 5, 6, 7, 8, 9, 10, 11, 12, 13]⟩, ⟨[], [], [], [], [0, 1, 2, 3, 4, 5, 6, 7, 8, 9, 10, 11, 12, 13, 14]⟩] (by kernel_rfl) (by kernel_rfl) ?_
    refine DRQ.v rfl rfl rfl (o_move rfl) ?_
    refine DRQ.v rfl rfl rfl (o_geq rfl rfl) ?_
    refine DRQ.v rfl rfl rfl (o_move rfl) ?_
    refine DRQ.gv 4 rfl rfl (.plain rfl Iff.rfl rfl) rfl (fun hb => o_move rfl) ?_
    refine DRQ.gv 4 rfl rfl (.plain rfl Iff.rfl rfl) rfl (fun hb => o_move rfl) ?_
    refine DRQ.gv 4 rfl rfl (.plain rfl Iff.rfl rfl) rfl (fun hb => have hb2 := of_decide_eq_true hb; o_idxo L45 rfl rfl rfl (by first | omega | (simp; omega)) (by first | omega | (simp; omega))) ?_
    refine DRQ.gv 4 rfl rfl (.plain rfl Iff.rfl rfl) rfl (fun hb => have hb2 := of_decide_eq_true hb; o_ldoi S3 rfl rfl rfl rfl (by first | omega | (simp; omega)) (by first | omega | (simp; omega))) ?_
    refine DRQ.gv 4 rfl rfl (.plain rfl Iff.rfl rfl) rfl (fun hb => o_fldp F73_0 rfl) ?_
    refine DRQ.gv 4 rfl rfl (.plain rfl Iff.rfl rfl) rfl (fun hb => o_fldp F28_4 rfl) ?_
    refine DRQ.gv 4 rfl rfl (.plain rfl Iff.rfl rfl) rfl (fun hb => o_ldp S26 rfl rfl rfl) ?_
    refine DRQ.gv 4 rfl rfl (.plain rfl Iff.rfl rfl) rfl (fun hb => o_move rfl) ?_
    refine DRQ.gx 4 5 rfl rfl (.plain rfl Iff.rfl rfl) rfl rfl (fun hb => have hb2 := of_decide_eq_true hb; o_idx L26 rfl (lx rfl) rfl (by first | omega | (simp; omega)) (by first | omega | (simp; omega))) ?_
    refine DRQ.gv 4 rfl rfl (.plain rfl Iff.rfl rfl) rfl (fun hb => o_fldq F84_4 rfl (lxi hb rfl)) ?_
    refine DRQ.gv 4 rfl rfl (.plain rfl Iff.rfl rfl) rfl (fun hb => o_lde S3 rfl (lxi hb rfl) (strI rfl)) ?_
    refine DRQ.gv 4 rfl rfl (.plain rfl Iff.rfl rfl) rfl (fun hb => o_eql rfl rfl) ?_
    refine DRQ.v rfl rfl rfl (o_and rfl rfl rfl id) ?_
    refine DRQ.nil' ?_
    refine EX.then ?_
    refine WP.cond rfl (fun hc2 => ?_) (fun hc2 => ?_)
    · try simp only [cnd] at hc2
      obtain ⟨hge, heq⟩ := hc2
      refine WP.skip (EX.then (WP.seq (WP.block (WP.region ?_))))
      refine WPl.v rfl (o_move rfl) ?_
      refine WPl.v rfl (o_move rfl) ?_
      refine WPl.v rfl (o_idxo L45 rfl rfl rfl (by first | omega | (simp; omega)) (by first | omega | (simp; omega))) ?_
      refine WPl.s1 (o_steE2 Tryz.sizeOf3 rfl rfl rfl rfl eok_int rfl rfl rfl (by first | omega | (simp; omega)) (by first | omega | (simp; omega))) ?_
      refine WPl.nil (EX.blk (EX.then (WP.region ?_)))
      refine WPl.v rfl (o_move rfl) ?_
      refine WPl.v rfl (o_sub rfl rfl (by first | omega | (simp; omega)) (by first | omega | (simp; omega))) ?_
      refine WPl.v rfl (o_assign rfl) ?_
      refine WPl.nil ?_
      refine EX.again (j + 1) id (by exact ⟨by omega, fun a h1 h2 => by by_cases h3 : s.pigs.length - j ≤ a; exact hj2 a h3 h2; have h4 : (a : Int) = (s.pigs.length : Int) - 1 - (j : Int) := (by omega); rw [h4, ← hzn (by omega)]; exact heq⟩) (by omega) (LeR.of ⟨rfl, rfl, rfl, rfl, rfl, rfl, rfl, rfl, rfl, rfl, rfl, rfl, rfl, rfl, rfl, rfl, (congrArg (fun z => some (SV.i z)) (show (((s.pigs.length : Int) - 1 - (j : Int)) - 1) = ((fun j => (s.pigs.length : Int) - 1 - (j : Int)) (j + 1)) from by show (s.pigs.length : Int) - 1 - (j : Int) - 1 = (s.pigs.length : Int) - 1 - ((j + 1 : Nat) : Int); omega)), trivial⟩ ⟨(lx rfl), (lx rfl), trivial⟩ ⟨rfl, rfl, (congrArg (fun z => some (Ent.own 3 EP.int.size (List.length z) (RP EP.int z))) (show (lset (zr (nth s.adBox (i : Int)) j) ((s.pigs.length : Int) - 1 - (j : Int)) 0) = ((fun j => zr (nth s.adBox (i : Int)) j) (j + 1)) from by dsimp only; rw [← hrl]; exact zr_step (by omega))), trivial⟩ rfl rfl rfl rfl rfl)
    · try simp only [cnd] at hc2
      refine WP.exit (EX.exit_then (EX.exit_then (EX.exit_blk (EX.then (WP.seq (WP.seq (WP.region ?_)))))))
      refine WPl.v rfl (o_move rfl) ?_
      refine WPl.v rfl (o_lss rfl rfl) ?_
      refine WPl.nil (EX.then ?_)
      refine WP.cond rfl (fun hc3 => ?_) (fun hc3 => ?_)
      · try simp only [cnd] at hc3
        refine WP.ret (EX.ret_then (EX.ret_blk (EX.ret_then (EX.ret_blk ?_))))
        have hend : s.adIdx i = s.adItems.length := by rw [← adIdx_end, ← (ad_next hpg hiN hj2).1 (by omega), adIdx_succ hiN, show isAdd s (nth s.adBox (i : Int)) = false from hs14]; rfl
        exact EX.finI (.inl rfl) rfl rfl (ky := 1) (Y := Y (s.adIdx i)) rfl (fun _ _ h => .inl (by rw [hend] at h; exact h))
      · try simp only [cnd] at hc3
        refine WP.skip (EX.then (WP.region ?_))
        refine WPl.v rfl (o_move rfl) ?_
        refine WPl.v rfl (o_move rfl) ?_
        refine WPl.v rfl (o_idxo L45 rfl rfl rfl (by first | omega | (simp; omega)) (by first | omega | (simp; omega))) ?_
        refine WPl.v rfl (o_ldoi S3 rfl rfl rfl rfl (by first | omega | (simp; omega)) (by first | omega | (simp; omega))) ?_
        have hbb := hrb (s.pigs.length - 1 - j) (by omega)
        rw [show ((s.pigs.length - 1 - j : Nat) : Int) = (s.pigs.length : Int) - 1 - (j : Int) by omega, ← hzn (by omega)] at hbb
        refine WPl.v rfl (o_add rfl rfl (by first | omega | (simp; omega)) (by first | omega | (simp; omega))) ?_
        refine WPl.v rfl (o_idxo L45 rfl rfl rfl (by first | omega | (simp; omega)) (by first | omega | (simp; omega))) ?_
        refine WPl.s1 (o_steE2 Tryz.sizeOf3 rfl rfl rfl rfl eok_int rfl rfl rfl (by first | omega | (simp; omega)) (by first | omega | (simp; omega))) ?_
        refine WPl.nil (EX.blk ?_)
        have hne := hc2.resolve_left (by omega)
        rw [hzn (by omega)] at hne
        have hnx := (ad_next hpg hiN hj2).2 (by omega) hne
        refine EX.again ((i + 1, F)) id (by exact ⟨hnx.1, hF⟩) (by first | omega | (dsimp only; omega) | (simp only []; omega)) (LeR.of ⟨rfl, rfl, rfl, trivial⟩ ⟨(lx rfl), (lx rfl), trivial⟩ ⟨(congrArg (fun z => some (Ent.ext ((Y z).xp F))) (show s.adIdx i = s.adIdx (i + 1) from by rw [adIdx_succ hiN, show isAdd s (nth s.adBox (i : Int)) = false from hs14]; rfl)), rfl, (congrArg (fun z => some (Ent.own 3 EP.int.size (List.length z) (RP EP.int z))) (show (lset (zr (nth s.adBox (i : Int)) j) ((s.pigs.length : Int) - 1 - (j : Int)) ((nth (zr (nth s.adBox (i : Int)) j) ((s.pigs.length : Int) - 1 - (j : Int))) + 1)) = ((fun (⟨i, F⟩ : Nat × (Nat → Prop)) => (nth s.adBox (i : Int))) (i + 1, F)) from hnx.2)), trivial⟩ rfl rfl rfl rfl rfl)
theorem w24 {s : Shop} {g : List Int → List Int} : ∀ x ∈ ([.e (.g [ai (s.pounds), ai (s.tl), ai (s.th), ai (s.al), ai (s.ah), ai (s.room), ai (s.tpl), ai (s.tph), ai (s.apl), ai (s.aph), .q 0]), .e (.a (.q 1))] : List SV), x.res (keys (α := Pred) [(0, PL EPig (s.pigs)), (1, OfM s g)]) := by simp [SV.res, El.res, At.res, keys]
theorem r24 {s : Shop} {g : List Int → List Int} : SV.res (keys (α := Pred) [(0, PL EP.int (s.mAdd g)), (1, PL EP.int (s.mNum g))]) (.t [.a (.q 0), .a (.q 1), .a (ai (s.mE g))]) := by simp [SV.res, El.res, At.res, keys]
set_option maxHeartbeats 4000000 in
theorem c24 (s : Shop) (g : List Int → List Int) (hl : s.pigs.length ≤ 40) (hg : GOK s g) (hE0 : s.chk = false → errM s.chk = 10) : Sig Tryz.prog 24 [.e (.g [ai (s.pounds), ai (s.tl), ai (s.th), ai (s.al), ai (s.ah), ai (s.room), ai (s.tpl), ai (s.tph), ai (s.apl), ai (s.aph), .q 0]), .e (.a (.q 1))] [(0, PL EPig (s.pigs)), (1, OfM s g)] (.t [.a (.q 0), .a (.q 1), .a (ai (s.mE g))]) [(0, PL EP.int (s.mAdd g)), (1, PL EP.int (s.mNum g))] := by
  refine Sig.intro Tryz.func24 rfl 2 [(0, .e (.g [ai (s.pounds), ai (s.tl), ai (s.th), ai (s.al), ai (s.ah), ai (s.room), ai (s.tpl), ai (s.tph), ai (s.apl), ai (s.aph), .q 0])), (1, .e (.a (.q 1)))] rfl w24 rfl rfl fun I w => ?_
  refine WP.seq (WP.region ?_)
  refine WPl.l 2 3 rfl rfl rfl (o_boxg rfl) ?_
  refine WPl.l 3 4 rfl rfl rfl (o_boxa rfl (.inl ⟨_, (lx rfl), FvP.onea⟩)) ?_
  refine WPl.l 4 5 rfl rfl rfl (o_alloc Z45) ?_
  refine WPl.l 5 6 rfl rfl rfl (o_alloc Z45) ?_
  refine WPl.v rfl (o_assign rfl) ?_
  refine WPl.nil (EX.then (WP.seq (WP.region ?_)))
  refine WPl.v rfl (o_ldpa G28 rfl rfl rfl) ?_
  refine WPl.cs 7 rfl rfl rfl rfl (o_sig 6 (ren [(0, 0)]) (c29N s hl) e29 rfl rfl rfl w29N ⟨(lx rfl), trivial⟩ r29N) ?_
  refine WPl.v rfl (o_move rfl) ?_
  refine WPl.v rfl (o_extract rfl rfl) ?_
  refine WPl.v rfl (o_extract rfl rfl) ?_
  refine WPl.l 7 8 rfl rfl rfl (o_alloc Z73) ?_
  refine WPl.s1 (o_stag G73 rfl rfl rfl ⟨rfl, rfl, rfl, rfl, rfl, rfl, rfl, rfl, rfl, rfl, (.inl ⟨_, (lx rfl), PL.one⟩), trivial⟩ rfl rfl) ?_
  refine WPl.v rfl (o_assign rfl) ?_
  refine WPl.nil (EX.then (WP.seq (WP.seq (WP.region ?_))))
  refine WPl.v rfl (o_move rfl) ?_
  refine WPl.v rfl (o_neq rfl rfl) ?_
  refine WPl.nil (EX.then ?_)
  refine WP.cond rfl (fun hc1 => ?_) (fun hc1 => ?_)
  · try simp only [cnd] at hc1
    have hs : s.chk = false := errM_ne.1 (by simpa using hc1)
    refine WP.seq (WP.region ?_)
    refine WPl.v rfl (o_move rfl) ?_
    refine WPl.s1 (o_sta S45 rfl rfl rfl rfl rfl) ?_
    refine WPl.s1 (o_sta S45 rfl rfl rfl rfl rfl) ?_
    refine WPl.v rfl (o_assign rfl) ?_
    refine WPl.nil (EX.then (WP.ret (EX.ret_then ?_)))
    refine EX.imp (Imp.nam 8 9 (.slice none 0 0) (R := PN EP.int) pn_ok rfl rfl) ?_
    refine EX.imp (Imp.swL 4 0 8 rfl rfl (lxr rfl)) ?_
    refine EX.imp (Imp.nam 9 10 (.slice none 0 0) (R := PN EP.int) pn_ok rfl rfl) ?_
    refine EX.imp (Imp.swL 5 0 9 rfl rfl (lxr rfl)) ?_
    rw [hE0 hs]
    have hE : s.mE g = 10 := by unfold Shop.mE; rw [hs]; rfl
    rw [show s.mAdd g = [] from by unfold Shop.mAdd; rw [hE]; rfl, show s.mNum g = [] from by unfold Shop.mNum; rw [hE]; rfl, hE]
    exact EX.fin (ren [(0, 8), (1, 9)]) (.inl rfl) rfl (.cell1 S45 rfl rfl (.cell1 S45 rfl rfl (.tmp rfl .nil))) rfl (by simp [SV.res, El.res, At.res, keys]) ⟨lxl rfl, lxl rfl, trivial⟩ (by simp) (by simp)
  · try simp only [cnd] at hc1
    have hs : s.chk = true := errM_eq.1 (by simpa using hc1)
    have hpg := Shop.pigsOK hs
    refine WP.skip (EX.then (WP.seq (WP.seq (WP.region ?_))))
    refine WPl.v rfl (o_ldpa G73 rfl rfl rfl) ?_
    refine WPl.x 8 9 rfl rfl rfl (o_mkbit 8 (ren [(0, 6)]) (c46 s hs) e46 rfl SvsOK.rf w46 ⟨(lx rfl), trivial⟩) ?_
    refine WPl.nil (EX.then (WP.block ?_))
    refine WP.leR (S' := ⟨9, [(3, .e (.a (.p 3 (0)))), (4, .e (.a (.p 4 (0)))), (5, .e (.a (.p 5 (0)))), (6, .i (errM s.chk)), (7, .e (.a (.p 7 (0)))), (19, .e (.a (.q 8)))], [(1, OfM s g), (6, PL EPig (s.pigs)), (8, ItQ Tryz.prog s.adItems)], [(3, .blk [.q 1] 59), (4, .blk [.v (.slice none 0 0)] 45), (5, .blk [.v (.slice none 0 0)] 45), (7, .blk [ai (s.pounds), ai (s.tl), ai (s.th), ai (s.al), ai (s.ah), ai (s.room), ai (s.tpl), ai (s.tph), ai (s.apl), ai (s.aph), .q 6] 73)], [], []⟩) id (LeR.of ⟨rfl, rfl, rfl, rfl, rfl, rfl, trivial⟩ ⟨(lx rfl), (lx rfl), (lx rfl), trivial⟩ ⟨rfl, rfl, rfl, rfl, trivial⟩ rfl rfl rfl rfl rfl) ?_
    refine WP.imp (Imp.nam 9 10 (.slice none 0 0) (R := PN EP.int) pn_ok rfl rfl) ?_
    refine WP.imp (Imp.swL 4 0 9 rfl rfl (lxr rfl)) ?_
    refine WP.imp (Imp.nam 10 11 (.slice none 0 0) (R := PZ EP.int []) pz_ok rfl rfl) ?_
    refine WP.imp (Imp.swL 5 0 10 rfl rfl (lxzn rfl)) ?_
    refine WP.rangeV 15 1 (s.adL.length) (fun i => ⟨[.e (.a (.q 0))], [(0, PL EP.int ((nth s.adL (i : Int))))], []⟩) (fun i => ⟨15, [(3, .e (.a (.p 3 (0)))), (4, .e (.a (.p 4 (0)))), (5, .e (.a (.p 5 (0)))), (6, .i (errM s.chk)), (7, .e (.a (.p 7 (0)))), (19, .e (.a (.q 8)))], [(1, OfM s g), (6, PL EPig (s.pigs)), (8, ItQ Tryz.prog s.adItems), (13, PL EP.int ((s.bestM g i).1)), (14, PZ EP.int ((s.bestM g i).2))], [(3, .blk [.q 1] 59), (4, .blk [.q 13] 45), (5, .blk [.q 14] 45), (7, .blk [ai (s.pounds), ai (s.tl), ai (s.th), ai (s.al), ai (s.ah), ai (s.room), ai (s.tpl), ai (s.tph), ai (s.apl), ai (s.aph), .q 6] 73), (11, .ob (.deferred (some [])))], [11], []⟩) (fun _ _ => False) rfl  rfl (ItQ.hit (lx rfl)) (rfl) (fun _ => RSt.of rfl rfl rfl rfl rfl rfl) (fun _ _ h => h.elim) rfl rfl rfl (fun _ _ => ItemOK.of rfl) rfl rfl (ren [(13, 9), (14, 10)]) (LeR.of ⟨rfl, rfl, rfl, rfl, rfl, rfl, trivial⟩ ⟨(lx rfl), (lx rfl), (lx rfl), (lxl rfl), (lx rfl), trivial⟩ ⟨rfl, rfl, rfl, rfl, rfl, trivial⟩ rfl rfl rfl rfl rfl) ?_ ?_ ?_
    · intro i hi w1 E1 I1 R1 pβ1 pν1 us1
      have hx := isAddB hpg (adL_at hi)
      refine WP.region ?_
      refine WPl.v rfl (o_assign rfl) ?_
      refine WPl.nil ?_
      refine EX.beg rfl ?_
      refine WP.block (WP.seq (WP.region ?_))
      refine WPl.v rfl (o_ldp S59 rfl rfl rfl) ?_
      refine WPl.v rfl (o_ldpa G73 rfl rfl rfl) ?_
      refine WPl.v rfl (o_move rfl) ?_
      refine WPl.cs 17 rfl rfl rfl rfl (o_callfv (svs := [.e (.g [ai (s.pounds), ai (s.tl), ai (s.th), ai (s.al), ai (s.ah), ai (s.room), ai (s.tpl), ai (s.tph), ai (s.apl), ai (s.aph), .q 0]), .e (.a (.q 1))]) 16 (ren [(0, 6), (1, 15)]) rfl (Has.of (lx rfl) fun _ _ h => h ((⟨(nth s.adL (i : Int)), hx.1, hx.2.2⟩ : AdL s))) rfl rfl SvsOK.rf (by simp [SV.res, El.res, At.res, keys]) ⟨(lx rfl), (lx rfl), trivial⟩ (by simp [SV.res, El.res, At.res, keys])) ?_
      refine WPl.v rfl (o_assign rfl) ?_
      refine WPl.nil (EX.then (WP.seq ?_))
      refine WP.imp (Imp.bit 17 18 (s.safeP (s.aft (nth s.adL (i : Int)))) rfl rfl) ?_
      refine WP.imp (Imp.bit 18 19 ((s.safeP (s.aft (nth s.adL (i : Int)))) && !(decide ((((s.bestM g i).2).length : Int) = 0))) rfl rfl) ?_
      refine WP.draw (nf := 19) [⟨[26, 27, 28], [], [], [], []⟩, ⟨[25, 27], [], [], [], []⟩, ⟨[25, 26], [], [], [], []⟩, ⟨[25], [], [], [], [1, 2]⟩, ⟨[], [], [], [], [0, 1, 2, 3]⟩, ⟨[], [], [], [], [0, 1, 2, 3, 4]⟩, ⟨[], [], [], [], [0, 1, 2, 3, 4, 5]⟩, ⟨[], [], [], [], [0, 1, 2, 3, 4, 5, 6]⟩, ⟨[], [], [], [], [0, 1, 2, 3, 4, 5, 6, 7]⟩, ⟨[35], [], [], [], [0, 1, 2, 3, 4, 5, 6, 7, 8]⟩, ⟨[34], [], [], [], [0, 1, 2, 3, 4, 5, 6, 7, 8]⟩, ⟨[], [], [], [], [0, 1, 2, 3, 4, 5, 6, 7, 8, 9, 10]⟩, ⟨[], [], [], [], [0, 1, 2, 3, 4, 5, 6, 7, 8, 9, 10, 11]⟩, ⟨[], [], [], [], [0, 1, 2, 3, 4, 5, 6, 7, 8, 9, 10, 11, 12]⟩, ⟨[], [], [], [], [0, 1, 2, 3, 4, 5, 6, 7, 8, 9, 10, 11, 12, 13]⟩] (by kernel_rfl) (by kernel_rfl) ?_
      refine DRQ.v rfl rfl rfl (o_ldpa G73 rfl rfl rfl) ?_
      refine DRQ.v rfl rfl rfl (o_ldpa G73 rfl rfl rfl) ?_
      refine DRQ.v rfl rfl rfl (o_move rfl) ?_
      refine DRQ.cs rfl rfl rfl rfl (o_sig 19 (ren [(0, 6), (1, 15)]) (c48 s (nth s.adL (i : Int)) hs (by omega) hx.2.2) e48 rfl rfl rfl w48 ⟨(lx rfl), (lx rfl), trivial⟩ r48) ?_
      refine DRQ.cs rfl rfl rfl rfl (o_sig 19 (ren [(0, 6)]) (c47 s (s.aft (nth s.adL (i : Int))) hs (aft_bnd hs (by omega) hx.2.2)) e47 rfl rfl rfl w47 ⟨(lx rfl), trivial⟩ r47) ?_
      refine DRQ.v rfl rfl rfl (o_move rfl) ?_
      refine DRQ.gv 17 rfl rfl (.plain rfl Iff.rfl rfl) rfl (fun hb => o_ldp S45 rfl rfl rfl) ?_
      refine DRQ.gv 17 rfl rfl (.plain rfl Iff.rfl rfl) rfl (fun hb => o_eqz Tryz.underlying45 rfl (lx rfl)) ?_
      refine DRQ.gv 17 rfl rfl (.plain rfl Iff.rfl rfl) rfl (fun hb => o_move rfl) ?_
      refine DRQ.gv 18 rfl rfl (.nest rfl rfl (by simp) rfl) rfl (fun hb => o_move rfl) ?_
      refine DRQ.gv 18 rfl rfl (.nest rfl rfl (by simp) rfl) rfl (fun hb => o_ldp S45 rfl rfl rfl) ?_
      refine DRQ.gv 18 rfl rfl (.nest rfl rfl (by simp) rfl) rfl (fun hb => o_sig 19 (ren [(0, 16), (1, 14)]) (c49 (g (⟨(nth s.adL (i : Int)), hx.1, hx.2.2⟩ : AdL s).1) ((s.bestM g i).2) (by show (g (nth s.adL (i : Int))).length ≤ 1000; have := (hg (nth s.adL (i : Int))).2; omega) (by have := bestM_len hg i; omega)) e49 rfl rfl rfl w49 ⟨(lx rfl), (lxz rfl), trivial⟩ r49) ?_
      refine DRQ.gv 18 rfl rfl (.nest rfl rfl (by simp) rfl) rfl (fun hb => o_lss rfl rfl) ?_
      refine DRQ.gv 17 rfl rfl (.plain rfl Iff.rfl rfl) rfl (fun hb => o_or rfl rfl rfl (by first | (simp; done) | simp_all)) ?_
      refine DRQ.v rfl rfl rfl (o_and rfl rfl rfl id) ?_
      refine DRQ.nil' ?_
      refine EX.then ?_
      refine WP.cond rfl (fun hc2 => ?_) (fun hc2 => ?_)
      · try simp only [cnd] at hc2
        refine WP.imp (Imp.fact 16 (R' := PZ EP.int (g (⟨(nth s.adL (i : Int)), hx.1, hx.2.2⟩ : AdL s).1)) (lx rfl) (PZ.of (hg _).1)) ?_
        refine WP.region ?_
        refine WPl.v rfl (o_move rfl) ?_
        refine WPl.v rfl (o_move rfl) ?_
        refine WPl.s1 (o_sta S45 rfl rfl rfl (.inl ⟨_, (lx rfl), PL.one⟩) rfl) ?_
        refine WPl.s1 (o_sta S45 rfl rfl rfl (.inl ⟨_, (lxz rfl), PL.one⟩) rfl) ?_
        refine WPl.nil (EX.blk ?_)
        have hbr : s.bestM g (i + 1) = ((nth s.adL (i : Int)), g (nth s.adL (i : Int))) := by simp only [Shop.bestM]; rw [if_pos (by simpa using hc2)]
        exact EX.next (ren [(13, 15), (14, 16)]) (LeR.of trivial ⟨(lx rfl), (lx rfl), (lx rfl), (has_eq (F := fun z => PL EP.int z) (show ((nth s.adL (i : Int))) = ((fun i => (s.bestM g i).1) (i + 1)) from by dsimp only; rw [hbr]; try rfl) (lx rfl)), (has_eq (F := fun z => PZ EP.int z) (show (g (⟨(nth s.adL (i : Int)), hx.1, hx.2.2⟩ : AdL s).1) = ((fun i => (s.bestM g i).2) (i + 1)) from by dsimp only; rw [hbr]; try rfl) (lx rfl)), trivial⟩ ⟨rfl, rfl, rfl, rfl, rfl, rfl, trivial⟩ rfl rfl rfl rfl rfl)
      · try simp only [cnd] at hc2
        refine WP.skip (EX.blk ?_)
        have hbr : s.bestM g (i + 1) = s.bestM g i := by simp only [Shop.bestM]; rw [if_neg (by intro h; rw [Bool.and_eq_true, Bool.or_eq_true, decide_eq_true_eq, decide_eq_true_eq] at h; rcases hc2 with h3 | h3; (rw [h.1] at h3; cases h3); (exact h.2.elim h3.1 h3.2))]
        exact EX.next id (LeR.of trivial ⟨(lx rfl), (lx rfl), (lx rfl), (has_eq (F := fun z => PL EP.int z) (show ((s.bestM g i).1) = ((fun i => (s.bestM g i).1) (i + 1)) from by dsimp only; rw [hbr]; try rfl) (lx rfl)), (has_eq (F := fun z => PZ EP.int z) (show ((s.bestM g i).2) = ((fun i => (s.bestM g i).2) (i + 1)) from by dsimp only; rw [hbr]; try rfl) (lx rfl)), trivial⟩ ⟨rfl, rfl, rfl, rfl, rfl, rfl, trivial⟩ rfl rfl rfl rfl rfl)
    · exact fun _ _ h => h.elim
    · skip
      refine EX.blk (EX.then (WP.seq (WP.seq (WP.region ?_))))
      refine WPl.v rfl (o_ldp S45 rfl rfl rfl) ?_
      refine WPl.v rfl (o_eqz Tryz.underlying45 rfl (lx rfl)) ?_
      refine WPl.nil (EX.then ?_)
      refine WP.cond rfl (fun hc3 => ?_) (fun hc3 => ?_)
      · try simp only [cnd] at hc3
        refine WP.seq (WP.region ?_)
        refine WPl.s1 (o_sta S45 rfl rfl rfl rfl rfl) ?_
        refine WPl.s1 (o_sta S45 rfl rfl rfl rfl rfl) ?_
        refine WPl.v rfl (o_assign rfl) ?_
        refine WPl.nil (EX.then (WP.ret (EX.ret_then ?_)))
        refine EX.imp (Imp.nam 15 16 (.slice none 0 0) (R := PN EP.int) pn_ok rfl rfl) ?_
        refine EX.imp (Imp.swL 4 0 15 rfl rfl (lxr rfl)) ?_
        refine EX.imp (Imp.nam 16 17 (.slice none 0 0) (R := PN EP.int) pn_ok rfl rfl) ?_
        refine EX.imp (Imp.swL 5 0 16 rfl rfl (lxr rfl)) ?_
        have hE : s.mE g = 3 := by unfold Shop.mE; rw [hs]; exact if_pos hc3
        rw [show s.mAdd g = [] from by unfold Shop.mAdd; rw [hE]; rfl, show s.mNum g = [] from by unfold Shop.mNum; rw [hE]; rfl, hE]
        exact EX.fin (ren [(0, 15), (1, 16)]) (.inl rfl) rfl (.cell1 S45 rfl rfl (.cell1 S45 rfl rfl (.tmp rfl .nil))) rfl (by simp [SV.res, El.res, At.res, keys]) ⟨lxl rfl, lxl rfl, trivial⟩ (marks rfl) (by simp)
      · try simp only [cnd] at hc3
        refine WP.skip (EX.then (WP.seq ?_))
        refine WP.draw (nf := 15) [⟨[45], [], [], [], []⟩, ⟨[44], [4], [], [], []⟩, ⟨[45], [], [], [4], [0]⟩, ⟨[], [], [], [5], [0, 1, 2]⟩, ⟨[], [], [], [], [0, 1, 2, 3]⟩] (by kernel_rfl) (by kernel_rfl) ?_
        refine DRQ.v rfl rfl rfl (o_ldp S45 rfl rfl rfl) ?_
        refine DRQ.v rfl rfl rfl (o_ldp S45 rfl rfl rfl) ?_
        refine DRQ.s 4 rfl rfl rfl (o_sta S45 rfl rfl rfl (.inl ⟨_, (lx rfl), PL.one⟩) rfl) ?_
        refine DRQ.s 5 rfl rfl rfl (o_sta S45 rfl rfl rfl (.inl ⟨_, (lxz rfl), PL.one⟩) rfl) ?_
        refine DRQ.v rfl rfl rfl (o_assign rfl) ?_
        refine DRQ.nil' ?_
        refine EX.then (WP.ret ?_)
        have hE : s.mE g = 0 := by unfold Shop.mE; rw [hs]; exact if_neg hc3
        rw [show s.mAdd g = (s.bestM g s.adL.length).1 from by unfold Shop.mAdd; rw [hE]; rfl, show s.mNum g = (s.bestM g s.adL.length).2 from by unfold Shop.mNum; rw [hE]; rfl, hE]
        exact EX.fin (ren [(0, 13), (1, 14)]) (.inl rfl) rfl (.cell1 S45 rfl rfl (.cell1 S45 rfl rfl (.tmp rfl .nil))) rfl (by simp [SV.res, El.res, At.res, keys]) ⟨(lx rfl), (lxz rfl), trivial⟩ (marks rfl) (by simp)
end Go.Flong
namespace Go.Flong
open Go Go.Eng Go.Proofs
theorem e25 : Enters' Tryz.prog 25 := Tryz.call25
theorem e24 : Enters' Tryz.prog 24 := Tryz.call24
theorem w24E {s : Shop} : ∀ x ∈ ([.e (.g [ai (s.pounds), ai (s.tl), ai (s.th), ai (s.al), ai (s.ah), ai (s.room), ai (s.tpl), ai (s.tph), ai (s.apl), ai (s.aph), .q 0]), .e (.a (.q 1))] : List SV), x.res (keys (α := Pred) [(0, PL EPig (s.pigs)), (1, Pred.fn)]) := by simp [SV.res, El.res, At.res, keys]
theorem r24E  : SV.res (keys (α := Pred) [(0, PL EP.int ([])), (1, PL EP.int ([]))]) (.t [.a (.q 0), .a (.q 1), .a (ai (10))]) := by simp [SV.res, El.res, At.res, keys]
set_option maxHeartbeats 4000000 in
theorem c24E (s : Shop) (hl : s.pigs.length ≤ 40) (hf : s.chk = false) : Sig Tryz.prog 24 [.e (.g [ai (s.pounds), ai (s.tl), ai (s.th), ai (s.al), ai (s.ah), ai (s.room), ai (s.tpl), ai (s.tph), ai (s.apl), ai (s.aph), .q 0]), .e (.a (.q 1))] [(0, PL EPig (s.pigs)), (1, Pred.fn)] (.t [.a (.q 0), .a (.q 1), .a (ai (10))]) [(0, PL EP.int ([])), (1, PL EP.int ([]))] := by
  have hch : errM s.chk = 10 := by simp [hf, errM]
  refine Sig.intro Tryz.func24 rfl 2 [(0, .e (.g [ai (s.pounds), ai (s.tl), ai (s.th), ai (s.al), ai (s.ah), ai (s.room), ai (s.tpl), ai (s.tph), ai (s.apl), ai (s.aph), .q 0])), (1, .e (.a (.q 1)))] rfl w24E rfl rfl fun I w => ?_
  refine WP.seq (WP.region ?_)
  refine WPl.l 2 3 rfl rfl rfl (o_boxg rfl) ?_
  refine WPl.l 3 4 rfl rfl rfl (o_boxa rfl (.inl ⟨_, (lx rfl), (fun _ _ ⟨_, _, _, h⟩ => by subst h; rfl)⟩)) ?_
  refine WPl.l 4 5 rfl rfl rfl (o_alloc Z45) ?_
  refine WPl.l 5 6 rfl rfl rfl (o_alloc Z45) ?_
  refine WPl.v rfl (o_assign rfl) ?_
  refine WPl.nil (EX.then (WP.seq (WP.region ?_)))
  refine WPl.v rfl (o_ldpa G28 rfl rfl rfl) ?_
  refine WPl.cs 7 rfl rfl rfl rfl (o_sig 6 (ren [(0, 0)]) (c29N s hl) e29 rfl rfl rfl w29N ⟨(lx rfl), trivial⟩ r29N) ?_
  refine WPl.v rfl (o_move rfl) ?_
  refine WPl.v rfl (o_extract rfl rfl) ?_
  refine WPl.v rfl (o_extract rfl rfl) ?_
  refine WPl.l 7 8 rfl rfl rfl (o_alloc Z73) ?_
  refine WPl.s1 (o_stag G73 rfl rfl rfl ⟨rfl, rfl, rfl, rfl, rfl, rfl, rfl, rfl, rfl, rfl, (.inl ⟨_, (lx rfl), PL.one⟩), trivial⟩ rfl rfl) ?_
  refine WPl.v rfl (o_assign rfl) ?_
  refine WPl.nil (EX.then (WP.seq (WP.seq (WP.region ?_))))
  refine WPl.v rfl (o_move rfl) ?_
  refine WPl.v rfl (o_neq rfl rfl) ?_
  refine WPl.nil (EX.then ?_)
  refine WP.cond rfl (fun hc1 => ?_) (fun hc1 => ?_)
  · try simp only [cnd] at hc1
    refine WP.seq (WP.region ?_)
    refine WPl.v rfl (o_move rfl) ?_
    refine WPl.s1 (o_sta S45 rfl rfl rfl rfl rfl) ?_
    refine WPl.s1 (o_sta S45 rfl rfl rfl rfl rfl) ?_
    refine WPl.v rfl (o_assign rfl) ?_
    refine WPl.nil (EX.then (WP.ret (EX.ret_then ?_)))
    refine EX.imp (Imp.nam 8 9 (.slice none 0 0) (R := PN EP.int) pn_ok rfl rfl) ?_
    refine EX.imp (Imp.swL 4 0 8 rfl rfl (lxr rfl)) ?_
    refine EX.imp (Imp.nam 9 10 (.slice none 0 0) (R := PN EP.int) pn_ok rfl rfl) ?_
    refine EX.imp (Imp.swL 5 0 9 rfl rfl (lxr rfl)) ?_
    rw [hch]
    exact EX.fin (ren [(0, 8), (1, 9)]) (.inl rfl) rfl (.cell1 S45 rfl rfl (.cell1 S45 rfl rfl (.tmp rfl .nil))) rfl (by simp [SV.res, El.res, At.res, keys]) ⟨lxl rfl, lxl rfl, trivial⟩ (by simp) (by simp)
  · try simp only [cnd] at hc1
    simp [hch] at hc1
theorem w8 {s : Shop} : ∀ x ∈ ([.e (.g [ai (s.pounds), ai (s.tl), ai (s.th), ai (s.al), ai (s.ah), ai (s.room), ai (s.tpl), ai (s.tph), ai (s.apl), ai (s.aph), .q 0])] : List SV), x.res (keys (α := Pred) [(0, PL EPig (s.pigs))]) := by simp [SV.res, El.res, At.res, keys]
theorem r8 {s : Shop} : SV.res (keys (α := Pred) []) (.t [.a (ai (s.mCheap)), .a (ai (s.mE (priceG s)))]) := by simp [SV.res, El.res, At.res, keys]
set_option maxHeartbeats 4000000 in
theorem c8 (s : Shop) (hl : s.pigs.length ≤ 40) : Sig Tryz.prog 8 [.e (.g [ai (s.pounds), ai (s.tl), ai (s.th), ai (s.al), ai (s.ah), ai (s.room), ai (s.tpl), ai (s.tph), ai (s.apl), ai (s.aph), .q 0])] [(0, PL EPig (s.pigs))] (.t [.a (ai (s.mCheap)), .a (ai (s.mE (priceG s)))]) [] := by
  rcases Bool.eq_false_or_eq_true s.chk with hf | hf
  · skip
    refine Sig.intro Tryz.func8 rfl 1 [(0, .e (.g [ai (s.pounds), ai (s.tl), ai (s.th), ai (s.al), ai (s.ah), ai (s.room), ai (s.tpl), ai (s.tph), ai (s.apl), ai (s.aph), .q 0]))] rfl w8 rfl rfl fun I w => ?_
    refine WP.seq (WP.region ?_)
    refine WPl.l 1 2 rfl rfl rfl (o_boxg rfl) ?_
    refine WPl.v rfl (o_assign rfl) ?_
    refine WPl.v rfl (o_assign rfl) ?_
    refine WPl.nil (EX.then (WP.seq (WP.region ?_)))
    refine WPl.v rfl (o_ldpa G28 rfl rfl rfl) ?_
    refine WPl.imp (Imp.nam 2 3 (.func (.func 25) #[] #[]) (R := (OfM s (priceG s)).and (Pred.is (.func (.func 25) #[] #[]))) (fun I => FvP.namea (fun (x : AdL s) => (c25 s x hf)) e25 (fun _ => (by simp [SV.res, El.res, At.res, keys])) I) rfl rfl) ?_
    refine WPl.cs 5 rfl rfl rfl rfl (o_sigc 3 (ren [(0, 0), (1, 2)]) (c24 s (priceG s) hl (price_ok s) (fun h => by rw [hf] at h; cases h)) e24 rfl rfl ⟨.inl rfl, .inr ⟨_, _, rfl, fun _ => rfl, (lxr rfl)⟩, trivial⟩ w24 ⟨(lx rfl), (lxl rfl), trivial⟩ r24) ?_
    refine WPl.v rfl (o_move rfl) ?_
    refine WPl.v rfl (o_extract rfl rfl) ?_
    refine WPl.v rfl (o_extract rfl rfl) ?_
    refine WPl.v rfl (o_extract rfl rfl) ?_
    refine WPl.v rfl (o_assign rfl) ?_
    refine WPl.v rfl (o_assign rfl) ?_
    refine WPl.v rfl (o_assign rfl) ?_
    refine WPl.nil (EX.then (WP.seq (WP.seq (WP.region ?_))))
    refine WPl.v rfl (o_move rfl) ?_
    refine WPl.v rfl (o_neq rfl rfl) ?_
    refine WPl.nil (EX.then ?_)
    refine WP.cond rfl (fun hc1 => ?_) (fun hc1 => ?_)
    · try simp only [cnd] at hc1
      refine WP.seq (WP.region ?_)
      refine WPl.v rfl (o_move rfl) ?_
      refine WPl.v rfl (o_assign rfl) ?_
      refine WPl.v rfl (o_assign rfl) ?_
      refine WPl.nil (EX.then (WP.ret (EX.ret_then ?_)))
      rw [show s.mCheap = 0 from if_neg hc1]
      exact EX.fin id (.inl rfl) rfl (.tmp rfl (.tmp rfl .nil)) rfl (by simp [SV.res, El.res, At.res, keys]) trivial (by simp) (by simp)
    · try simp only [cnd] at hc1
      have hm := mE_eq (by simpa using hc1)
      refine WP.skip (EX.then (WP.seq (WP.region ?_)))
      refine WPl.v rfl (o_move rfl) ?_
      refine WPl.x 5 6 rfl rfl rfl (o_idx L45 rfl (lx rfl) rfl (by first | omega | (simp; omega)) (by first | omega | (simp; omega))) ?_
      refine WPl.v rfl (o_ldq S3 rfl (lx rfl) intc) ?_
      refine WPl.v rfl (o_assign rfl) ?_
      refine WPl.v rfl (o_assign rfl) ?_
      refine WPl.nil (EX.then (WP.ret ?_))
      rw [show s.mCheap = nth (s.mNum (priceG s)) 0 from if_pos (by simpa using hc1), show s.mE (priceG s) = 0 from by simpa using hc1]
      exact EX.fin id (.inl rfl) rfl (.tmp rfl (.tmp rfl .nil)) rfl (by simp [SV.res, El.res, At.res, keys]) trivial (by simp) (by simp)
  · skip
    refine Sig.intro Tryz.func8 rfl 1 [(0, .e (.g [ai (s.pounds), ai (s.tl), ai (s.th), ai (s.al), ai (s.ah), ai (s.room), ai (s.tpl), ai (s.tph), ai (s.apl), ai (s.aph), .q 0]))] rfl w8 rfl rfl fun I w => ?_
    refine WP.seq (WP.region ?_)
    refine WPl.l 1 2 rfl rfl rfl (o_boxg rfl) ?_
    refine WPl.v rfl (o_assign rfl) ?_
    refine WPl.v rfl (o_assign rfl) ?_
    refine WPl.nil (EX.then (WP.seq (WP.region ?_)))
    refine WPl.v rfl (o_ldpa G28 rfl rfl rfl) ?_
    refine WPl.imp (Imp.nam 2 3 (.func (.func 25) #[] #[]) (R := Pred.fn.and (Pred.is (.func (.func 25) #[] #[]))) (fun _ => ⟨⟨_, _, _, rfl⟩, rfl⟩) rfl rfl) ?_
    refine WPl.cs 5 rfl rfl rfl rfl (o_sigc 3 (ren [(0, 0), (1, 2)]) (c24E s hl hf) e24 rfl rfl ⟨.inl rfl, .inr ⟨_, _, rfl, fun _ => rfl, (lxr rfl)⟩, trivial⟩ w24E ⟨(lx rfl), (lxl rfl), trivial⟩ r24E) ?_
    refine WPl.v rfl (o_move rfl) ?_
    refine WPl.v rfl (o_extract rfl rfl) ?_
    refine WPl.v rfl (o_extract rfl rfl) ?_
    refine WPl.v rfl (o_extract rfl rfl) ?_
    refine WPl.v rfl (o_assign rfl) ?_
    refine WPl.v rfl (o_assign rfl) ?_
    refine WPl.v rfl (o_assign rfl) ?_
    refine WPl.nil (EX.then (WP.seq (WP.seq (WP.region ?_))))
    refine WPl.v rfl (o_move rfl) ?_
    refine WPl.v rfl (o_neq rfl rfl) ?_
    refine WPl.nil (EX.then ?_)
    refine WP.cond rfl (fun hc1 => ?_) (fun hc1 => ?_)
    · try simp only [cnd] at hc1
      refine WP.seq (WP.region ?_)
      refine WPl.v rfl (o_move rfl) ?_
      refine WPl.v rfl (o_assign rfl) ?_
      refine WPl.v rfl (o_assign rfl) ?_
      refine WPl.nil (EX.then (WP.ret (EX.ret_then ?_)))
      have hE : s.mE (priceG s) = 10 := by unfold Shop.mE; rw [hf]; rfl
      rw [hE, show s.mCheap = 0 from by unfold Shop.mCheap; rw [hE]; rfl]
      exact EX.fin id (.inl rfl) rfl (.tmp rfl (.tmp rfl .nil)) rfl (by simp [SV.res, El.res, At.res, keys]) trivial (by simp) (by simp)
    · try simp only [cnd] at hc1
      simp at hc1
end Go.Flong
namespace Go.Flong
open Go Go.Eng Go.Proofs
end Go.Flong
namespace Go.Proofs
open Go.Shelf Go.RowKit Go.Lib Go.Sort Go.Flong
def Tryz.sortOf_ren : Go.Shelf.Ren := ⟨fun | 6 => 61 | 15 => 86 | 14 => 85 | 28 => 100 | 29 => 101 | 20 => 92 | 21 => 93 | 22 => 94 | 23 => 95 | 24 => 96 | 25 => 97 | 26 => 98 | 27 => 99 | 46 => 102 | 47 => 103 | 48 => 104 | 49 => 105 | 50 => 106 | 57 => 107 | n => n, fun | 22 => 76 | 24 => 80 | 25 => 109 | 3 => 3 | 39 => 115 | 0 => 0 | 53 => 136 | 55 => 139 | 4 => 4 | 46 => 145 | 45 => 144 | 50 => 131 | 5 => 5 | 9 => 9 | 66 => 152 | 70 => 156 | 76 => 158 | 77 => 159 | n => n, fun | n => n⟩
theorem Tryz.sortOf : Go.Proofs.SlLaysF0.n6 Tryz.prog Tryz.sortOf_ren := {
  mixed := by kernel_rfl,
  f6 := ⟨Tryz.f61.name, by decide, Tryz.func61.trans (congrArg some (by kernel_rfl))⟩,
  f14 := ⟨Tryz.f85.name, by decide, Tryz.func85.trans (congrArg some (by kernel_rfl))⟩,
  f15 := Tryz.func86.trans (congrArg some (by kernel_rfl)),
  f20 := ⟨Tryz.f92.name, by decide, Tryz.func92.trans (congrArg some (by kernel_rfl))⟩,
  f21 := ⟨Tryz.f93.name, by decide, Tryz.func93.trans (congrArg some (by kernel_rfl))⟩,
  f22 := ⟨Tryz.f94.name, by decide, Tryz.func94.trans (congrArg some (by kernel_rfl))⟩,
  f23 := ⟨Tryz.f95.name, by decide, Tryz.func95.trans (congrArg some (by kernel_rfl))⟩,
  f24 := ⟨Tryz.f96.name, by decide, Tryz.func96.trans (congrArg some (by kernel_rfl))⟩,
  f25 := ⟨Tryz.f97.name, by decide, Tryz.func97.trans (congrArg some (by kernel_rfl))⟩,
  f26 := ⟨Tryz.f98.name, by decide, Tryz.func98.trans (congrArg some (by kernel_rfl))⟩,
  f27 := ⟨Tryz.f99.name, by decide, Tryz.func99.trans (congrArg some (by kernel_rfl))⟩,
  f28 := Tryz.func100.trans (congrArg some (by kernel_rfl)),
  f29 := Tryz.func101.trans (congrArg some (by kernel_rfl)),
  f46 := ⟨Tryz.f102.name, by decide, Tryz.func102.trans (congrArg some (by kernel_rfl))⟩,
  f47 := Tryz.func103.trans (congrArg some (by kernel_rfl)),
  f48 := Tryz.func104.trans (congrArg some (by kernel_rfl)),
  f49 := ⟨Tryz.f105.name, by decide, Tryz.func105.trans (congrArg some (by kernel_rfl))⟩,
  f50 := ⟨Tryz.f106.name, by decide, Tryz.func106.trans (congrArg some (by kernel_rfl))⟩,
  f57 := ⟨Tryz.f107.name, by decide, Tryz.func107.trans (congrArg some (by kernel_rfl))⟩,
  t0 := Tryz.underlying0,
  a0 := Tryz.isAgg0,
  z0 := Tryz.sizeOf0,
  v0 := Tryz.zeroValue0,
  t3 := Tryz.underlying3,
  a3 := Tryz.isAgg3,
  z3 := Tryz.sizeOf3,
  v3 := Tryz.zeroValue3,
  t4 := Tryz.underlying4,
  a4 := Tryz.isAgg4,
  z4 := Tryz.sizeOf4,
  v4 := Tryz.zeroValue4,
  t5 := Tryz.underlying5,
  a5 := Tryz.isAgg5,
  z5 := Tryz.sizeOf5,
  v5 := Tryz.zeroValue5,
  t9 := Tryz.underlying9,
  a9 := Tryz.isAgg9,
  z9 := Tryz.sizeOf9,
  v9 := Tryz.zeroValue9,
  t22 := Tryz.underlying76,
  a22 := Tryz.isAgg76,
  z22 := Tryz.sizeOf76,
  v22 := Tryz.zeroValue76,
  t25 := Tryz.underlying109,
  a25 := Tryz.isAgg109,
  z25 := Tryz.sizeOf109,
  v25 := Tryz.zeroValue109,
  t39 := Tryz.underlying115,
  a39 := Tryz.isAgg115,
  z39 := Tryz.sizeOf115,
  v39 := Tryz.zeroValue115,
  t45 := Tryz.underlying144,
  a45 := Tryz.isAgg144,
  z45 := Tryz.sizeOf144,
  v45 := Tryz.zeroValue144,
  t46 := Tryz.underlying145,
  a46 := Tryz.isAgg145,
  z46 := Tryz.sizeOf145,
  v46 := Tryz.zeroValue145,
  t50 := Tryz.underlying131,
  a50 := Tryz.isAgg131,
  z50 := Tryz.sizeOf131,
  v50 := Tryz.zeroValue131,
  t53 := Tryz.underlying136,
  a53 := Tryz.isAgg136,
  z53 := Tryz.sizeOf136,
  v53 := Tryz.zeroValue136,
  t55 := Tryz.underlying139,
  a55 := Tryz.isAgg139,
  z55 := Tryz.sizeOf139,
  v55 := Tryz.zeroValue139,
  t66 := Tryz.underlying152,
  a66 := Tryz.isAgg152,
  z66 := Tryz.sizeOf152,
  v66 := Tryz.zeroValue152,
  t70 := Tryz.underlying156,
  a70 := Tryz.isAgg156,
  z70 := Tryz.sizeOf156,
  v70 := Tryz.zeroValue156,
  t76 := Tryz.underlying158,
  a76 := Tryz.isAgg158,
  z76 := Tryz.sizeOf158,
  v76 := Tryz.zeroValue158,
  t77 := Tryz.underlying159,
  a77 := Tryz.isAgg159,
  z77 := Tryz.sizeOf159,
  v77 := Tryz.zeroValue159 }
def Tryz.cmpOf_ren : Go.Shelf.Ren := ⟨fun | 5 => 63 | 7 => 87 | n => n, fun | 22 => 3 | 3 => 3 | 4 => 4 | n => n, fun | n => n⟩
theorem Tryz.cmpOf : Go.Proofs.SlLaysC2.n5 Tryz.prog Tryz.cmpOf_ren := {
  mixed := by kernel_rfl,
  f5 := ⟨Tryz.f63.name, by decide, Tryz.func63.trans (congrArg some (by kernel_rfl))⟩,
  f7 := ⟨Tryz.f87.name, by decide, Tryz.func87.trans (congrArg some (by kernel_rfl))⟩,
  t3 := Tryz.underlying3,
  a3 := Tryz.isAgg3,
  z3 := Tryz.sizeOf3,
  v3 := Tryz.zeroValue3,
  t4 := Tryz.underlying4,
  a4 := Tryz.isAgg4,
  z4 := Tryz.sizeOf4,
  v4 := Tryz.zeroValue4,
  t22 := Tryz.underlying3,
  a22 := Tryz.isAgg3,
  z22 := Tryz.sizeOf3,
  v22 := Tryz.zeroValue3 }
set_option maxHeartbeats 1000000 in
theorem Tryz.closureOf (x y : Offer) (W : World) : Calls Tryz.prog 62 #[.agg #[.int .i64 x.pence, .int .i64 x.tl, .int .i64 x.th, .int .i64 x.al, .int .i64 x.ah], .agg #[.int .i64 y.pence, .int .i64 y.tl, .int .i64 y.th, .int .i64 y.al, .int .i64 y.ah]] W fun e w' => e = .returned (.int .i64 (Lib.compareInt x.pence y.pence)) ∧ ∃ q os', w' = grow (W.drewN q) os' := by
  have hcon := fun W' => AnyG.cmp_Compare_int Tryz.cmpOf x.pence y.pence W'
  change ∀ W', Calls Tryz.prog 63 _ _ _ at hcon
  generalize Lib.compareInt x.pence y.pence = r at hcon ⊢
  go_enter Tryz.func62, Tryz.ntmps62
  go_wp2_with (go_at_call 63; refine (hcon _).mono ?_; rintro e w' ⟨rfl, rfl⟩)
  go_ret
  exact ⟨rfl, 0, _, by rw [alloc_eq_grow, alloc_eq_grow, grow_grow]; rfl⟩
theorem Tryz.cmpLaysOf (blk off size : Nat) (w : World) : CmpLays Tryz.prog 62 #[] encOf 5 offCf blk off size w := fun _ _ _ _ x y => Tryz.closureOf x y _
end Go.Proofs
namespace Go.Flong
open Go Go.Eng Go.Proofs
theorem c61 {l : List Offer} (hl : l.length < 4611686018427387904) : SigR Tryz.prog 61 (.func (.func 62) #[] #[]) EOf 80 l (sortL offCf l) :=
  sortSig Tryz.sortOf Tryz.isAgg80 Tryz.sizeOf80 (fun _ => rfl) (fun x v hv => by simp [encOf] at hv; rcases hv with rfl | rfl | rfl | rfl | rfl <;> rfl) offSwo Tryz.call62 Tryz.cmpLaysOf encOf_iff rfl hl
end Go.Flong
namespace Go.Flong
open Go Go.Eng Go.Proofs
theorem Z76 : Zero Tryz.prog 76 [.v (.slice none 0 0)] := .mk Tryz.zeroValue76 rfl rfl
theorem S76 : TyS Tryz.prog 76 := ⟨Tryz.isAgg76, Tryz.sizeOf76⟩
theorem e58 : Enters' Tryz.prog 58 := Tryz.call58
theorem B80 : BldT Tryz.prog 80 [(0, 1), (1, 2), (3, 2)] [.int .i64 0, .int .i64 0, .int .i64 0, .int .i64 0, .int .i64 0] := BldT.mk (ns := [1, 2, 2]) Tryz.underlying80 ⟨Tryz.sizeOf3, Tryz.sizeOf23, Tryz.sizeOf23, trivial⟩ rfl Tryz.zeroValue80 rfl
theorem R76 : RowT Tryz.prog 76 80 5 40 [.int .i64 0, .int .i64 0, .int .i64 0, .int .i64 0, .int .i64 0] := ⟨Tryz.underlying76, ⟨Tryz.t80, _, by kernel_rfl, rfl, rfl, rfl, rfl⟩, rfl, by decide⟩
theorem e61 : Enters' Tryz.prog 61 := Tryz.call61
theorem L76 : IsSl Tryz.prog 76 80 5 := ⟨Tryz.underlying76, Tryz.sizeOf80⟩
theorem G80 : TyG Tryz.prog 80 5 := ⟨Tryz.isAgg80, Tryz.sizeOf80⟩
abbrev HitQ (h : Offer → Bool) : Pred := Pred.all fun (o : Offer) => FvP Tryz.prog [.e (.g [ai (o.pence), ai (o.tl), ai (o.th), ai (o.al), ai (o.ah)])] [] (.b (h o)) []
theorem F80_1 : Fld Tryz.prog 80 1 1 := .mk Tryz.underlying80 rfl rfl rfl Tryz.sizeOf23 rfl
theorem F80_2 : Fld Tryz.prog 80 2 3 := .mk Tryz.underlying80 rfl rfl rfl Tryz.sizeOf23 rfl
theorem e30 : Enters' Tryz.prog 30 := Tryz.call30
theorem e32 : Enters' Tryz.prog 32 := Tryz.call32
theorem e31 : Enters' Tryz.prog 31 := Tryz.call31
theorem F80_0 : Fld Tryz.prog 80 0 0 := .mk Tryz.underlying80 rfl rfl rfl Tryz.sizeOf3 rfl
theorem w30 {s : Shop} : ∀ x ∈ ([.e (.g [ai (s.pounds), ai (s.tl), ai (s.th), ai (s.al), ai (s.ah), ai (s.room), ai (s.tpl), ai (s.tph), ai (s.apl), ai (s.aph), .q 0])] : List SV), x.res (keys (α := Pred) [(0, PL EPig (s.pigs))]) := by simp [SV.res, El.res, At.res, keys]
theorem r30 {s : Shop} : SV.res (keys (α := Pred) [(0, PL EOf (s.offS))]) (.e (.a (.q 0))) := by simp [SV.res, El.res, At.res, keys]
set_option maxHeartbeats 4000000 in
theorem c30 (s : Shop) (hs : s.chk = true) : Sig Tryz.prog 30 [.e (.g [ai (s.pounds), ai (s.tl), ai (s.th), ai (s.al), ai (s.ah), ai (s.room), ai (s.tpl), ai (s.tph), ai (s.apl), ai (s.aph), .q 0])] [(0, PL EPig (s.pigs))] (.e (.a (.q 0))) [(0, PL EOf (s.offS))] := by
  have hpg := Shop.pigsOK hs
  have hp4 := hpg.2
  have htb := tl_bnd hs
  have hal := adL_len hpg
  refine Sig.intro Tryz.func30 rfl 1 [(0, .e (.g [ai (s.pounds), ai (s.tl), ai (s.th), ai (s.al), ai (s.ah), ai (s.room), ai (s.tpl), ai (s.tph), ai (s.apl), ai (s.aph), .q 0]))] rfl w30 rfl rfl fun I w => ?_
  refine WP.seq (WP.region ?_)
  refine WPl.l 1 2 rfl rfl rfl (o_boxg rfl) ?_
  refine WPl.v rfl (o_assign rfl) ?_
  refine WPl.nil (EX.then (WP.seq (WP.region ?_)))
  refine WPl.l 2 3 rfl rfl rfl (o_alloc Z76) ?_
  refine WPl.nil (EX.then (WP.seq (WP.seq (WP.region ?_))))
  refine WPl.v rfl (o_ldpa G73 rfl rfl rfl) ?_
  refine WPl.x 3 4 rfl rfl rfl (o_mkbit 3 (ren [(0, 0)]) (c46 s hs) e46 rfl SvsOK.rf w46 ⟨(lx rfl), trivial⟩) ?_
  refine WPl.nil (EX.then (WP.block ?_))
  refine WP.leR (S' := ⟨4, [(1, .e (.a (.p 1 (0)))), (2, .e (.a (.v (.slice none 0 0)))), (3, .e (.a (.p 2 (0)))), (7, .e (.a (.q 3)))], [(0, PL EPig (s.pigs)), (3, ItQ Tryz.prog s.adItems)], [(1, .blk [ai (s.pounds), ai (s.tl), ai (s.th), ai (s.al), ai (s.ah), ai (s.room), ai (s.tpl), ai (s.tph), ai (s.apl), ai (s.aph), .q 0] 73), (2, .blk [.v (.slice none 0 0)] 76)], [], []⟩) id (LeR.of ⟨rfl, rfl, rfl, rfl, trivial⟩ ⟨(lx rfl), (lx rfl), trivial⟩ ⟨rfl, rfl, trivial⟩ rfl rfl rfl rfl rfl) ?_
  refine WP.imp (Imp.namo EOf 4 5 80 rfl rfl) ?_
  refine WP.imp (Imp.swL 2 0 4 rfl rfl (lx rfl)) ?_
  refine WP.rangeV 8 1 (s.adL.length) (fun i => ⟨[.e (.a (.q 0))], [(0, PL EP.int ((nth s.adL (i : Int))))], []⟩) (fun i => ⟨8, [(1, .e (.a (.p 1 (0)))), (2, .e (.a (.v (.slice none 0 0)))), (3, .e (.a (.p 2 (0)))), (7, .e (.a (.q 3)))], [(0, PL EPig (s.pigs)), (3, ItQ Tryz.prog s.adItems), (4, Pred.is (.slice none 0 0))], [(1, .blk [ai (s.pounds), ai (s.tl), ai (s.th), ai (s.al), ai (s.ah), ai (s.room), ai (s.tpl), ai (s.tph), ai (s.apl), ai (s.aph), .q 0] 73), (2, .blk [.q 7] 76), (5, .ob (.deferred (some []))), (7, .own 80 EOf.size (s.offTo i).length (RP EOf (s.offTo i)))], [5], []⟩) (fun _ _ => False) rfl  rfl (ItQ.hit (lx rfl)) (rfl) (fun _ => RSt.of rfl rfl rfl rfl rfl rfl) (fun _ _ h => h.elim) rfl rfl rfl (fun _ _ => ItemOK.of rfl) rfl rfl (ren [(7, 4)]) (LeR.of ⟨rfl, rfl, rfl, rfl, trivial⟩ ⟨(lx rfl), (lx rfl), (lx rfl), trivial⟩ ⟨rfl, rfl, rfl, rfl, trivial⟩ rfl rfl rfl rfl rfl) ?_ ?_ ?_
  · intro i hi w1 E1 I1 R1 pβ1 pν1 us1
    have hx := isAddB hpg (adL_at hi)
    have hq0 := sumOf_bnd (f := Pig.pounds) hpg (by omega) hx.2.2 (fun p h => by have := Pig.bnds h; omega)
    have hq1 := sumOf_bnd (f := Pig.tin) hpg (by omega) hx.2.2 (fun p h => by have := Pig.bnds h; omega)
    have hq2 := sumOf_bnd (f := Pig.ant) hpg (by omega) hx.2.2 (fun p h => by have := Pig.bnds h; omega)
    have hj0 := justB (a := s.tpl) (n := s.pounds + sumOf Pig.pounds s.pigs (nth s.adL (i : Int))) (by omega) (by omega)
    have hj1 := justB (a := s.tph) (n := s.pounds + sumOf Pig.pounds s.pigs (nth s.adL (i : Int))) (by omega) (by omega)
    have hj2 := justB (a := s.apl) (n := s.pounds + sumOf Pig.pounds s.pigs (nth s.adL (i : Int))) (by omega) (by omega)
    have hj3 := justB (a := s.aph) (n := s.pounds + sumOf Pig.pounds s.pigs (nth s.adL (i : Int))) (by omega) (by omega)
    refine WP.region ?_
    refine WPl.v rfl (o_assign rfl) ?_
    refine WPl.nil ?_
    refine EX.beg rfl ?_
    refine WP.block (WP.seq ?_)
    refine WP.imp (Imp.nam 9 10 (.func (.func 52) #[] #[]) (R := (PigQ Pig.pounds).and (Pred.is (.func (.func 52) #[] #[]))) (fun I => FvP.namea (fun (x : Pig) => (c52 x)) e52 (fun _ => (by simp [SV.res, El.res, At.res, keys])) I) rfl rfl) ?_
    refine WP.draw (nf := 10) [⟨[13, 14, 15], [], [], [], []⟩, ⟨[13, 14, 15], [], [], [], [0]⟩, ⟨[13, 14, 15], [], [], [], [0, 1]⟩, ⟨[13, 14, 15], [], [], [], [0, 1, 2]⟩, ⟨[9, 10, 11, 12, 14], [], [], [], []⟩, ⟨[9, 10, 11, 12, 13], [], [], [], []⟩, ⟨[9, 10, 11, 12], [], [], [], [4, 5]⟩, ⟨[], [], [], [], [0, 1, 2, 3, 4, 5, 6]⟩, ⟨[], [], [], [], [0, 1, 2, 3, 4, 5, 6, 7]⟩] (by kernel_rfl) (by kernel_rfl) ?_
    refine DRQ.v rfl rfl rfl (o_fldp F73_0 rfl) ?_
    refine DRQ.v rfl rfl rfl (o_fldp F28_0 rfl) ?_
    refine DRQ.v rfl rfl rfl (o_fldp F25_0 rfl) ?_
    refine DRQ.v rfl rfl rfl (o_ldp S3 rfl rfl rfl) ?_
    refine DRQ.v rfl rfl rfl (o_ldpa G73 rfl rfl rfl) ?_
    refine DRQ.v rfl rfl rfl (o_move rfl) ?_
    refine DRQ.cs rfl rfl rfl rfl (o_sigc 10 (ren [(0, 0), (1, 8), (2, 9)]) (c50 s (nth s.adL (i : Int)) Pig.pounds hpg hx.2.2 (by omega) (fun p h => by have := Pig.bnds h; (show 0 ≤ p.pounds ∧ p.pounds ≤ 99); omega)) e50 rfl rfl ⟨.inl rfl, .inl rfl, .inr ⟨_, _, rfl, fun _ => rfl, (lxr rfl)⟩, trivial⟩ w50 ⟨(lx rfl), (lx rfl), (lxl rfl), trivial⟩ r50) ?_
    refine DRQ.v rfl rfl rfl (o_add rfl rfl (by first | omega | (simp; omega)) (by first | omega | (simp; omega))) ?_
    refine DRQ.v rfl rfl rfl (o_assign rfl) ?_
    refine DRQ.nil' ?_
    refine EX.then ?_
    refine WP.imp (Imp.nam 10 11 (.func (.func 51) #[] #[]) (R := (PigQ Pig.pence).and (Pred.is (.func (.func 51) #[] #[]))) (fun I => FvP.namea (fun (x : Pig) => (c51 x)) e51 (fun _ => (by simp [SV.res, El.res, At.res, keys])) I) rfl rfl) ?_
    refine WP.imp (Imp.nam 11 12 (.func (.func 59) #[] #[]) (R := (PigQ Pig.tin).and (Pred.is (.func (.func 59) #[] #[]))) (fun I => FvP.namea (fun (x : Pig) => (c59 x)) e59 (fun _ => (by simp [SV.res, El.res, At.res, keys])) I) rfl rfl) ?_
    refine WP.imp (Imp.nam 12 13 (.func (.func 60) #[] #[]) (R := (PigQ Pig.ant).and (Pred.is (.func (.func 60) #[] #[]))) (fun I => FvP.namea (fun (x : Pig) => (c60 x)) e60 (fun _ => (by simp [SV.res, El.res, At.res, keys])) I) rfl rfl) ?_
    refine WP.draw (nf := 15) [⟨[18, 19, 20, 21, 22, 23, 24, 25, 26, 27, 28, 29, 30, 31, 32, 33, 34, 35, 36, 37, 38, 39, 40, 41, 42], [13], [], [], []⟩, ⟨[17, 19, 21, 22, 23, 24, 26, 27, 31, 32, 33, 34, 36, 37], [], [], [], []⟩, ⟨[17, 18, 21, 22, 23, 24, 26, 27, 31, 32, 33, 34, 36, 37], [], [], [], []⟩, ⟨[17, 21, 22, 23, 24, 26, 27, 31, 32, 33, 34, 36, 37], [], [], [], [1, 2]⟩, ⟨[17, 18, 19, 20, 24, 26, 27, 31, 32, 33, 34, 36, 37], [], [], [], []⟩, ⟨[17, 18, 19, 20, 24, 26, 27, 31, 32, 33, 34, 36, 37], [], [], [], [4]⟩, ⟨[17, 18, 19, 20, 24, 26, 27, 31, 32, 33, 34, 36, 37], [], [], [], [4, 5]⟩, ⟨[17, 18, 19, 20, 21, 22, 23, 26, 27, 31, 32, 33, 34, 36, 37], [], [], [], []⟩, ⟨[17, 26, 27, 31, 32, 33, 34, 36, 37], [], [], [], [1, 2, 3, 4, 5, 6, 7]⟩, ⟨[17, 18, 19, 20, 21, 22, 23, 24, 25, 27, 31, 32, 33, 34, 36, 37], [], [], [], []⟩, ⟨[17, 18, 19, 20, 21, 22, 23, 24, 25, 26, 31, 32, 33, 34, 36, 37], [], [], [], []⟩, ⟨[17, 31, 32, 33, 34, 36, 37], [], [], [], [1, 2, 3, 4, 5, 6, 7, 8, 9, 10]⟩, ⟨[17, 31, 32, 33, 34, 36, 37], [], [], [], [1, 2, 3, 4, 5, 6, 7, 8, 9, 10, 11]⟩, ⟨[17, 31, 32, 33, 34, 36, 37], [], [], [], [1, 2, 3, 4, 5, 6, 7, 8, 9, 10, 11, 12]⟩, ⟨[17, 18, 19, 20, 21, 22, 23, 24, 25, 26, 27, 28, 29, 30, 34, 36, 37], [], [], [], []⟩, ⟨[17, 18, 19, 20, 21, 22, 23, 24, 25, 26, 27, 28, 29, 30, 34, 36, 37], [], [], [], [14]⟩, ⟨[17, 18, 19, 20, 21, 22, 23, 24, 25, 26, 27, 28, 29, 30, 34, 36, 37], [], [], [], [14, 15]⟩, ⟨[17, 18, 19, 20, 21, 22, 23, 24, 25, 26, 27, 28, 29, 30, 31, 32, 33, 36, 37], [], [], [], []⟩, ⟨[17, 36, 37], [], [], [], [1, 2, 3, 4, 5, 6, 7, 8, 9, 10, 11, 12, 13, 14, 15, 16, 17]⟩, ⟨[17, 18, 19, 20, 21, 22, 23, 24, 25, 26, 27, 28, 29, 30, 31, 32, 33, 34, 35, 37], [], [], [], []⟩, ⟨[17, 18, 19, 20, 21, 22, 23, 24, 25, 26, 27, 28, 29, 30, 31, 32, 33, 34, 35, 36], [], [], [], []⟩, ⟨[17], [], [], [], [1, 2, 3, 4, 5, 6, 7, 8, 9, 10, 11, 12, 13, 14, 15, 16, 17, 18, 19, 20]⟩, ⟨[17], [], [], [], [1, 2, 3, 4, 5, 6, 7, 8, 9, 10, 11, 12, 13, 14, 15, 16, 17, 18, 19, 20, 21]⟩, ⟨[17], [], [], [], [1, 2, 3, 4, 5, 6, 7, 8, 9, 10, 11, 12, 13, 14, 15, 16, 17, 18, 19, 20, 21, 22]⟩, ⟨[17], [], [], [], [1, 2, 3, 4, 5, 6, 7, 8, 9, 10, 11, 12, 13, 14, 15, 16, 17, 18, 19, 20, 21, 22, 23]⟩, ⟨[17], [], [13], [13, 13], [1, 2, 3, 4, 5, 6, 7, 8, 9, 10, 11, 12, 13, 14, 15, 16, 17, 18, 19, 20, 21, 22, 23, 24]⟩, ⟨[], [], [14], [14, 7], [0, 1, 2, 3, 4, 5, 6, 7, 8, 9, 10, 11, 12, 13, 14, 15, 16, 17, 18, 19, 20, 21, 22, 23, 24, 25]⟩, ⟨[], [], [], [2], [0, 1, 2, 3, 4, 5, 6, 7, 8, 9, 10, 11, 12, 13, 14, 15, 16, 17, 18, 19, 20, 21, 22, 23, 24, 25, 26]⟩] (by kernel_rfl) (by kernel_rfl) ?_
    refine DRQ.v rfl rfl rfl (o_ldp S76 rfl rfl rfl) ?_
    refine DRQ.v rfl rfl rfl (o_ldpa G73 rfl rfl rfl) ?_
    refine DRQ.v rfl rfl rfl (o_move rfl) ?_
    refine DRQ.cs rfl rfl rfl rfl (o_sigc 13 (ren [(0, 0), (1, 8), (2, 10)]) (c50 s (nth s.adL (i : Int)) Pig.pence hpg hx.2.2 (by omega) (fun p h => by have := Pig.bnds h; (show 0 ≤ p.pence ∧ p.pence ≤ 99); omega)) e50 rfl rfl ⟨.inl rfl, .inl rfl, .inr ⟨_, _, rfl, fun _ => rfl, (lxr rfl)⟩, trivial⟩ w50 ⟨(lx rfl), (lx rfl), (lxl rfl), trivial⟩ r50) ?_
    refine DRQ.v rfl rfl rfl (o_fldp F73_0 rfl) ?_
    refine DRQ.v rfl rfl rfl (o_fldp F28_2 rfl) ?_
    refine DRQ.v rfl rfl rfl (o_ldpg G23 rfl rfl rfl) ?_
    refine DRQ.v rfl rfl rfl (o_move rfl) ?_
    refine DRQ.cs rfl rfl rfl rfl (o_sig 13 id (c58 s.tpl s.tph (s.pounds + (sumOf Pig.pounds s.pigs (nth s.adL (i : Int)))) (by omega) (by omega) (by omega)) e58 rfl rfl rfl w58 trivial r58) ?_
    refine DRQ.v rfl rfl rfl (o_ldpa G73 rfl rfl rfl) ?_
    refine DRQ.v rfl rfl rfl (o_move rfl) ?_
    refine DRQ.cs rfl rfl rfl rfl (o_sigc 13 (ren [(0, 0), (1, 8), (2, 11)]) (c50 s (nth s.adL (i : Int)) Pig.tin hpg hx.2.2 (by omega) (fun p h => by have := Pig.bnds h; (show 0 ≤ p.tin ∧ p.tin ≤ 99); omega)) e50 rfl rfl ⟨.inl rfl, .inl rfl, .inr ⟨_, _, rfl, fun _ => rfl, (lxr rfl)⟩, trivial⟩ w50 ⟨(lx rfl), (lx rfl), (lxl rfl), trivial⟩ r50) ?_
    refine DRQ.v rfl rfl rfl (o_neg rfl (by first | omega | (simp; omega)) (by first | omega | (simp; omega))) ?_
    refine DRQ.cs rfl rfl rfl rfl (o_sig 13 id (c57 (justL s.tpl (s.pounds + (sumOf Pig.pounds s.pigs (nth s.adL (i : Int))))) (justH s.tph (s.pounds + (sumOf Pig.pounds s.pigs (nth s.adL (i : Int))))) (-(sumOf Pig.tin s.pigs (nth s.adL (i : Int)))) (by omega) (by omega) (by omega)) e57 rfl rfl rfl w57 trivial r57) ?_
    refine DRQ.v rfl rfl rfl (o_fldp F73_0 rfl) ?_
    refine DRQ.v rfl rfl rfl (o_fldp F28_3 rfl) ?_
    refine DRQ.v rfl rfl rfl (o_ldpg G23 rfl rfl rfl) ?_
    refine DRQ.v rfl rfl rfl (o_move rfl) ?_
    refine DRQ.cs rfl rfl rfl rfl (o_sig 13 id (c58 s.apl s.aph (s.pounds + (sumOf Pig.pounds s.pigs (nth s.adL (i : Int)))) (by omega) (by omega) (by omega)) e58 rfl rfl rfl w58 trivial r58) ?_
    refine DRQ.v rfl rfl rfl (o_ldpa G73 rfl rfl rfl) ?_
    refine DRQ.v rfl rfl rfl (o_move rfl) ?_
    refine DRQ.cs rfl rfl rfl rfl (o_sigc 13 (ren [(0, 0), (1, 8), (2, 12)]) (c50 s (nth s.adL (i : Int)) Pig.ant hpg hx.2.2 (by omega) (fun p h => by have := Pig.bnds h; (show 0 ≤ p.ant ∧ p.ant ≤ 99); omega)) e50 rfl rfl ⟨.inl rfl, .inl rfl, .inr ⟨_, _, rfl, fun _ => rfl, (lxr rfl)⟩, trivial⟩ w50 ⟨(lx rfl), (lx rfl), (lxl rfl), trivial⟩ r50) ?_
    refine DRQ.v rfl rfl rfl (o_neg rfl (by first | omega | (simp; omega)) (by first | omega | (simp; omega))) ?_
    refine DRQ.cs rfl rfl rfl rfl (o_sig 13 id (c57 (justL s.apl (s.pounds + (sumOf Pig.pounds s.pigs (nth s.adL (i : Int))))) (justH s.aph (s.pounds + (sumOf Pig.pounds s.pigs (nth s.adL (i : Int))))) (-(sumOf Pig.ant s.pigs (nth s.adL (i : Int)))) (by omega) (by omega) (by omega)) e57 rfl rfl rfl w57 trivial r57) ?_
    refine DRQ.v rfl rfl rfl (o_build B80 rfl ⟨rfl, trivial⟩ rfl rfl) ?_
    refine DRQ.u1 13 rfl rfl rfl (OpG.newer0 (o_bsl (E := EOf) (l := [(s.offer (nth s.adL (i : Int)))]) R76 rfl rfl (.cons (⟨rfl, rfl, rfl, rfl, rfl, trivial⟩) rfl (eok_str ⟨rfl, rfl, rfl, rfl, rfl, trivial⟩) (.nil)) rfl rfl)) rfl ?_
    have hol := offTo_len s i
    refine DRQ.l2 14 7 rfl rfl rfl rfl (o_appo R76 EP.str_one rfl rfl rfl rfl (by first | omega | (simp; omega) | (simp at *; omega)) (by first | omega | (simp; omega) | (simp at *; omega))) ?_
    refine DRQ.s 2 rfl rfl rfl (o_sta S76 rfl rfl rfl (.inr ⟨_, _, _, _, rfl⟩) rfl) ?_
    refine DRQ.nil' ?_
    refine EX.blk ?_
    exact EX.next (ren [(7, 14)]) (LeR.of trivial ⟨(lx rfl), (lx rfl), (lx rfl), trivial⟩ ⟨rfl, rfl, rfl, rfl, rfl, trivial⟩ rfl rfl rfl rfl rfl)
  · exact fun _ _ h => h.elim
  · skip
    refine EX.blk (EX.then (WP.seq (WP.region ?_)))
    refine WPl.v rfl (o_ldp S76 rfl rfl rfl) ?_
    refine WPl.cL (X' := []) 8 rfl rfl rfl rfl rfl (o_sigr (E := EOf) (c61 (l := s.offTo s.adL.length) (by rw [offTo_len]; omega)) e61 rfl rfl rfl) ?_
    refine WPl.nil (EX.then (WP.seq (WP.region ?_)))
    refine WPl.v rfl (o_ldp S76 rfl rfl rfl) ?_
    refine WPl.v rfl (o_assign rfl) ?_
    refine WPl.nil (EX.then (WP.ret ?_))
    refine EX.imp (Imp.frz (E := EOf) (l := sortL offCf (s.offTo s.adL.length)) 7 rfl rfl) ?_
    exact EX.fin (ren [(0, 7)]) (.inl rfl) rfl (.tmp rfl .nil) rfl r30 ⟨(lx rfl), trivial⟩ (marks rfl) (by simp)
theorem w31 {l : List Offer} {h : Offer → Bool} : ∀ x ∈ ([.e (.a (.q 0)), .e (.a (.q 1))] : List SV), x.res (keys (α := Pred) [(0, PL EOf (l)), (1, HitQ h)]) := by simp [SV.res, El.res, At.res, keys]
theorem r31 {l : List Offer} {h : Offer → Bool} : SV.res (keys (α := Pred) []) (.i (idxF h l)) := by simp [SV.res, El.res, At.res, keys]
set_option maxHeartbeats 4000000 in
theorem c31 (l : List Offer) (h : Offer → Bool) (hl : l.length ≤ 10000) : Sig Tryz.prog 31 [.e (.a (.q 0)), .e (.a (.q 1))] [(0, PL EOf (l)), (1, HitQ h)] (.i (idxF h l)) [] := by
  refine Sig.intro Tryz.func31 rfl 2 [(0, .e (.a (.q 0))), (1, .e (.a (.q 1)))] rfl w31 rfl rfl fun I w => ?_
  refine WP.seq (WP.region ?_)
  refine WPl.v rfl (o_assign rfl) ?_
  refine WPl.nil (EX.then (WP.seq (WP.seq (WP.region ?_))))
  refine WPl.v rfl (o_move rfl) ?_
  refine WPl.v rfl (o_lenq L76 rfl (lx rfl)) ?_
  refine WPl.v rfl (o_move rfl) ?_
  refine WPl.nil (EX.then (WP.block ?_))
  refine WP.loop (Gh := Nat) (fun i => ⟨2, [(0, .e (.a (.q 0))), (1, .e (.a (.q 1))), (4, .i (0)), (7, .i ((l.length : Int))), (8, .i ((i : Int)))], [(0, PL EOf (l)), (1, HitQ h)], [], [], []⟩) (fun i => i ≤ l.length ∧ allI (missF h l) i = true) (fun i => l.length - i) (0) id ?_ (LeR.of ⟨rfl, rfl, rfl, rfl, rfl, trivial⟩ ⟨(lx rfl), (lx rfl), trivial⟩ trivial rfl rfl rfl rfl rfl) ?_
  · exact ⟨by omega, rfl⟩
  intro i hφ
  have hi : i ≤ l.length := hφ.1
  have hall := hφ.2
  refine WP.seq (WP.region ?_)
  refine WPl.v rfl (o_lss rfl rfl) ?_
  refine WPl.nil (EX.then (WP.seq ?_))
  refine WP.cond rfl (fun hc1 => ?_) (fun hc1 => ?_)
  · try simp only [cnd] at hc1
    refine WP.skip (EX.then (WP.seq (WP.block (WP.seq (WP.region ?_)))))
    refine WPl.v rfl (o_move rfl) ?_
    refine WPl.v rfl (o_assign rfl) ?_
    refine WPl.nil (EX.then (WP.seq (WP.region ?_)))
    refine WPl.v rfl (o_move rfl) ?_
    refine WPl.v rfl (o_move rfl) ?_
    refine WPl.v rfl (o_move rfl) ?_
    refine WPl.x 2 3 rfl rfl rfl (o_idx L76 rfl (lx rfl) rfl (by first | omega | (simp; omega)) (by first | omega | (simp; omega))) ?_
    refine WPl.v rfl (o_ldqg G80 rfl (lx rfl) (strG rfl) rfl rfl) ?_
    refine WPl.cs 3 rfl rfl rfl rfl (o_callfv (svs := [.e (.g [ai ((nth l (i : Int)).pence), ai ((nth l (i : Int)).tl), ai ((nth l (i : Int)).th), ai ((nth l (i : Int)).al), ai ((nth l (i : Int)).ah)])]) 3 id rfl (Has.of (lx rfl) fun _ _ h => h ((nth l (i : Int)))) rfl rfl SvsOK.rf (by simp [SV.res, El.res, At.res, keys]) trivial (by simp [SV.res, El.res, At.res, keys])) ?_
    refine WPl.nil (EX.then ?_)
    refine WP.cond rfl (fun hc2 => ?_) (fun hc2 => ?_)
    · try simp only [cnd] at hc2
      refine WP.seq (WP.region ?_)
      refine WPl.v rfl (o_move rfl) ?_
      refine WPl.v rfl (o_assign rfl) ?_
      refine WPl.nil (EX.then (WP.ret (EX.ret_blk (EX.ret_then (EX.ret_then (EX.ret_blk (EX.ret_then ?_)))))))
      rw [show idxF h l = (i : Int) from idxF_at (by omega) hall hc2]
      exact EX.fin id (.inl rfl) rfl (.tmp rfl .nil) rfl (by simp [SV.res, El.res, At.res, keys]) trivial (by simp) (by simp)
    · try simp only [cnd] at hc2
      refine WP.skip (EX.blk (EX.then (WP.region ?_)))
      refine WPl.v rfl (o_add rfl rfl (by first | omega | (simp; omega)) (by first | omega | (simp; omega))) ?_
      refine WPl.v rfl (o_move rfl) ?_
      refine WPl.nil ?_
      refine EX.again (i + 1) id (by exact ⟨by omega, by simp only [allI, hall, Bool.true_and, missF]; rw [hc2]; rfl⟩) (by omega) (LeR.of ⟨rfl, rfl, rfl, rfl, rfl, trivial⟩ ⟨(lx rfl), (lx rfl), trivial⟩ trivial rfl rfl rfl rfl rfl)
  · try simp only [cnd] at hc1
    refine WP.exit (EX.exit_then (EX.exit_then (EX.exit_blk (EX.then (WP.seq (WP.region ?_))))))
    refine WPl.v rfl (o_assign rfl) ?_
    refine WPl.nil (EX.then (WP.ret ?_))
    rw [show idxF h l = -1 from idxF_none (by rw [show l.length = i by omega]; exact hall)]
    exact EX.fin id (.inl rfl) rfl (.tmp rfl .nil) rfl (by simp [SV.res, El.res, At.res, keys]) trivial (by simp) (by simp)
theorem w32 {o : Offer} {t a : Int} : ∀ x ∈ ([.e (.g [ai (o.pence), ai (o.tl), ai (o.th), ai (o.al), ai (o.ah)]), .e (.a (.q 0)), .e (.a (.q 1))] : List SV), x.res (keys (α := Pred) [(0, PP EP.int (t)), (1, PP EP.int (a))]) := by simp [SV.res, El.res, At.res, keys]
theorem r32 {o : Offer} {t a : Int} : SV.res (keys (α := Pred) []) (.b (o.hit t a)) := by simp [SV.res, El.res, At.res, keys]
set_option maxHeartbeats 4000000 in
theorem c32 (o : Offer) (t a : Int)  : Sig Tryz.prog 32 [.e (.g [ai (o.pence), ai (o.tl), ai (o.th), ai (o.al), ai (o.ah)]), .e (.a (.q 0)), .e (.a (.q 1))] [(0, PP EP.int (t)), (1, PP EP.int (a))] (.b (o.hit t a)) [] := by
  refine Sig.intro Tryz.func32 rfl 2 [(0, .e (.g [ai (o.pence), ai (o.tl), ai (o.th), ai (o.al), ai (o.ah)])), (1, .e (.a (.q 0))), (2, .e (.a (.q 1)))] rfl w32 rfl rfl fun I w => ?_
  refine WP.seq (WP.region ?_)
  refine WPl.l 2 3 rfl rfl rfl (o_boxg rfl) ?_
  refine WPl.v rfl (o_assign rfl) ?_
  refine WPl.nil (EX.then (WP.seq (WP.region ?_)))
  refine WPl.v rfl (o_ldq S3 rfl (lx rfl) intc) ?_
  refine WPl.v rfl (o_fldp F80_1 rfl) ?_
  refine WPl.v rfl (o_fldp F23_0 rfl) ?_
  refine WPl.v rfl (o_ldp S3 rfl rfl rfl) ?_
  refine WPl.v rfl (o_fldp F80_1 rfl) ?_
  refine WPl.v rfl (o_fldp F23_1 rfl) ?_
  refine WPl.v rfl (o_ldp S3 rfl rfl rfl) ?_
  refine WPl.cs 3 rfl rfl rfl rfl (o_sig 3 id (c33 t o.tl o.th) e33 rfl rfl rfl w33 trivial r33) ?_
  refine WPl.v rfl (o_move rfl) ?_
  refine WPl.bit 3 4 (within t o.tl o.th) rfl rfl ?_
  refine WPl.gv 3 rfl rfl (.plain rfl Iff.rfl rfl) (fun hb => o_ldq S3 rfl (lx rfl) intc) ?_
  refine WPl.gv 3 rfl rfl (.plain rfl Iff.rfl rfl) (fun hb => o_fldp F80_2 rfl) ?_
  refine WPl.gv 3 rfl rfl (.plain rfl Iff.rfl rfl) (fun hb => o_fldp F23_0 rfl) ?_
  refine WPl.gv 3 rfl rfl (.plain rfl Iff.rfl rfl) (fun hb => o_ldp S3 rfl rfl rfl) ?_
  refine WPl.gv 3 rfl rfl (.plain rfl Iff.rfl rfl) (fun hb => o_fldp F80_2 rfl) ?_
  refine WPl.gv 3 rfl rfl (.plain rfl Iff.rfl rfl) (fun hb => o_fldp F23_1 rfl) ?_
  refine WPl.gv 3 rfl rfl (.plain rfl Iff.rfl rfl) (fun hb => o_ldp S3 rfl rfl rfl) ?_
  refine WPl.gc0 3 rfl rfl (.plain rfl Iff.rfl rfl) (fun hb => o_sig 4 id (c33 a o.al o.ah) e33 rfl rfl rfl w33 trivial r33) ?_
  refine WPl.v rfl (o_and rfl rfl rfl id) ?_
  refine WPl.v rfl (o_assign rfl) ?_
  refine WPl.nil (EX.then (WP.ret ?_))
  exact EX.fin id (.inl rfl) rfl (.tmp rfl .nil) rfl r32 trivial (by simp) (by simp)
theorem w11 {s : Shop} : ∀ x ∈ ([.e (.g [ai (s.pounds), ai (s.tl), ai (s.th), ai (s.al), ai (s.ah), ai (s.room), ai (s.tpl), ai (s.tph), ai (s.apl), ai (s.aph), .q 0])] : List SV), x.res (keys (α := Pred) [(0, PL EPig (s.pigs))]) := by simp [SV.res, El.res, At.res, keys]
theorem r11 {s : Shop} : SV.res (keys (α := Pred) []) (.t [.g [ai (s.mKnown.1), ai (s.mKnown.2)], .a (ai (s.kE))]) := by simp [SV.res, El.res, At.res, keys]
set_option maxHeartbeats 4000000 in
theorem c11 (s : Shop) (hl : s.pigs.length ≤ 40) : Sig Tryz.prog 11 [.e (.g [ai (s.pounds), ai (s.tl), ai (s.th), ai (s.al), ai (s.ah), ai (s.room), ai (s.tpl), ai (s.tph), ai (s.apl), ai (s.aph), .q 0])] [(0, PL EPig (s.pigs))] (.t [.g [ai (s.mKnown.1), ai (s.mKnown.2)], .a (ai (s.kE))]) [] := by
  refine Sig.intro Tryz.func11 rfl 1 [(0, .e (.g [ai (s.pounds), ai (s.tl), ai (s.th), ai (s.al), ai (s.ah), ai (s.room), ai (s.tpl), ai (s.tph), ai (s.apl), ai (s.aph), .q 0]))] rfl w11 rfl rfl fun I w => ?_
  refine WP.seq (WP.region ?_)
  refine WPl.l 1 2 rfl rfl rfl (o_boxg rfl) ?_
  refine WPl.l 2 3 rfl rfl rfl (o_alloc Z23) ?_
  refine WPl.v rfl (o_assign rfl) ?_
  refine WPl.nil (EX.then (WP.seq (WP.region ?_)))
  refine WPl.v rfl (o_ldpa G28 rfl rfl rfl) ?_
  refine WPl.cs 4 rfl rfl rfl rfl (o_sig 3 (ren [(0, 0)]) (c29N s hl) e29 rfl rfl rfl w29N ⟨(lx rfl), trivial⟩ r29N) ?_
  refine WPl.v rfl (o_move rfl) ?_
  refine WPl.v rfl (o_extract rfl rfl) ?_
  refine WPl.v rfl (o_extract rfl rfl) ?_
  refine WPl.l 4 5 rfl rfl rfl (o_alloc Z73) ?_
  refine WPl.s1 (o_stag G73 rfl rfl rfl ⟨rfl, rfl, rfl, rfl, rfl, rfl, rfl, rfl, rfl, rfl, (.inl ⟨_, (lx rfl), PL.one⟩), trivial⟩ rfl rfl) ?_
  refine WPl.v rfl (o_assign rfl) ?_
  refine WPl.nil (EX.then (WP.seq (WP.seq (WP.region ?_))))
  refine WPl.v rfl (o_move rfl) ?_
  refine WPl.v rfl (o_neq rfl rfl) ?_
  refine WPl.nil (EX.then ?_)
  refine WP.cond rfl (fun hc1 => ?_) (fun hc1 => ?_)
  · try simp only [cnd] at hc1
    have hs : s.chk = false := errM_ne.1 (by simpa using hc1)
    refine WP.seq (WP.region ?_)
    refine WPl.v rfl (o_build B23 rfl trivial rfl rfl) ?_
    refine WPl.v rfl (o_move rfl) ?_
    refine WPl.s1 (o_stag G23 rfl rfl rfl ⟨rfl, rfl, trivial⟩ rfl rfl) ?_
    refine WPl.v rfl (o_assign rfl) ?_
    refine WPl.nil (EX.then (WP.ret (EX.ret_then ?_)))
    have hE : s.kE = errM s.chk := by unfold Shop.kE; rw [hs]; rfl
    rw [hE, show s.mKnown = (0, 0) from by unfold Shop.mKnown; rw [hE, hs]; rfl]
    exact EX.fin id (.inl rfl) rfl (.cellg G23 rfl rfl rfl (.tmp rfl .nil)) rfl (by simp [SV.res, El.res, At.res, keys]) trivial (by simp) (by simp)
  · try simp only [cnd] at hc1
    have hs : s.chk = true := errM_eq.1 (by simpa using hc1)
    have hpg := Shop.pigsOK hs
    have htb := tl_bnd hs
    have hal := adL_len hpg
    have hnT : s.nT = (s.th - s.tl + 1).toNat := rfl
    have hnA : s.nA = (s.ah - s.al + 1).toNat := rfl
    refine WP.skip (EX.then (WP.seq (WP.region ?_)))
    refine WPl.v rfl (o_ldpa G73 rfl rfl rfl) ?_
    refine WPl.cs 6 rfl rfl rfl rfl (o_sig 5 (ren [(0, 3)]) (c30 s hs) e30 rfl rfl rfl w30 ⟨(lx rfl), trivial⟩ r30) ?_
    refine WPl.v rfl (o_assign rfl) ?_
    refine WPl.nil (EX.then (WP.seq (WP.region ?_)))
    refine WPl.v rfl (o_build B23 rfl ⟨rfl, trivial⟩ rfl rfl) ?_
    refine WPl.l 6 7 rfl rfl rfl (o_alloc Z23) ?_
    refine WPl.s1 (o_stag G23 rfl rfl rfl ⟨rfl, rfl, trivial⟩ rfl rfl) ?_
    refine WPl.nil (EX.then (WP.seq (WP.seq (WP.region ?_))))
    refine WPl.v rfl (o_fldp F73_0 rfl) ?_
    refine WPl.v rfl (o_fldp F28_0 rfl) ?_
    refine WPl.v rfl (o_fldp F25_1 rfl) ?_
    refine WPl.v rfl (o_fldp F23_0 rfl) ?_
    refine WPl.v rfl (o_ldp S3 rfl rfl rfl) ?_
    refine WPl.l 7 8 rfl rfl rfl (o_alloc Z3) ?_
    refine WPl.s1 (o_sta S3 rfl rfl rfl rfl rfl) ?_
    refine WPl.nil (EX.then (WP.block ?_))
    refine WP.loop (Gh := Nat) (fun i => ⟨8, [(2, .e (.a (.p 2 (0)))), (3, .i (0)), (4, .e (.a (.p 4 (0)))), (6, .e (.a (.q 5))), (7, .e (.a (.p 6 (0)))), (8, .e (.a (.p 7 (0))))], [(3, PL EPig (s.pigs)), (5, PL EOf (s.offS))], [(2, .blk [ai (0), ai (0)] 23), (4, .blk [ai (s.pounds), ai (s.tl), ai (s.th), ai (s.al), ai (s.ah), ai (s.room), ai (s.tpl), ai (s.tph), ai (s.apl), ai (s.aph), .q 3] 73), (6, .blk [ai ((s.knOut i).1), ai ((s.knOut i).2)] 23), (7, .blk [ai ((s.tl + (i : Int)))] 3)], [], []⟩) (fun i => i ≤ s.nT ∧ allI s.knRow i = true) (fun i => s.nT - i) (0) id ?_ (LeR.of ⟨rfl, rfl, rfl, rfl, rfl, rfl, trivial⟩ ⟨(lx rfl), (lx rfl), trivial⟩ ⟨rfl, rfl, rfl, (congrArg (fun z => some (Ent.blk z 3)) (List.cons_eq_cons.2 ⟨(congrArg (fun z => ai z) (show (s.tl) = ((fun i => (s.tl + (i : Int))) 0) from by simp)), (Eq.refl [])⟩)), trivial⟩ rfl rfl rfl rfl rfl) ?_
    · exact ⟨Nat.zero_le _, rfl⟩
    intro i hφ
    obtain ⟨hiN, hall⟩ : i ≤ s.nT ∧ allI s.knRow i = true := hφ
    have hkb := knOut_bnd hs hall
    refine WP.seq (WP.seq (WP.region ?_))
    refine WPl.v rfl (o_ldp S3 rfl rfl rfl) ?_
    refine WPl.v rfl (o_fldp F73_0 rfl) ?_
    refine WPl.v rfl (o_fldp F28_0 rfl) ?_
    refine WPl.v rfl (o_fldp F25_1 rfl) ?_
    refine WPl.v rfl (o_fldp F23_1 rfl) ?_
    refine WPl.v rfl (o_ldp S3 rfl rfl rfl) ?_
    refine WPl.v rfl (o_leq rfl rfl) ?_
    refine WPl.nil (EX.then ?_)
    refine WP.cond rfl (fun hc2 => ?_) (fun hc2 => ?_)
    · try simp only [cnd] at hc2
      refine WP.skip (EX.then (WP.seq (WP.block (WP.seq (WP.region ?_)))))
      refine WPl.v rfl (o_fldp F73_0 rfl) ?_
      refine WPl.v rfl (o_fldp F28_0 rfl) ?_
      refine WPl.v rfl (o_fldp F25_2 rfl) ?_
      refine WPl.v rfl (o_fldp F23_0 rfl) ?_
      refine WPl.imp (Imp.frzb (E := EP.int) (y := (s.tl + (i : Int))) 7 8 9 rfl rfl (bok_int) rfl rfl rfl) ?_
      refine WPl.v rfl (o_ldp S3 rfl rfl rfl) ?_
      refine WPl.l 9 10 rfl rfl rfl (o_alloc Z3) ?_
      refine WPl.s1 (o_sta S3 rfl rfl rfl rfl rfl) ?_
      refine WPl.nil (EX.then (WP.block ?_))
      refine WP.loop (Gh := Nat) (fun j => ⟨10, [(2, .e (.a (.p 2 (0)))), (3, .i (0)), (4, .e (.a (.p 4 (0)))), (6, .e (.a (.q 5))), (7, .e (.a (.p 6 (0)))), (8, .e (.a (.q 8))), (29, .i ((s.tl + (i : Int)))), (30, .e (.a (.p 4 (0)))), (31, .e (.a (.p 4 (0)))), (32, .e (.a (.p 4 (1)))), (33, .e (.a (.p 4 (2)))), (34, .i (s.th)), (35, .b (decide ((s.tl + (i : Int)) ≤ s.th))), (38, .e (.a (.p 4 (0)))), (39, .e (.a (.p 4 (0)))), (40, .e (.a (.p 4 (3)))), (41, .e (.a (.p 4 (3)))), (42, .i (s.al)), (9, .e (.a (.p 9 (0))))], [(3, PL EPig (s.pigs)), (5, PL EOf (s.offS)), (8, PP EP.int ((s.tl + (i : Int))))], [(2, .blk [ai (0), ai (0)] 23), (4, .blk [ai (s.pounds), ai (s.tl), ai (s.th), ai (s.al), ai (s.ah), ai (s.room), ai (s.tpl), ai (s.tph), ai (s.apl), ai (s.aph), .q 3] 73), (6, .blk [ai ((s.knIn i (s.knOut i) j).1), ai ((s.knIn i (s.knOut i) j).2)] 23), (9, .blk [ai ((s.al + (j : Int)))] 3)], [], []⟩) (fun j => j ≤ s.nA ∧ allI (s.hitAt i) j = true) (fun j => s.nA - j) (0) id ?_ (LeR.of ⟨rfl, rfl, rfl, rfl, rfl, rfl, rfl, rfl, rfl, rfl, rfl, rfl, rfl, rfl, rfl, rfl, rfl, rfl, rfl, trivial⟩ ⟨(lx rfl), (lx rfl), (lx rfl), trivial⟩ ⟨rfl, rfl, rfl, (congrArg (fun z => some (Ent.blk z 3)) (List.cons_eq_cons.2 ⟨(congrArg (fun z => ai z) (show (s.al) = ((fun j => (s.al + (j : Int))) 0) from by simp)), (Eq.refl [])⟩)), trivial⟩ rfl rfl rfl rfl rfl) ?_
      · exact ⟨Nat.zero_le _, rfl⟩
      intro j hφ
      obtain ⟨hjN, hrow⟩ : j ≤ s.nA ∧ allI (s.hitAt i) j = true := hφ
      have hkb2 := knIn_bnd hs hkb hrow
      refine WP.seq (WP.seq (WP.region ?_))
      refine WPl.v rfl (o_ldp S3 rfl rfl rfl) ?_
      refine WPl.v rfl (o_fldp F73_0 rfl) ?_
      refine WPl.v rfl (o_fldp F28_0 rfl) ?_
      refine WPl.v rfl (o_fldp F25_2 rfl) ?_
      refine WPl.v rfl (o_fldp F23_1 rfl) ?_
      refine WPl.v rfl (o_ldp S3 rfl rfl rfl) ?_
      refine WPl.v rfl (o_leq rfl rfl) ?_
      refine WPl.nil (EX.then ?_)
      refine WP.cond rfl (fun hc3 => ?_) (fun hc3 => ?_)
      · try simp only [cnd] at hc3
        refine WP.skip (EX.then (WP.seq (WP.block (WP.seq (WP.region ?_)))))
        refine WPl.v rfl (o_move rfl) ?_
        refine WPl.imp (Imp.frzb (E := EP.int) (y := (s.al + (j : Int))) 9 10 11 rfl rfl (bok_int) rfl rfl rfl) ?_
        refine WPl.x 11 12 rfl rfl rfl (o_mkfva (svs := fun (o : Offer) => [.e (.g [ai (o.pence), ai (o.tl), ai (o.th), ai (o.al), ai (o.ah)])]) (X0 := fun (o : Offer) => []) (sv := fun (o : Offer) => .b ((fun o => o.hit (s.tl + (i : Int)) (s.al + (j : Int))) o)) (X := fun (o : Offer) => []) (cs := [.e (.a (.q 0)), .e (.a (.q 1))]) (Xc := [(0, PP EP.int ((s.tl + (i : Int)))), (1, PP EP.int ((s.al + (j : Int))))]) 11 (ren [(0, 8), (1, 10)]) (fun (o : Offer) => (c32 o (s.tl + (i : Int)) (s.al + (j : Int)))) e32 (fun _ => rfl) rfl SvsOK.rf (fun _ => (by simp [SV.res, El.res, At.res, keys])) (by simp [SV.res, El.res, At.res, keys]) ⟨(lx rfl), (lx rfl), trivial⟩) ?_
        refine WPl.cs 12 rfl rfl rfl rfl (o_sig 12 (ren [(0, 5), (1, 11)]) (c31 s.offS (fun o => o.hit (s.tl + (i : Int)) (s.al + (j : Int))) (by rw [offS_len]; omega)) e31 rfl rfl rfl w31 ⟨(lx rfl), (lx rfl), trivial⟩ r31) ?_
        refine WPl.v rfl (o_assign rfl) ?_
        refine WPl.nil (EX.then (WP.seq (WP.seq (WP.region ?_))))
        have hix := idxF_bnd (fun o => o.hit (s.tl + (i : Int)) (s.al + (j : Int))) s.offS
        refine WPl.v rfl (o_move rfl) ?_
        refine WPl.v rfl (o_lss rfl rfl) ?_
        refine WPl.nil (EX.then ?_)
        refine WP.cond rfl (fun hc4 => ?_) (fun hc4 => ?_)
        · try simp only [cnd] at hc4
          refine WP.seq (WP.region ?_)
          refine WPl.v rfl (o_build B23 rfl trivial rfl rfl) ?_
          refine WPl.s1 (o_stag G23 rfl rfl rfl ⟨rfl, rfl, trivial⟩ rfl rfl) ?_
          refine WPl.v rfl (o_assign rfl) ?_
          refine WPl.nil (EX.then (WP.ret (EX.ret_then (EX.ret_blk (EX.ret_then (EX.ret_then (EX.ret_blk (EX.ret_blk (EX.ret_then (EX.ret_then (EX.ret_blk (EX.ret_then ?_))))))))))))
          have hno : allI s.knRow s.nT = false := not_allI (show i < s.nT by omega) (not_allI (show j < s.nA by omega) (decide_eq_false (show ¬ 0 ≤ s.idxAt i j by unfold Shop.idxAt; omega)))
          have hE : s.kE = 3 := by unfold Shop.kE; rw [hs, if_pos rfl]; exact if_neg (by rw [hno]; simp)
          rw [hE, show s.mKnown = (0, 0) from by unfold Shop.mKnown; rw [hE]; rfl]
          exact EX.fin id (.inl rfl) rfl (.cellg G23 rfl rfl rfl (.tmp rfl .nil)) rfl (by simp [SV.res, El.res, At.res, keys]) trivial (by simp) (by simp)
        · try simp only [cnd] at hc4
          refine WP.skip (EX.then (WP.seq (WP.region ?_)))
          refine WPl.v rfl (o_move rfl) ?_
          refine WPl.v rfl (o_move rfl) ?_
          have hhit : s.hitAt i j = true := decide_eq_true (show 0 ≤ s.idxAt i j by unfold Shop.idxAt; omega)
          have hpb := penAt_bnd hs hhit
          refine WPl.x 12 13 rfl rfl rfl (o_idx L76 rfl (lx rfl) rfl (by first | omega | (simp; omega)) (by first | omega | (simp; omega))) ?_
          refine WPl.v rfl (o_fldq F80_0 rfl (lx rfl)) ?_
          refine WPl.v rfl (o_lde S3 rfl (lx rfl) (strI rfl)) ?_
          refine WPl.v rfl (o_assign rfl) ?_
          refine WPl.nil (EX.then (WP.seq (WP.region ?_)))
          refine WPl.v rfl (o_fldp F23_0 rfl) ?_
          refine WPl.v rfl (o_ldp S3 rfl rfl rfl) ?_
          refine WPl.v rfl (o_lss rfl rfl) ?_
          refine WPl.nil (EX.then ?_)
          refine WP.cond rfl (fun hc5 => ?_) (fun hc5 => ?_)
          · try simp only [cnd] at hc5
            refine WP.region ?_
            refine WPl.v rfl (o_move rfl) ?_
            refine WPl.v rfl (o_move rfl) ?_
            refine WPl.v rfl (o_build B23 rfl ⟨rfl, rfl, trivial⟩ rfl rfl) ?_
            refine WPl.s1 (o_stag G23 rfl rfl rfl ⟨rfl, rfl, trivial⟩ rfl rfl) ?_
            refine WPl.nil (EX.blk (EX.then (WP.seq (WP.seq (WP.region ?_)))))
            refine WPl.v rfl (o_ldq S3 rfl (lx rfl) intc) ?_
            refine WPl.nil (EX.then (WP.region ?_))
            refine WPl.l 13 14 rfl rfl rfl (o_alloc Z3) ?_
            refine WPl.s1 (o_sta S3 rfl rfl rfl rfl rfl) ?_
            refine WPl.nil (EX.then (WP.region ?_))
            refine WPl.v rfl (o_ldp S3 rfl rfl rfl) ?_
            refine WPl.v rfl (o_add rfl rfl (by first | omega | (simp; omega)) (by first | omega | (simp; omega))) ?_
            refine WPl.s1 (o_sta S3 rfl rfl rfl rfl rfl) ?_
            refine WPl.nil ?_
            refine EX.again (j + 1) (ren [(9, 13)]) (by exact ⟨by omega, by simp only [allI, hrow, Bool.true_and]; exact hhit⟩) (by omega) (LeR.of ⟨rfl, rfl, rfl, rfl, rfl, rfl, rfl, rfl, rfl, rfl, rfl, rfl, rfl, rfl, rfl, rfl, rfl, rfl, rfl, trivial⟩ ⟨(lx rfl), (lx rfl), (lx rfl), trivial⟩ ⟨rfl, rfl, (congrArg (fun z => some (Ent.blk z 23)) (List.cons_eq_cons.2 ⟨(congrArg (fun z => ai z) (show ((nth s.offS (idxF (fun o => o.hit (s.tl + (i : Int)) (s.al + (j : Int))) s.offS)).pence) = ((fun j => (s.knIn i (s.knOut i) j).1) (j + 1)) from by simp only [Shop.knIn, stepK]; first | (rw [if_pos hc5]; done) | (rw [if_pos hc5]; rfl) | (rw [if_neg hc5]; done) | (rw [if_neg hc5]; rfl))), (List.cons_eq_cons.2 ⟨(congrArg (fun z => ai z) (show ((nth s.offS (idxF (fun o => o.hit (s.tl + (i : Int)) (s.al + (j : Int))) s.offS)).pence) = ((fun j => (s.knIn i (s.knOut i) j).2) (j + 1)) from by simp only [Shop.knIn, stepK]; first | (rw [if_pos hc5]; done) | (rw [if_pos hc5]; rfl) | (rw [if_neg hc5]; done) | (rw [if_neg hc5]; rfl))), (Eq.refl [])⟩)⟩)), (congrArg (fun z => some (Ent.blk z 3)) (List.cons_eq_cons.2 ⟨(congrArg (fun z => ai z) (show ((s.al + (j : Int)) + 1) = ((fun j => (s.al + (j : Int))) (j + 1)) from by show s.al + (j : Int) + 1 = s.al + ((j + 1 : Nat) : Int); omega)), (Eq.refl [])⟩)), trivial⟩ rfl rfl rfl rfl rfl)
          · try simp only [cnd] at hc5
            refine WP.region ?_
            refine WPl.v rfl (o_fldp F23_0 rfl) ?_
            refine WPl.v rfl (o_ldp S3 rfl rfl rfl) ?_
            refine WPl.v rfl (o_move rfl) ?_
            refine WPl.v rfl (o_min rfl rfl) ?_
            refine WPl.v rfl (o_fldp F23_1 rfl) ?_
            refine WPl.v rfl (o_ldp S3 rfl rfl rfl) ?_
            refine WPl.v rfl (o_move rfl) ?_
            refine WPl.v rfl (o_max rfl rfl) ?_
            refine WPl.v rfl (o_build B23 rfl ⟨rfl, rfl, trivial⟩ rfl rfl) ?_
            refine WPl.s1 (o_stag G23 rfl rfl rfl ⟨rfl, rfl, trivial⟩ rfl rfl) ?_
            refine WPl.nil (EX.blk (EX.then (WP.seq (WP.seq (WP.region ?_)))))
            refine WPl.v rfl (o_ldq S3 rfl (lx rfl) intc) ?_
            refine WPl.nil (EX.then (WP.region ?_))
            refine WPl.l 13 14 rfl rfl rfl (o_alloc Z3) ?_
            refine WPl.s1 (o_sta S3 rfl rfl rfl rfl rfl) ?_
            refine WPl.nil (EX.then (WP.region ?_))
            refine WPl.v rfl (o_ldp S3 rfl rfl rfl) ?_
            refine WPl.v rfl (o_add rfl rfl (by first | omega | (simp; omega)) (by first | omega | (simp; omega))) ?_
            refine WPl.s1 (o_sta S3 rfl rfl rfl rfl rfl) ?_
            refine WPl.nil ?_
            refine EX.again (j + 1) (ren [(9, 13)]) (by exact ⟨by omega, by simp only [allI, hrow, Bool.true_and]; exact hhit⟩) (by omega) (LeR.of ⟨rfl, rfl, rfl, rfl, rfl, rfl, rfl, rfl, rfl, rfl, rfl, rfl, rfl, rfl, rfl, rfl, rfl, rfl, rfl, trivial⟩ ⟨(lx rfl), (lx rfl), (lx rfl), trivial⟩ ⟨rfl, rfl, (congrArg (fun z => some (Ent.blk z 23)) (List.cons_eq_cons.2 ⟨(congrArg (fun z => ai z) (show (min ((s.knIn i (s.knOut i) j).1) ((nth s.offS (idxF (fun o => o.hit (s.tl + (i : Int)) (s.al + (j : Int))) s.offS)).pence)) = ((fun j => (s.knIn i (s.knOut i) j).1) (j + 1)) from by simp only [Shop.knIn, stepK]; first | (rw [if_pos hc5]; done) | (rw [if_pos hc5]; rfl) | (rw [if_neg hc5]; done) | (rw [if_neg hc5]; rfl))), (List.cons_eq_cons.2 ⟨(congrArg (fun z => ai z) (show (max ((s.knIn i (s.knOut i) j).2) ((nth s.offS (idxF (fun o => o.hit (s.tl + (i : Int)) (s.al + (j : Int))) s.offS)).pence)) = ((fun j => (s.knIn i (s.knOut i) j).2) (j + 1)) from by simp only [Shop.knIn, stepK]; first | (rw [if_pos hc5]; done) | (rw [if_pos hc5]; rfl) | (rw [if_neg hc5]; done) | (rw [if_neg hc5]; rfl))), (Eq.refl [])⟩)⟩)), (congrArg (fun z => some (Ent.blk z 3)) (List.cons_eq_cons.2 ⟨(congrArg (fun z => ai z) (show ((s.al + (j : Int)) + 1) = ((fun j => (s.al + (j : Int))) (j + 1)) from by show s.al + (j : Int) + 1 = s.al + ((j + 1 : Nat) : Int); omega)), (Eq.refl [])⟩)), trivial⟩ rfl rfl rfl rfl rfl)
      · try simp only [cnd] at hc3
        refine WP.exit (EX.exit_then (EX.exit_then (EX.exit_blk (EX.blk (EX.then (WP.seq (WP.seq (WP.region ?_))))))))
        refine WPl.v rfl (o_ldq S3 rfl (lx rfl) intc) ?_
        refine WPl.nil (EX.then (WP.region ?_))
        refine WPl.l 10 11 rfl rfl rfl (o_alloc Z3) ?_
        refine WPl.s1 (o_sta S3 rfl rfl rfl rfl rfl) ?_
        refine WPl.nil (EX.then (WP.region ?_))
        refine WPl.v rfl (o_ldp S3 rfl rfl rfl) ?_
        refine WPl.v rfl (o_add rfl rfl (by first | omega | (simp; omega)) (by first | omega | (simp; omega))) ?_
        refine WPl.s1 (o_sta S3 rfl rfl rfl rfl rfl) ?_
        refine WPl.nil ?_
        have hje : j = s.nA := by omega
        subst hje
        refine EX.again (i + 1) (ren [(7, 10)]) (by exact ⟨by omega, by simp only [allI, hall, Bool.true_and]; exact hrow⟩) (by omega) (LeR.of ⟨rfl, rfl, rfl, rfl, rfl, rfl, trivial⟩ ⟨(lx rfl), (lx rfl), trivial⟩ ⟨rfl, rfl, rfl, (congrArg (fun z => some (Ent.blk z 3)) (List.cons_eq_cons.2 ⟨(congrArg (fun z => ai z) (show ((s.tl + (i : Int)) + 1) = ((fun i => (s.tl + (i : Int))) (i + 1)) from by show s.tl + (i : Int) + 1 = s.tl + ((i + 1 : Nat) : Int); omega)), (Eq.refl [])⟩)), trivial⟩ rfl rfl rfl rfl rfl)
    · try simp only [cnd] at hc2
      refine WP.exit (EX.exit_then (EX.exit_then (EX.exit_blk (EX.then (WP.seq (WP.region ?_))))))
      refine WPl.v rfl (o_ldpa G23 rfl rfl rfl) ?_
      refine WPl.s1 (o_stag G23 rfl rfl rfl ⟨rfl, rfl, trivial⟩ rfl rfl) ?_
      refine WPl.v rfl (o_assign rfl) ?_
      refine WPl.nil (EX.then (WP.ret ?_))
      have hie : i = s.nT := by omega
      subst hie
      have hE : s.kE = 0 := by unfold Shop.kE; rw [hs, if_pos rfl]; exact if_pos hall
      rw [hE, show s.mKnown = s.knOut s.nT from by unfold Shop.mKnown; rw [hE]; rfl]
      exact EX.fin id (.inl rfl) rfl (.cellg G23 rfl rfl rfl (.tmp rfl .nil)) rfl (by simp [SV.res, El.res, At.res, keys]) trivial (by simp) (by simp)
end Go.Flong
namespace Go.Flong
open Go Go.Eng Go.Proofs
theorem e4 : Enters' Tryz.prog 4 := Tryz.call4
theorem e5 : Enters' Tryz.prog 5 := Tryz.call5
theorem e8 : Enters' Tryz.prog 8 := Tryz.call8
theorem e11 : Enters' Tryz.prog 11 := Tryz.call11
theorem w3 {f : Fnd} : ∀ x ∈ ([.e (.g [ai (f.shop.pounds), ai (f.shop.tl), ai (f.shop.th), ai (f.shop.al), ai (f.shop.ah), ai (f.shop.room), ai (f.shop.tpl), ai (f.shop.tph), ai (f.shop.apl), ai (f.shop.aph), .q 0, .q 1])] : List SV), x.res (keys (α := Pred) [(0, PL EPig (f.shop.pigs)), (1, PL ENight (f.nights))]) := by simp [SV.res, El.res, At.res, keys]
theorem r3  : SV.res (keys (α := Pred) []) (.b (true)) := by simp [SV.res, El.res, At.res, keys]
set_option maxHeartbeats 4000000 in
theorem c3 (f : Fnd) (hlaw : f.chk = true → 0 < f.nights.length → OneLaw f) : Sig Tryz.prog 3 [.e (.g [ai (f.shop.pounds), ai (f.shop.tl), ai (f.shop.th), ai (f.shop.al), ai (f.shop.ah), ai (f.shop.room), ai (f.shop.tpl), ai (f.shop.tph), ai (f.shop.apl), ai (f.shop.aph), .q 0, .q 1])] [(0, PL EPig (f.shop.pigs)), (1, PL ENight (f.nights))] (.b (true)) [] := by
  refine Sig.intro Tryz.func3 rfl 2 [(0, .e (.g [ai (f.shop.pounds), ai (f.shop.tl), ai (f.shop.th), ai (f.shop.al), ai (f.shop.ah), ai (f.shop.room), ai (f.shop.tpl), ai (f.shop.tph), ai (f.shop.apl), ai (f.shop.aph), .q 0, .q 1]))] rfl w3 rfl rfl fun I w => ?_
  refine WP.seq (WP.region ?_)
  refine WPl.l 2 3 rfl rfl rfl (o_boxg rfl) ?_
  refine WPl.v rfl (o_assign rfl) ?_
  refine WPl.nil (EX.then (WP.seq (WP.seq (WP.region ?_))))
  refine WPl.v rfl (o_ldpa G31 rfl rfl rfl) ?_
  refine WPl.cs 3 rfl rfl rfl rfl (o_sig 3 (ren [(0, 0), (1, 1)]) (c4 f) e4 rfl rfl rfl w4 ⟨(lx rfl), (lx rfl), trivial⟩ r4) ?_
  refine WPl.v rfl (o_not rfl) ?_
  refine WPl.v rfl (o_move rfl) ?_
  refine WPl.bit 3 4 (!(!f.rdy)) rfl rfl ?_
  refine WPl.gv 3 rfl rfl (.plain rfl (by first | (simp; done) | simp only [Bool.not_eq_true']) rfl) (fun hb => o_fldp F31_1 rfl) ?_
  refine WPl.gv 3 rfl rfl (.plain rfl (by first | (simp; done) | simp only [Bool.not_eq_true']) rfl) (fun hb => o_ldp S29 rfl rfl rfl) ?_
  refine WPl.gv 3 rfl rfl (.plain rfl (by first | (simp; done) | simp only [Bool.not_eq_true']) rfl) (fun hb => o_lenq L29 rfl (lx rfl)) ?_
  refine WPl.gv 3 rfl rfl (.plain rfl (by first | (simp; done) | simp only [Bool.not_eq_true']) rfl) (fun hb => o_eql rfl rfl) ?_
  refine WPl.v rfl (o_or rfl rfl rfl (by first | (simp; done) | exact fun h => by rw [h]; rfl | exact fun h => Bool.and_eq_true_iff.2 ⟨hb, by rw [h]; rfl⟩ | simp_all)) ?_
  refine WPl.nil (EX.then ?_)
  refine WP.cond rfl (fun hc1 => ?_) (fun hc1 => ?_)
  · try simp only [cnd] at hc1
    refine WP.seq (WP.region ?_)
    refine WPl.cs 4 rfl rfl rfl rfl (o_sig 4 id c5 e5 rfl rfl rfl w5 trivial r5) ?_
    refine WPl.v rfl (o_assign rfl) ?_
    refine WPl.nil (EX.then (WP.ret (EX.ret_then ?_)))
    exact EX.fin id (.inl rfl) rfl (.tmp rfl .nil) rfl r3 trivial (by simp) (by simp)
  · try simp only [cnd] at hc1
    obtain ⟨hr1, hr2⟩ := hc1
    have hrd := rdy_parts hr1
    have hf := hrd.2
    have hcb := Fnd.chkB hf
    have law := hlaw hf (by omega)
    refine WP.skip (EX.then (WP.seq (WP.region ?_)))
    refine WPl.v rfl (o_ldpa G31 rfl rfl rfl) ?_
    refine WPl.cs 6 rfl rfl rfl rfl (o_sig 4 (ren [(0, 0), (1, 1)]) (c6 f (by omega) (by omega)) e6 rfl rfl rfl w6 ⟨(lx rfl), (lx rfl), trivial⟩ r6) ?_
    refine WPl.l 6 7 rfl rfl rfl (o_alloc Z31) ?_
    refine WPl.s1 (o_stag G31 rfl rfl rfl ⟨rfl, rfl, rfl, rfl, rfl, rfl, rfl, rfl, rfl, rfl, (.inl ⟨_, (lx rfl), PL.one⟩), (.inl ⟨_, (lx rfl), PL.one⟩), trivial⟩ rfl rfl) ?_
    refine WPl.nil (EX.then (WP.seq (WP.region ?_)))
    refine WPl.v rfl (o_fldp F31_1 rfl) ?_
    refine WPl.v rfl (o_ldp S29 rfl rfl rfl) ?_
    refine WPl.x 7 8 rfl rfl rfl (o_slice (a := 0) (b := 1) L29 rfl (lx rfl) rfl rfl (by first | omega | (simp; omega)) (by first | omega | (simp; omega)) (by first | omega | (simp; omega))) ?_
    refine WPl.v rfl (o_fldp F31_1 rfl) ?_
    refine WPl.s1 (o_sta S29 rfl rfl rfl (.inl ⟨_, (lx rfl), PL.one⟩) rfl) ?_
    refine WPl.nil (EX.then (WP.seq (WP.region ?_)))
    refine WPl.v rfl (o_ldpa G31 rfl rfl rfl) ?_
    refine WPl.cs 8 rfl rfl rfl rfl (o_sig 8 (ren [(0, 4), (1, 7)]) (c7 f.first (by show f.shop.pigs.length ≤ 40; omega)) e7 rfl rfl rfl w7 ⟨(lx rfl), (lx rfl), trivial⟩ r7) ?_
    refine WPl.v rfl (o_move rfl) ?_
    refine WPl.v rfl (o_extract rfl rfl) ?_
    refine WPl.v rfl (o_extract rfl rfl) ?_
    refine WPl.v rfl (o_assign rfl) ?_
    refine WPl.v rfl (o_assign rfl) ?_
    refine WPl.nil (EX.then (WP.seq (WP.region ?_)))
    refine WPl.v rfl (o_fldp F31_0 rfl) ?_
    refine WPl.v rfl (o_ldpg G28 rfl rfl rfl) ?_
    refine WPl.cs 8 rfl rfl rfl rfl (o_sig 8 (ren [(0, 4)]) (c8 f.shop (by omega)) e8 rfl rfl rfl w8 ⟨(lx rfl), trivial⟩ r8) ?_
    refine WPl.v rfl (o_move rfl) ?_
    refine WPl.v rfl (o_extract rfl rfl) ?_
    refine WPl.v rfl (o_extract rfl rfl) ?_
    refine WPl.v rfl (o_assign rfl) ?_
    refine WPl.v rfl (o_assign rfl) ?_
    refine WPl.nil (EX.then (WP.seq (WP.region ?_)))
    refine WPl.v rfl (o_ldpa G31 rfl rfl rfl) ?_
    refine WPl.cs 10 rfl rfl rfl rfl (o_sig 8 (ren [(0, 4), (1, 7)]) (c10 f.first 0 law.o (by have h := law.l; omega)) e10 rfl rfl rfl w10 ⟨(lx rfl), (lx rfl), trivial⟩ r10) ?_
    refine WPl.cs 10 rfl rfl rfl rfl (o_sig 10 (ren [(0, 8), (1, 9)]) (c9 (f.first.tested 0) (by show f.shop.pigs.length ≤ 40; omega)) e9 rfl rfl rfl w9 ⟨(lx rfl), (lx rfl), trivial⟩ r9) ?_
    refine WPl.v rfl (o_move rfl) ?_
    refine WPl.v rfl (o_extract rfl rfl) ?_
    refine WPl.v rfl (o_extract rfl rfl) ?_
    refine WPl.v rfl (o_assign rfl) ?_
    refine WPl.v rfl (o_assign rfl) ?_
    refine WPl.nil (EX.then (WP.seq (WP.region ?_)))
    refine WPl.v rfl (o_fldp F31_0 rfl) ?_
    refine WPl.v rfl (o_ldpg G28 rfl rfl rfl) ?_
    refine WPl.cs 10 rfl rfl rfl rfl (o_sig 10 (ren [(0, 4)]) (c11 f.shop (by omega)) e11 rfl rfl rfl w11 ⟨(lx rfl), trivial⟩ r11) ?_
    refine WPl.v rfl (o_move rfl) ?_
    refine WPl.v rfl (o_extract rfl rfl) ?_
    refine WPl.v rfl (o_extract rfl rfl) ?_
    refine WPl.l 10 11 rfl rfl rfl (o_alloc Z23) ?_
    refine WPl.s1 (o_stag G23 rfl rfl rfl ⟨rfl, rfl, trivial⟩ rfl rfl) ?_
    refine WPl.v rfl (o_assign rfl) ?_
    refine WPl.nil (EX.then (WP.seq (WP.region ?_)))
    refine WPl.v rfl (o_move rfl) ?_
    refine WPl.v rfl (o_move rfl) ?_
    refine WPl.v rfl (o_eql rfl rfl) ?_
    refine WPl.imp (Imp.bitF 53 (b' := true) rfl (decide_eq_true law.c)) ?_
    refine WPl.v rfl (o_move rfl) ?_
    refine WPl.on rfl ⟨_, _, rfl, rfl, rfl⟩ (o_move rfl) ?_
    refine WPl.on rfl ⟨_, _, rfl, rfl, rfl⟩ (o_move rfl) ?_
    refine WPl.on rfl ⟨_, _, rfl, rfl, rfl⟩ (o_eql rfl rfl) ?_
    refine WPl.imp (Imp.bitF 57 (b' := true) rfl (decide_eq_true law.e)) ?_
    refine WPl.v rfl (o_pickT rfl rfl) ?_
    refine WPl.v rfl (o_move rfl) ?_
    refine WPl.on rfl ⟨_, _, rfl, rfl, rfl⟩ (o_move rfl) ?_
    refine WPl.on rfl ⟨_, _, rfl, rfl, rfl⟩ (o_move rfl) ?_
    refine WPl.on rfl ⟨_, _, rfl, rfl, rfl⟩ (o_eql rfl rfl) ?_
    refine WPl.imp (Imp.bitF 62 (b' := true) rfl (decide_eq_true law.k)) ?_
    refine WPl.v rfl (o_pickT rfl rfl) ?_
    refine WPl.v rfl (o_move rfl) ?_
    refine WPl.on rfl ⟨_, _, rfl, rfl, rfl⟩ (o_move rfl) ?_
    refine WPl.ung ⟨_, _, rfl, rfl, rfl⟩ ?_
    refine WPl.v rfl (o_fldp F23_1 rfl) ?_
    refine WPl.ung ⟨_, _, rfl, rfl, rfl⟩ ?_
    refine WPl.v rfl (o_ldp S3 rfl rfl rfl) ?_
    refine WPl.on rfl ⟨_, _, rfl, rfl, rfl⟩ (o_eql rfl rfl) ?_
    refine WPl.imp (Imp.bitF 68 (b' := true) rfl (decide_eq_true law.n)) ?_
    refine WPl.v rfl (o_pickT rfl rfl) ?_
    refine WPl.v rfl (o_move rfl) ?_
    refine WPl.ung ⟨_, _, rfl, rfl, rfl⟩ ?_
    refine WPl.cs 11 rfl rfl rfl rfl (o_sig 11 id c5 e5 rfl rfl rfl w5 trivial r5) ?_
    refine WPl.v rfl (o_pickT rfl rfl) ?_
    refine WPl.v rfl (o_assign rfl) ?_
    refine WPl.nil (EX.then (WP.ret ?_))
    exact EX.fin id (.inl rfl) rfl (.tmp rfl .nil) rfl r3 trivial (by simp) (by simp)
end Go.Flong
namespace Go.Proofs.YtkpejbekobkdfaaGreat
open Go Go.Eng Go.Flong Go.ChangeShapes Go.WideShapes
set_option maxRecDepth 100000 in
theorem weeksOne_lifted (os : Os) (started : os.Started) (H : Type) (enc : TypeId × Value → H) : ReturnsInHanded {} Tryz.checked os 3 .any (Rows.weeksOneSpec.pre6 enc Tryz.prog Tryz.f3 Rows.weeksOneRow.domain false) (Rows.weeksOneSpec.post enc Tryz.prog Tryz.f3 false true false false) := by
  refine lawLifted (C := Tryz.checked) own started (by kernel_rfl) Tryz.func3
    (ChangeSpec.witness6 (enc := enc) (C := Tryz.checked) false ⟨#[], #[.agg #[.int .i64 0, .int .i64 0, .int .i64 0, .int .i64 0, .int .i64 0, .int .i64 0, .int .i64 0, .int .i64 0, .int .i64 0, .int .i64 0, .slice none 0 0, .slice none 0 0]], []⟩ 8 (by kernel_rfl) (by kernel_rfl) (by kernel_rfl) (by kernel_rfl))
    laidOut rfl Tryz.underlying4 (by intro t ht; revert ht; revert t; exact of_decide_eq_true (by kernel_rfl)) rfl (fun ds hd => ?_) fun W base args ds p hval hA => ?_
  · match ds, hd with
    | [_], _ => rfl
  · obtain ⟨v0, vs, d0, ds0, p0, q0, ha, rfl, rfl, h0, hA⟩ := trodAll_cons hA
    obtain ⟨rfl, rfl, rfl⟩ := trodAll_nil hA
    obtain rfl : args = #[v0] := by cases args; simp_all
    obtain ⟨a0, pv0, nv0, rfl, hp0, hn0⟩ := arg31 (hval 0 31 v0 rfl rfl) h0
    exact Sig.kept (c3 a0 (fun h1 h2 => oneLaw h1 h2)) (ν := nuL [pv0, nv0]) ⟨hp0, hn0, trivial⟩
theorem weeksOne_holds : Rows.WeeksOneSaid :=
  OpenClaim.holds_of_wide 3 Tryz.f3 rfl rfl rfl rfl rfl rfl rfl ⟨rfl, rfl, rfl, rfl, rfl⟩ rfl rfl rfl rfl rfl (by kernel_rfl) Tryz.func3 (by kernel_rfl)
    (of_decide_eq_true (by kernel_rfl)) (by unfold Func.isWrapper; rw [if_neg (by decide +kernel)]; exact ⟨rfl, rfl⟩)
    (fun os started H enc _ => weeksOne_lifted os started H enc)
end Go.Proofs.YtkpejbekobkdfaaGreat
