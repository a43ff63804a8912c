/- MetalWider returns true for every input and leaves its arguments as they were. No condition. -/
import Derived.Test.YtgdaeapahfjobaaZB3
set_option linter.unusedSimpArgs false
set_option linter.unusedVariables false
namespace Go.Flong
open Go Go.Eng Go.Proofs
end Go.Flong
namespace Go.Proofs
open Go.Shelf Go.RowKit Go.Lib Go.Sort Go.Flong
def Try.sortOf_ren : Go.Shelf.Ren := ⟨fun | 6 => 107 | 15 => 114 | 14 => 113 | 28 => 124 | 29 => 125 | 20 => 116 | 21 => 117 | 22 => 118 | 23 => 119 | 24 => 120 | 25 => 121 | 26 => 122 | 27 => 123 | 46 => 126 | 47 => 127 | 48 => 128 | 49 => 129 | 50 => 130 | 57 => 131 | n => n, fun | 22 => 87 | 24 => 91 | 25 => 111 | 3 => 3 | 39 => 117 | 0 => 0 | 53 => 126 | 55 => 128 | 4 => 4 | 46 => 120 | 45 => 119 | 50 => 36 | 5 => 5 | 9 => 9 | 66 => 129 | 70 => 133 | 76 => 135 | 77 => 136 | n => n, fun | n => n⟩
theorem Try.sortOf : Go.Proofs.SlLaysF0.n6 Try.prog Try.sortOf_ren := {
  mixed := by kernel_rfl,
  f6 := ⟨Try.f107.name, by decide, Try.func107.trans (congrArg some (by kernel_rfl))⟩,
  f14 := ⟨Try.f113.name, by decide, Try.func113.trans (congrArg some (by kernel_rfl))⟩,
  f15 := Try.func114.trans (congrArg some (by kernel_rfl)),
  f20 := ⟨Try.f116.name, by decide, Try.func116.trans (congrArg some (by kernel_rfl))⟩,
  f21 := ⟨Try.f117.name, by decide, Try.func117.trans (congrArg some (by kernel_rfl))⟩,
  f22 := ⟨Try.f118.name, by decide, Try.func118.trans (congrArg some (by kernel_rfl))⟩,
  f23 := ⟨Try.f119.name, by decide, Try.func119.trans (congrArg some (by kernel_rfl))⟩,
  f24 := ⟨Try.f120.name, by decide, Try.func120.trans (congrArg some (by kernel_rfl))⟩,
  f25 := ⟨Try.f121.name, by decide, Try.func121.trans (congrArg some (by kernel_rfl))⟩,
  f26 := ⟨Try.f122.name, by decide, Try.func122.trans (congrArg some (by kernel_rfl))⟩,
  f27 := ⟨Try.f123.name, by decide, Try.func123.trans (congrArg some (by kernel_rfl))⟩,
  f28 := Try.func124.trans (congrArg some (by kernel_rfl)),
  f29 := Try.func125.trans (congrArg some (by kernel_rfl)),
  f46 := ⟨Try.f126.name, by decide, Try.func126.trans (congrArg some (by kernel_rfl))⟩,
  f47 := Try.func127.trans (congrArg some (by kernel_rfl)),
  f48 := Try.func128.trans (congrArg some (by kernel_rfl)),
  f49 := ⟨Try.f129.name, by decide, Try.func129.trans (congrArg some (by kernel_rfl))⟩,
  f50 := ⟨Try.f130.name, by decide, Try.func130.trans (congrArg some (by kernel_rfl))⟩,
  f57 := ⟨Try.f131.name, by decide, Try.func131.trans (congrArg some (by kernel_rfl))⟩,
  t0 := Try.underlying0,
  a0 := Try.isAgg0,
  z0 := Try.sizeOf0,
  v0 := Try.zeroValue0,
  t3 := Try.underlying3,
  a3 := Try.isAgg3,
  z3 := Try.sizeOf3,
  v3 := Try.zeroValue3,
  t4 := Try.underlying4,
  a4 := Try.isAgg4,
  z4 := Try.sizeOf4,
  v4 := Try.zeroValue4,
  t5 := Try.underlying5,
  a5 := Try.isAgg5,
  z5 := Try.sizeOf5,
  v5 := Try.zeroValue5,
  t9 := Try.underlying9,
  a9 := Try.isAgg9,
  z9 := Try.sizeOf9,
  v9 := Try.zeroValue9,
  t22 := Try.underlying87,
  a22 := Try.isAgg87,
  z22 := Try.sizeOf87,
  v22 := Try.zeroValue87,
  t25 := Try.underlying111,
  a25 := Try.isAgg111,
  z25 := Try.sizeOf111,
  v25 := Try.zeroValue111,
  t39 := Try.underlying117,
  a39 := Try.isAgg117,
  z39 := Try.sizeOf117,
  v39 := Try.zeroValue117,
  t45 := Try.underlying119,
  a45 := Try.isAgg119,
  z45 := Try.sizeOf119,
  v45 := Try.zeroValue119,
  t46 := Try.underlying120,
  a46 := Try.isAgg120,
  z46 := Try.sizeOf120,
  v46 := Try.zeroValue120,
  t50 := Try.underlying36,
  a50 := Try.isAgg36,
  z50 := Try.sizeOf36,
  v50 := Try.zeroValue36,
  t53 := Try.underlying126,
  a53 := Try.isAgg126,
  z53 := Try.sizeOf126,
  v53 := Try.zeroValue126,
  t55 := Try.underlying128,
  a55 := Try.isAgg128,
  z55 := Try.sizeOf128,
  v55 := Try.zeroValue128,
  t66 := Try.underlying129,
  a66 := Try.isAgg129,
  z66 := Try.sizeOf129,
  v66 := Try.zeroValue129,
  t70 := Try.underlying133,
  a70 := Try.isAgg133,
  z70 := Try.sizeOf133,
  v70 := Try.zeroValue133,
  t76 := Try.underlying135,
  a76 := Try.isAgg135,
  z76 := Try.sizeOf135,
  v76 := Try.zeroValue135,
  t77 := Try.underlying136,
  a77 := Try.isAgg136,
  z77 := Try.sizeOf136,
  v77 := Try.zeroValue136 }
def Try.cmpOf_ren : Go.Shelf.Ren := ⟨fun | 5 => 109 | 7 => 115 | n => n, fun | 22 => 3 | 3 => 3 | 4 => 4 | n => n, fun | n => n⟩
theorem Try.cmpOf : Go.Proofs.SlLaysC2.n5 Try.prog Try.cmpOf_ren := {
  mixed := by kernel_rfl,
  f5 := ⟨Try.f109.name, by decide, Try.func109.trans (congrArg some (by kernel_rfl))⟩,
  f7 := ⟨Try.f115.name, by decide, Try.func115.trans (congrArg some (by kernel_rfl))⟩,
  t3 := Try.underlying3,
  a3 := Try.isAgg3,
  z3 := Try.sizeOf3,
  v3 := Try.zeroValue3,
  t4 := Try.underlying4,
  a4 := Try.isAgg4,
  z4 := Try.sizeOf4,
  v4 := Try.zeroValue4,
  t22 := Try.underlying3,
  a22 := Try.isAgg3,
  z22 := Try.sizeOf3,
  v22 := Try.zeroValue3 }
set_option maxHeartbeats 1000000 in
theorem Try.closureOf (x y : Offer) (W : World) : Calls Try.prog 108 #[.agg #[.int .i64 x.pence, .int .i64 x.tl, .int .i64 x.th, .int .i64 x.al, .int .i64 x.ah], .agg #[.int .i64 y.pence, .int .i64 y.tl, .int .i64 y.th, .int .i64 y.al, .int .i64 y.ah]] W fun e w' => e = .returned (.int .i64 (Lib.compareInt x.pence y.pence)) ∧ ∃ q os', w' = grow (W.drewN q) os' := by
  have hcon := fun W' => AnyG.cmp_Compare_int Try.cmpOf x.pence y.pence W'
  change ∀ W', Calls Try.prog 109 _ _ _ at hcon
  generalize Lib.compareInt x.pence y.pence = r at hcon ⊢
  go_enter Try.func108, Try.ntmps108
  go_wp2_with (go_at_call 109; refine (hcon _).mono ?_; rintro e w' ⟨rfl, rfl⟩)
  go_ret
  exact ⟨rfl, 0, _, by rw [alloc_eq_grow, alloc_eq_grow, grow_grow]; rfl⟩
theorem Try.cmpLaysOf (blk off size : Nat) (w : World) : CmpLays Try.prog 108 #[] encOf 5 offCf blk off size w := fun _ _ _ _ x y => Try.closureOf x y _
end Go.Proofs
namespace Go.Flong
open Go Go.Eng Go.Proofs
theorem c107 {l : List Offer} (hl : l.length < 4611686018427387904) : SigR Try.prog 107 (.func (.func 108) #[] #[]) EOf 91 l (sortL offCf l) :=
  sortSig Try.sortOf Try.isAgg91 Try.sizeOf91 (fun _ => rfl) (fun x v hv => by simp [encOf] at hv; rcases hv with rfl | rfl | rfl | rfl | rfl <;> rfl) offSwo Try.call108 Try.cmpLaysOf encOf_iff rfl hl
end Go.Flong
namespace Go.Flong
open Go Go.Eng Go.Proofs
theorem Z87 : Zero Try.prog 87 [.v (.slice none 0 0)] := .mk Try.zeroValue87 rfl rfl
theorem S87 : TyS Try.prog 87 := ⟨Try.isAgg87, Try.sizeOf87⟩
theorem B91 : BldT Try.prog 91 [(0, 1), (1, 2), (3, 2)] [.int .i64 0, .int .i64 0, .int .i64 0, .int .i64 0, .int .i64 0] := BldT.mk (ns := [1, 2, 2]) Try.underlying91 ⟨Try.sizeOf3, Try.sizeOf23, Try.sizeOf23, trivial⟩ rfl Try.zeroValue91 rfl
theorem R87 : RowT Try.prog 87 91 5 40 [.int .i64 0, .int .i64 0, .int .i64 0, .int .i64 0, .int .i64 0] := ⟨Try.underlying87, ⟨Try.t91, _, by kernel_rfl, rfl, rfl, rfl, rfl⟩, rfl, by decide⟩
theorem e107 : Enters' Try.prog 107 := Try.call107
theorem L87 : IsSl Try.prog 87 91 5 := ⟨Try.underlying87, Try.sizeOf91⟩
theorem G91 : TyG Try.prog 91 5 := ⟨Try.isAgg91, Try.sizeOf91⟩
abbrev HitQ (h : Offer → Bool) : Pred := Pred.all fun (o : Offer) => FvP Try.prog [.e (.g [ai (o.pence), ai (o.tl), ai (o.th), ai (o.al), ai (o.ah)])] [] (.b (h o)) []
theorem F91_1 : Fld Try.prog 91 1 1 := .mk Try.underlying91 rfl rfl rfl Try.sizeOf23 rfl
theorem F91_2 : Fld Try.prog 91 2 3 := .mk Try.underlying91 rfl rfl rfl Try.sizeOf23 rfl
theorem e78 : Enters' Try.prog 78 := Try.call78
theorem Z3 : Zero Try.prog 3 [ai (0)] := .mk Try.zeroValue3 rfl rfl
theorem e80 : Enters' Try.prog 80 := Try.call80
theorem e79 : Enters' Try.prog 79 := Try.call79
theorem F91_0 : Fld Try.prog 91 0 0 := .mk Try.underlying91 rfl rfl rfl Try.sizeOf3 rfl
theorem e58 : Enters' Try.prog 58 := Try.call58
theorem e31 : Enters' Try.prog 31 := Try.call31
theorem w78 {s : Shop} : ∀ x ∈ ([.e (.g [ai (s.pounds), ai (s.tl), ai (s.th), ai (s.al), ai (s.ah), ai (s.room), ai (s.tpl), ai (s.tph), ai (s.apl), ai (s.aph), .q 0])] : List SV), x.res (keys (α := Pred) [(0, PL EPig (s.pigs))]) := by simp [SV.res, El.res, At.res, keys]
theorem r78 {s : Shop} : SV.res (keys (α := Pred) [(0, PL EOf (s.offS))]) (.e (.a (.q 0))) := by simp [SV.res, El.res, At.res, keys]
set_option maxHeartbeats 4000000 in
theorem c78 (s : Shop) (hs : s.chk = true) : Sig Try.prog 78 [.e (.g [ai (s.pounds), ai (s.tl), ai (s.th), ai (s.al), ai (s.ah), ai (s.room), ai (s.tpl), ai (s.tph), ai (s.apl), ai (s.aph), .q 0])] [(0, PL EPig (s.pigs))] (.e (.a (.q 0))) [(0, PL EOf (s.offS))] := by
  have hpg := Shop.pigsOK hs
  have hp4 := hpg.2
  have htb := tl_bnd hs
  have hal := adL_len hpg
  refine Sig.intro Try.func78 rfl 1 [(0, .e (.g [ai (s.pounds), ai (s.tl), ai (s.th), ai (s.al), ai (s.ah), ai (s.room), ai (s.tpl), ai (s.tph), ai (s.apl), ai (s.aph), .q 0]))] rfl w78 rfl rfl fun I w => ?_
  refine WP.seq ?_
  refine WP.region ?_
  refine WPl.l 1 2 rfl rfl rfl (o_boxg rfl) ?_
  refine WPl.v rfl (o_assign rfl) ?_
  refine WPl.nil ?_
  refine EX.then ?_
  refine WP.seq ?_
  refine WP.region ?_
  refine WPl.l 2 3 rfl rfl rfl (o_alloc Z87) ?_
  refine WPl.nil ?_
  refine EX.then ?_
  refine WP.seq ?_
  refine WP.seq ?_
  refine WP.region ?_
  refine WPl.v rfl (o_ldpa G78 rfl rfl rfl) ?_
  refine WPl.x 3 4 rfl rfl rfl (o_mkbit 3 (ren [(0, 0)]) (c95 s hs) e95 rfl SvsOK.rf w95 ⟨(lx rfl), trivial⟩) ?_
  refine WPl.nil ?_
  refine EX.then ?_
  refine WP.block ?_
  refine WP.leR (S' := ⟨4, [(1, .e (.a (.p 1 (0)))), (2, .e (.a (.v (.slice none 0 0)))), (3, .e (.a (.p 2 (0)))), (7, .e (.a (.q 3)))], [(0, PL EPig (s.pigs)), (3, ItQ Try.prog s.adItems)], [(1, .blk [ai (s.pounds), ai (s.tl), ai (s.th), ai (s.al), ai (s.ah), ai (s.room), ai (s.tpl), ai (s.tph), ai (s.apl), ai (s.aph), .q 0] 78), (2, .blk [.v (.slice none 0 0)] 87)], [], []⟩) id (LeR.of ⟨rfl, rfl, rfl, rfl, trivial⟩ ⟨(lx rfl), (lx rfl), trivial⟩ ⟨rfl, rfl, trivial⟩ rfl rfl rfl rfl rfl) ?_
  refine WP.imp (Imp.namo EOf 4 5 91 rfl rfl) ?_
  refine WP.imp (Imp.swL 2 0 4 rfl rfl (lx rfl)) ?_
  refine WP.rangeV 8 1 (s.adL.length) (fun i => ⟨[.e (.a (.q 0))], [(0, PL EP.int ((nth s.adL (i : Int))))], []⟩) (fun i => ⟨8, [(1, .e (.a (.p 1 (0)))), (2, .e (.a (.v (.slice none 0 0)))), (3, .e (.a (.p 2 (0)))), (7, .e (.a (.q 3)))], [(0, PL EPig (s.pigs)), (3, ItQ Try.prog s.adItems), (4, Pred.is (.slice none 0 0))], [(1, .blk [ai (s.pounds), ai (s.tl), ai (s.th), ai (s.al), ai (s.ah), ai (s.room), ai (s.tpl), ai (s.tph), ai (s.apl), ai (s.aph), .q 0] 78), (2, .blk [.q 7] 87), (5, .ob (.deferred (some []))), (7, .own 91 EOf.size (s.offTo i).length (RP EOf (s.offTo i)))], [5], []⟩) (fun _ _ => False) rfl  rfl (ItQ.hit (lx rfl)) (rfl) (fun _ => RSt.of rfl rfl rfl rfl rfl rfl) (fun _ _ h => h.elim) rfl rfl rfl (fun _ _ => ItemOK.of rfl) rfl rfl (ren [(7, 4)]) (LeR.of ⟨rfl, rfl, rfl, rfl, trivial⟩ ⟨(lx rfl), (lx rfl), (lx rfl), trivial⟩ ⟨rfl, rfl, rfl, rfl, trivial⟩ rfl rfl rfl rfl rfl) ?_ ?_ ?_
  · intro i hi w1 E1 I1 R1 pβ1 pν1 us1
    have hx := isAddB hpg (adL_at hi)
    have hq0 := sumOf_bnd (f := Pig.pounds) hpg (by omega) hx.2.2 (fun p h => by have := Pig.bnds h; omega)
    have hq1 := sumOf_bnd (f := Pig.tin) hpg (by omega) hx.2.2 (fun p h => by have := Pig.bnds h; omega)
    have hq2 := sumOf_bnd (f := Pig.ant) hpg (by omega) hx.2.2 (fun p h => by have := Pig.bnds h; omega)
    have hj0 := justB (a := s.tpl) (n := s.pounds + sumOf Pig.pounds s.pigs (nth s.adL (i : Int))) (by omega) (by omega)
    have hj1 := justB (a := s.tph) (n := s.pounds + sumOf Pig.pounds s.pigs (nth s.adL (i : Int))) (by omega) (by omega)
    have hj2 := justB (a := s.apl) (n := s.pounds + sumOf Pig.pounds s.pigs (nth s.adL (i : Int))) (by omega) (by omega)
    have hj3 := justB (a := s.aph) (n := s.pounds + sumOf Pig.pounds s.pigs (nth s.adL (i : Int))) (by omega) (by omega)
    refine WP.region ?_
    refine WPl.v rfl (o_assign rfl) ?_
    refine WPl.nil ?_
    refine EX.beg rfl ?_
    refine WP.block ?_
    refine WP.seq ?_
    refine WP.imp (Imp.nam 9 10 (.func (.func 103) #[] #[]) (R := (PigQ Pig.pounds).and (Pred.is (.func (.func 103) #[] #[]))) (fun I => FvP.namea (fun (x : Pig) => (c103 x)) e103 (fun _ => (by simp [SV.res, El.res, At.res, keys])) I) rfl rfl) ?_
    refine WP.draw (nf := 10) [⟨[13, 14, 15], [], [], [], []⟩, ⟨[13, 14, 15], [], [], [], [0]⟩, ⟨[13, 14, 15], [], [], [], [0, 1]⟩, ⟨[13, 14, 15], [], [], [], [0, 1, 2]⟩, ⟨[9, 10, 11, 12, 14], [], [], [], []⟩, ⟨[9, 10, 11, 12, 13], [], [], [], []⟩, ⟨[9, 10, 11, 12], [], [], [], [4, 5]⟩, ⟨[], [], [], [], [0, 1, 2, 3, 4, 5, 6]⟩, ⟨[], [], [], [], [0, 1, 2, 3, 4, 5, 6, 7]⟩] (by kernel_rfl) (by kernel_rfl) ?_
    refine DRQ.v rfl rfl rfl (o_fldp F78_0 rfl) ?_
    refine DRQ.v rfl rfl rfl (o_fldp F28_0 rfl) ?_
    refine DRQ.v rfl rfl rfl (o_fldp F25_0 rfl) ?_
    refine DRQ.v rfl rfl rfl (o_ldp S3 rfl rfl rfl) ?_
    refine DRQ.v rfl rfl rfl (o_ldpa G78 rfl rfl rfl) ?_
    refine DRQ.v rfl rfl rfl (o_move rfl) ?_
    refine DRQ.cs rfl rfl rfl rfl (o_sigc 10 (ren [(0, 0), (1, 8), (2, 9)]) (c101 s (nth s.adL (i : Int)) Pig.pounds hpg hx.2.2 (by omega) (fun p h => by have := Pig.bnds h; (show 0 ≤ p.pounds ∧ p.pounds ≤ 99); omega)) e101 rfl rfl ⟨.inl rfl, .inl rfl, .inr ⟨_, _, rfl, fun _ => rfl, (lxr rfl)⟩, trivial⟩ w101 ⟨(lx rfl), (lx rfl), (lxl rfl), trivial⟩ r101) ?_
    refine DRQ.v rfl rfl rfl (o_add rfl rfl (by first | omega | (simp; omega)) (by first | omega | (simp; omega))) ?_
    refine DRQ.v rfl rfl rfl (o_assign rfl) ?_
    refine DRQ.nil' ?_
    refine EX.then ?_
    refine WP.imp (Imp.nam 10 11 (.func (.func 106) #[] #[]) (R := (PigQ Pig.pence).and (Pred.is (.func (.func 106) #[] #[]))) (fun I => FvP.namea (fun (x : Pig) => (c106 x)) e106 (fun _ => (by simp [SV.res, El.res, At.res, keys])) I) rfl rfl) ?_
    refine WP.imp (Imp.nam 11 12 (.func (.func 102) #[] #[]) (R := (PigQ Pig.tin).and (Pred.is (.func (.func 102) #[] #[]))) (fun I => FvP.namea (fun (x : Pig) => (c102 x)) e102 (fun _ => (by simp [SV.res, El.res, At.res, keys])) I) rfl rfl) ?_
    refine WP.imp (Imp.nam 12 13 (.func (.func 105) #[] #[]) (R := (PigQ Pig.ant).and (Pred.is (.func (.func 105) #[] #[]))) (fun I => FvP.namea (fun (x : Pig) => (c105 x)) e105 (fun _ => (by simp [SV.res, El.res, At.res, keys])) I) rfl rfl) ?_
    refine WP.draw (nf := 15) [⟨[18, 19, 20, 21, 22, 23, 24, 25, 26, 27, 28, 29, 30, 31, 32, 33, 34, 35, 36, 37, 38, 39, 40, 41, 42], [13], [], [], []⟩, ⟨[17, 19, 21, 22, 23, 24, 26, 27, 31, 32, 33, 34, 36, 37], [], [], [], []⟩, ⟨[17, 18, 21, 22, 23, 24, 26, 27, 31, 32, 33, 34, 36, 37], [], [], [], []⟩, ⟨[17, 21, 22, 23, 24, 26, 27, 31, 32, 33, 34, 36, 37], [], [], [], [1, 2]⟩, ⟨[17, 18, 19, 20, 24, 26, 27, 31, 32, 33, 34, 36, 37], [], [], [], []⟩, ⟨[17, 18, 19, 20, 24, 26, 27, 31, 32, 33, 34, 36, 37], [], [], [], [4]⟩, ⟨[17, 18, 19, 20, 24, 26, 27, 31, 32, 33, 34, 36, 37], [], [], [], [4, 5]⟩, ⟨[17, 18, 19, 20, 21, 22, 23, 26, 27, 31, 32, 33, 34, 36, 37], [], [], [], []⟩, ⟨[17, 26, 27, 31, 32, 33, 34, 36, 37], [], [], [], [1, 2, 3, 4, 5, 6, 7]⟩, ⟨[17, 18, 19, 20, 21, 22, 23, 24, 25, 27, 31, 32, 33, 34, 36, 37], [], [], [], []⟩, ⟨[17, 18, 19, 20, 21, 22, 23, 24, 25, 26, 31, 32, 33, 34, 36, 37], [], [], [], []⟩, ⟨[17, 31, 32, 33, 34, 36, 37], [], [], [], [1, 2, 3, 4, 5, 6, 7, 8, 9, 10]⟩, ⟨[17, 31, 32, 33, 34, 36, 37], [], [], [], [1, 2, 3, 4, 5, 6, 7, 8, 9, 10, 11]⟩, ⟨[17, 31, 32, 33, 34, 36, 37], [], [], [], [1, 2, 3, 4, 5, 6, 7, 8, 9, 10, 11, 12]⟩, ⟨[17, 18, 19, 20, 21, 22, 23, 24, 25, 26, 27, 28, 29, 30, 34, 36, 37], [], [], [], []⟩, ⟨[17, 18, 19, 20, 21, 22, 23, 24, 25, 26, 27, 28, 29, 30, 34, 36, 37], [], [], [], [14]⟩, ⟨[17, 18, 19, 20, 21, 22, 23, 24, 25, 26, 27, 28, 29, 30, 34, 36, 37], [], [], [], [14, 15]⟩, ⟨[17, 18, 19, 20, 21, 22, 23, 24, 25, 26, 27, 28, 29, 30, 31, 32, 33, 36, 37], [], [], [], []⟩, ⟨[17, 36, 37], [], [], [], [1, 2, 3, 4, 5, 6, 7, 8, 9, 10, 11, 12, 13, 14, 15, 16, 17]⟩, ⟨[17, 18, 19, 20, 21, 22, 23, 24, 25, 26, 27, 28, 29, 30, 31, 32, 33, 34, 35, 37], [], [], [], []⟩, ⟨[17, 18, 19, 20, 21, 22, 23, 24, 25, 26, 27, 28, 29, 30, 31, 32, 33, 34, 35, 36], [], [], [], []⟩, ⟨[17], [], [], [], [1, 2, 3, 4, 5, 6, 7, 8, 9, 10, 11, 12, 13, 14, 15, 16, 17, 18, 19, 20]⟩, ⟨[17], [], [], [], [1, 2, 3, 4, 5, 6, 7, 8, 9, 10, 11, 12, 13, 14, 15, 16, 17, 18, 19, 20, 21]⟩, ⟨[17], [], [], [], [1, 2, 3, 4, 5, 6, 7, 8, 9, 10, 11, 12, 13, 14, 15, 16, 17, 18, 19, 20, 21, 22]⟩, ⟨[17], [], [], [], [1, 2, 3, 4, 5, 6, 7, 8, 9, 10, 11, 12, 13, 14, 15, 16, 17, 18, 19, 20, 21, 22, 23]⟩, ⟨[17], [], [13], [13, 13], [1, 2, 3, 4, 5, 6, 7, 8, 9, 10, 11, 12, 13, 14, 15, 16, 17, 18, 19, 20, 21, 22, 23, 24]⟩, ⟨[], [], [14], [14, 7], [0, 1, 2, 3, 4, 5, 6, 7, 8, 9, 10, 11, 12, 13, 14, 15, 16, 17, 18, 19, 20, 21, 22, 23, 24, 25]⟩, ⟨[], [], [], [2], [0, 1, 2, 3, 4, 5, 6, 7, 8, 9, 10, 11, 12, 13, 14, 15, 16, 17, 18, 19, 20, 21, 22, 23, 24, 25, 26]⟩] (by kernel_rfl) (by kernel_rfl) ?_
    refine DRQ.v rfl rfl rfl (o_ldp S87 rfl rfl rfl) ?_
    refine DRQ.v rfl rfl rfl (o_ldpa G78 rfl rfl rfl) ?_
    refine DRQ.v rfl rfl rfl (o_move rfl) ?_
    refine DRQ.cs rfl rfl rfl rfl (o_sigc 13 (ren [(0, 0), (1, 8), (2, 10)]) (c101 s (nth s.adL (i : Int)) Pig.pence hpg hx.2.2 (by omega) (fun p h => by have := Pig.bnds h; (show 0 ≤ p.pence ∧ p.pence ≤ 99); omega)) e101 rfl rfl ⟨.inl rfl, .inl rfl, .inr ⟨_, _, rfl, fun _ => rfl, (lxr rfl)⟩, trivial⟩ w101 ⟨(lx rfl), (lx rfl), (lxl rfl), trivial⟩ r101) ?_
    refine DRQ.v rfl rfl rfl (o_fldp F78_0 rfl) ?_
    refine DRQ.v rfl rfl rfl (o_fldp F28_2 rfl) ?_
    refine DRQ.v rfl rfl rfl (o_ldpg G23 rfl rfl rfl) ?_
    refine DRQ.v rfl rfl rfl (o_move rfl) ?_
    refine DRQ.cs rfl rfl rfl rfl (o_sig 13 id (c90 s.tpl s.tph (s.pounds + (sumOf Pig.pounds s.pigs (nth s.adL (i : Int)))) (by omega) (by omega) (by omega)) e90 rfl rfl rfl w90 trivial r90) ?_
    refine DRQ.v rfl rfl rfl (o_ldpa G78 rfl rfl rfl) ?_
    refine DRQ.v rfl rfl rfl (o_move rfl) ?_
    refine DRQ.cs rfl rfl rfl rfl (o_sigc 13 (ren [(0, 0), (1, 8), (2, 11)]) (c101 s (nth s.adL (i : Int)) Pig.tin hpg hx.2.2 (by omega) (fun p h => by have := Pig.bnds h; (show 0 ≤ p.tin ∧ p.tin ≤ 99); omega)) e101 rfl rfl ⟨.inl rfl, .inl rfl, .inr ⟨_, _, rfl, fun _ => rfl, (lxr rfl)⟩, trivial⟩ w101 ⟨(lx rfl), (lx rfl), (lxl rfl), trivial⟩ r101) ?_
    refine DRQ.v rfl rfl rfl (o_neg rfl (by first | omega | (simp; omega)) (by first | omega | (simp; omega))) ?_
    refine DRQ.cs rfl rfl rfl rfl (o_sig 13 id (c104 (justL s.tpl (s.pounds + (sumOf Pig.pounds s.pigs (nth s.adL (i : Int))))) (justH s.tph (s.pounds + (sumOf Pig.pounds s.pigs (nth s.adL (i : Int))))) (-(sumOf Pig.tin s.pigs (nth s.adL (i : Int)))) (by omega) (by omega) (by omega)) e104 rfl rfl rfl w104 trivial r104) ?_
    refine DRQ.v rfl rfl rfl (o_fldp F78_0 rfl) ?_
    refine DRQ.v rfl rfl rfl (o_fldp F28_3 rfl) ?_
    refine DRQ.v rfl rfl rfl (o_ldpg G23 rfl rfl rfl) ?_
    refine DRQ.v rfl rfl rfl (o_move rfl) ?_
    refine DRQ.cs rfl rfl rfl rfl (o_sig 13 id (c90 s.apl s.aph (s.pounds + (sumOf Pig.pounds s.pigs (nth s.adL (i : Int)))) (by omega) (by omega) (by omega)) e90 rfl rfl rfl w90 trivial r90) ?_
    refine DRQ.v rfl rfl rfl (o_ldpa G78 rfl rfl rfl) ?_
    refine DRQ.v rfl rfl rfl (o_move rfl) ?_
    refine DRQ.cs rfl rfl rfl rfl (o_sigc 13 (ren [(0, 0), (1, 8), (2, 12)]) (c101 s (nth s.adL (i : Int)) Pig.ant hpg hx.2.2 (by omega) (fun p h => by have := Pig.bnds h; (show 0 ≤ p.ant ∧ p.ant ≤ 99); omega)) e101 rfl rfl ⟨.inl rfl, .inl rfl, .inr ⟨_, _, rfl, fun _ => rfl, (lxr rfl)⟩, trivial⟩ w101 ⟨(lx rfl), (lx rfl), (lxl rfl), trivial⟩ r101) ?_
    refine DRQ.v rfl rfl rfl (o_neg rfl (by first | omega | (simp; omega)) (by first | omega | (simp; omega))) ?_
    refine DRQ.cs rfl rfl rfl rfl (o_sig 13 id (c104 (justL s.apl (s.pounds + (sumOf Pig.pounds s.pigs (nth s.adL (i : Int))))) (justH s.aph (s.pounds + (sumOf Pig.pounds s.pigs (nth s.adL (i : Int))))) (-(sumOf Pig.ant s.pigs (nth s.adL (i : Int)))) (by omega) (by omega) (by omega)) e104 rfl rfl rfl w104 trivial r104) ?_
    refine DRQ.v rfl rfl rfl (o_build B91 rfl ⟨rfl, trivial⟩ rfl rfl) ?_
    refine DRQ.u1 13 rfl rfl rfl (OpG.newer0 (o_bsl (E := EOf) (l := [(s.offer (nth s.adL (i : Int)))]) R87 rfl rfl (.cons (⟨rfl, rfl, rfl, rfl, rfl, trivial⟩) rfl (eok_str ⟨rfl, rfl, rfl, rfl, rfl, trivial⟩) (.nil)) rfl rfl)) rfl ?_
    have hol := offTo_len s i
    refine DRQ.l2 14 7 rfl rfl rfl rfl (o_appo R87 EP.str_one rfl rfl rfl rfl (by first | omega | (simp; omega) | (simp at *; omega)) (by first | omega | (simp; omega) | (simp at *; omega))) ?_
    refine DRQ.s 2 rfl rfl rfl (o_sta S87 rfl rfl rfl (.inr ⟨_, _, _, _, rfl⟩) rfl) ?_
    refine DRQ.nil' ?_
    refine EX.blk ?_
    exact EX.next (ren [(7, 14)]) (LeR.of trivial ⟨(lx rfl), (lx rfl), (lx rfl), trivial⟩ ⟨rfl, rfl, rfl, rfl, rfl, trivial⟩ rfl rfl rfl rfl rfl)
  · exact fun _ _ h => h.elim
  · skip
    refine EX.blk ?_
    refine EX.then ?_
    refine WP.seq ?_
    refine WP.region ?_
    refine WPl.v rfl (o_ldp S87 rfl rfl rfl) ?_
    refine WPl.cL (X' := []) 8 rfl rfl rfl rfl rfl (o_sigr (E := EOf) (c107 (l := s.offTo s.adL.length) (by rw [offTo_len]; omega)) e107 rfl rfl rfl) ?_
    refine WPl.nil ?_
    refine EX.then ?_
    refine WP.seq ?_
    refine WP.region ?_
    refine WPl.v rfl (o_ldp S87 rfl rfl rfl) ?_
    refine WPl.v rfl (o_assign rfl) ?_
    refine WPl.nil ?_
    refine EX.then ?_
    refine WP.ret ?_
    refine EX.imp (Imp.frz (E := EOf) (l := sortL offCf (s.offTo s.adL.length)) 7 rfl rfl) ?_
    exact EX.fin (ren [(0, 7)]) (.inl rfl) rfl (.tmp rfl .nil) rfl r78 ⟨(lx rfl), trivial⟩ (marks rfl) (by simp)
theorem w79 {l : List Offer} {h : Offer → Bool} : ∀ x ∈ ([.e (.a (.q 0)), .e (.a (.q 1))] : List SV), x.res (keys (α := Pred) [(0, PL EOf (l)), (1, HitQ h)]) := by simp [SV.res, El.res, At.res, keys]
theorem r79 {l : List Offer} {h : Offer → Bool} : SV.res (keys (α := Pred) []) (.i (idxF h l)) := by simp [SV.res, El.res, At.res, keys]
set_option maxHeartbeats 4000000 in
theorem c79 (l : List Offer) (h : Offer → Bool) (hl : l.length ≤ 10000) : Sig Try.prog 79 [.e (.a (.q 0)), .e (.a (.q 1))] [(0, PL EOf (l)), (1, HitQ h)] (.i (idxF h l)) [] := by
  refine Sig.intro Try.func79 rfl 2 [(0, .e (.a (.q 0))), (1, .e (.a (.q 1)))] rfl w79 rfl rfl fun I w => ?_
  refine WP.seq ?_
  refine WP.region ?_
  refine WPl.v rfl (o_assign rfl) ?_
  refine WPl.nil ?_
  refine EX.then ?_
  refine WP.seq ?_
  refine WP.seq ?_
  refine WP.region ?_
  refine WPl.v rfl (o_move rfl) ?_
  refine WPl.v rfl (o_lenq L87 rfl (lx rfl)) ?_
  refine WPl.v rfl (o_move rfl) ?_
  refine WPl.nil ?_
  refine EX.then ?_
  refine WP.block ?_
  refine WP.loop (Gh := Nat) (fun i => ⟨2, [(0, .e (.a (.q 0))), (1, .e (.a (.q 1))), (4, .i (0)), (7, .i ((l.length : Int))), (8, .i ((i : Int)))], [(0, PL EOf (l)), (1, HitQ h)], [], [], []⟩) (fun i => i ≤ l.length ∧ allI (missF h l) i = true) (fun i => l.length - i) (0) id ?_ (LeR.of ⟨rfl, rfl, rfl, rfl, rfl, trivial⟩ ⟨(lx rfl), (lx rfl), trivial⟩ trivial rfl rfl rfl rfl rfl) ?_
  · exact ⟨by omega, rfl⟩
  intro i hφ
  have hi : i ≤ l.length := hφ.1
  have hall := hφ.2
  refine WP.seq ?_
  refine WP.region ?_
  refine WPl.v rfl (o_lss rfl rfl) ?_
  refine WPl.nil ?_
  refine EX.then ?_
  refine WP.seq ?_
  refine WP.cond rfl (fun hc1 => ?_) (fun hc1 => ?_)
  · try simp only [decide_eq_true_eq, decide_eq_false_iff_not, Bool.and_eq_true, Bool.or_eq_true, Bool.and_eq_false_iff, Bool.or_eq_false_iff, Bool.not_eq_true', Bool.not_eq_false', ne_eq, Decidable.not_not] at hc1
    refine WP.skip ?_
    refine EX.then ?_
    refine WP.seq ?_
    refine WP.block ?_
    refine WP.seq ?_
    refine WP.region ?_
    refine WPl.v rfl (o_move rfl) ?_
    refine WPl.v rfl (o_assign rfl) ?_
    refine WPl.nil ?_
    refine EX.then ?_
    refine WP.seq ?_
    refine WP.region ?_
    refine WPl.v rfl (o_move rfl) ?_
    refine WPl.v rfl (o_move rfl) ?_
    refine WPl.v rfl (o_move rfl) ?_
    refine WPl.x 2 3 rfl rfl rfl (o_idx L87 rfl (lx rfl) rfl (by first | omega | (simp; omega)) (by first | omega | (simp; omega))) ?_
    refine WPl.v rfl (o_ldqg G91 rfl (lx rfl) (strG rfl) rfl rfl) ?_
    refine WPl.cs 3 rfl rfl rfl rfl (o_callfv (svs := [.e (.g [ai ((nth l (i : Int)).pence), ai ((nth l (i : Int)).tl), ai ((nth l (i : Int)).th), ai ((nth l (i : Int)).al), ai ((nth l (i : Int)).ah)])]) 3 id rfl (Has.of (lx rfl) fun _ _ h => h ((nth l (i : Int)))) rfl rfl SvsOK.rf (by simp [SV.res, El.res, At.res, keys]) trivial (by simp [SV.res, El.res, At.res, keys])) ?_
    refine WPl.nil ?_
    refine EX.then ?_
    refine WP.cond rfl (fun hc2 => ?_) (fun hc2 => ?_)
    · try simp only [decide_eq_true_eq, decide_eq_false_iff_not, Bool.and_eq_true, Bool.or_eq_true, Bool.and_eq_false_iff, Bool.or_eq_false_iff, Bool.not_eq_true', Bool.not_eq_false', ne_eq, Decidable.not_not] at hc2
      refine WP.seq ?_
      refine WP.region ?_
      refine WPl.v rfl (o_move rfl) ?_
      refine WPl.v rfl (o_assign rfl) ?_
      refine WPl.nil ?_
      refine EX.then ?_
      refine WP.ret ?_
      refine EX.ret_blk ?_
      refine EX.ret_then ?_
      refine EX.ret_then ?_
      refine EX.ret_blk ?_
      refine EX.ret_then ?_
      rw [show idxF h l = (i : Int) from idxF_at (by omega) hall hc2]
      exact EX.fin id (.inl rfl) rfl (.tmp rfl .nil) rfl (by simp [SV.res, El.res, At.res, keys]) trivial (by simp) (by simp)
    · try simp only [decide_eq_true_eq, decide_eq_false_iff_not, Bool.and_eq_true, Bool.or_eq_true, Bool.and_eq_false_iff, Bool.or_eq_false_iff, Bool.not_eq_true', Bool.not_eq_false', ne_eq, Decidable.not_not] at hc2
      refine WP.skip ?_
      refine EX.blk ?_
      refine EX.then ?_
      refine WP.region ?_
      refine WPl.v rfl (o_add rfl rfl (by first | omega | (simp; omega)) (by first | omega | (simp; omega))) ?_
      refine WPl.v rfl (o_move rfl) ?_
      refine WPl.nil ?_
      refine EX.again (i + 1) id (by exact ⟨by omega, by simp only [allI, hall, Bool.true_and, missF]; rw [hc2]; rfl⟩) (by omega) (LeR.of ⟨rfl, rfl, rfl, rfl, rfl, trivial⟩ ⟨(lx rfl), (lx rfl), trivial⟩ trivial rfl rfl rfl rfl rfl)
  · try simp only [decide_eq_true_eq, decide_eq_false_iff_not, Bool.and_eq_true, Bool.or_eq_true, Bool.and_eq_false_iff, Bool.or_eq_false_iff, Bool.not_eq_true', Bool.not_eq_false', ne_eq, Decidable.not_not] at hc1
    refine WP.exit ?_
    refine EX.exit_then ?_
    refine EX.exit_then ?_
    refine EX.exit_blk ?_
    refine EX.then ?_
    refine WP.seq ?_
    refine WP.region ?_
    refine WPl.v rfl (o_assign rfl) ?_
    refine WPl.nil ?_
    refine EX.then ?_
    refine WP.ret ?_
    rw [show idxF h l = -1 from idxF_none (by rw [show l.length = i by omega]; exact hall)]
    exact EX.fin id (.inl rfl) rfl (.tmp rfl .nil) rfl (by simp [SV.res, El.res, At.res, keys]) trivial (by simp) (by simp)
theorem w80 {o : Offer} {t a : Int} : ∀ x ∈ ([.e (.g [ai (o.pence), ai (o.tl), ai (o.th), ai (o.al), ai (o.ah)]), .e (.a (.q 0)), .e (.a (.q 1))] : List SV), x.res (keys (α := Pred) [(0, PP EP.int (t)), (1, PP EP.int (a))]) := by simp [SV.res, El.res, At.res, keys]
theorem r80 {o : Offer} {t a : Int} : SV.res (keys (α := Pred) []) (.b (o.hit t a)) := by simp [SV.res, El.res, At.res, keys]
set_option maxHeartbeats 4000000 in
theorem c80 (o : Offer) (t a : Int)  : Sig Try.prog 80 [.e (.g [ai (o.pence), ai (o.tl), ai (o.th), ai (o.al), ai (o.ah)]), .e (.a (.q 0)), .e (.a (.q 1))] [(0, PP EP.int (t)), (1, PP EP.int (a))] (.b (o.hit t a)) [] := by
  refine Sig.intro Try.func80 rfl 2 [(0, .e (.g [ai (o.pence), ai (o.tl), ai (o.th), ai (o.al), ai (o.ah)])), (1, .e (.a (.q 0))), (2, .e (.a (.q 1)))] rfl w80 rfl rfl fun I w => ?_
  refine WP.seq ?_
  refine WP.region ?_
  refine WPl.l 2 3 rfl rfl rfl (o_boxg rfl) ?_
  refine WPl.v rfl (o_assign rfl) ?_
  refine WPl.nil ?_
  refine EX.then ?_
  refine WP.seq ?_
  refine WP.region ?_
  refine WPl.v rfl (o_ldq S3 rfl (lx rfl) intc) ?_
  refine WPl.v rfl (o_fldp F91_1 rfl) ?_
  refine WPl.v rfl (o_fldp F23_0 rfl) ?_
  refine WPl.v rfl (o_ldp S3 rfl rfl rfl) ?_
  refine WPl.v rfl (o_fldp F91_1 rfl) ?_
  refine WPl.v rfl (o_fldp F23_1 rfl) ?_
  refine WPl.v rfl (o_ldp S3 rfl rfl rfl) ?_
  refine WPl.cs 3 rfl rfl rfl rfl (o_sig 3 id (c81 t o.tl o.th) e81 rfl rfl rfl w81 trivial r81) ?_
  refine WPl.v rfl (o_move rfl) ?_
  refine WPl.bit 3 4 (within t o.tl o.th) rfl rfl ?_
  refine WPl.gv 3 rfl rfl (.plain rfl Iff.rfl rfl) (fun hb => o_ldq S3 rfl (lx rfl) intc) ?_
  refine WPl.gv 3 rfl rfl (.plain rfl Iff.rfl rfl) (fun hb => o_fldp F91_2 rfl) ?_
  refine WPl.gv 3 rfl rfl (.plain rfl Iff.rfl rfl) (fun hb => o_fldp F23_0 rfl) ?_
  refine WPl.gv 3 rfl rfl (.plain rfl Iff.rfl rfl) (fun hb => o_ldp S3 rfl rfl rfl) ?_
  refine WPl.gv 3 rfl rfl (.plain rfl Iff.rfl rfl) (fun hb => o_fldp F91_2 rfl) ?_
  refine WPl.gv 3 rfl rfl (.plain rfl Iff.rfl rfl) (fun hb => o_fldp F23_1 rfl) ?_
  refine WPl.gv 3 rfl rfl (.plain rfl Iff.rfl rfl) (fun hb => o_ldp S3 rfl rfl rfl) ?_
  refine WPl.gc0 3 rfl rfl (.plain rfl Iff.rfl rfl) (fun hb => o_sig 4 id (c81 a o.al o.ah) e81 rfl rfl rfl w81 trivial r81) ?_
  refine WPl.v rfl (o_and rfl rfl rfl id) ?_
  refine WPl.v rfl (o_assign rfl) ?_
  refine WPl.nil ?_
  refine EX.then ?_
  refine WP.ret ?_
  exact EX.fin id (.inl rfl) rfl (.tmp rfl .nil) rfl r80 trivial (by simp) (by simp)
theorem w31 {s : Shop} : ∀ x ∈ ([.e (.g [ai (s.pounds), ai (s.tl), ai (s.th), ai (s.al), ai (s.ah), ai (s.room), ai (s.tpl), ai (s.tph), ai (s.apl), ai (s.aph), .q 0])] : List SV), x.res (keys (α := Pred) [(0, PL EPig (s.pigs))]) := by simp [SV.res, El.res, At.res, keys]
theorem r31 {s : Shop} : SV.res (keys (α := Pred) []) (.t [.g [ai (s.mKnown.1), ai (s.mKnown.2)], .a (ai (s.kE))]) := by simp [SV.res, El.res, At.res, keys]
set_option maxHeartbeats 4000000 in
theorem c31 (s : Shop) (hl : s.pigs.length ≤ 40) : Sig Try.prog 31 [.e (.g [ai (s.pounds), ai (s.tl), ai (s.th), ai (s.al), ai (s.ah), ai (s.room), ai (s.tpl), ai (s.tph), ai (s.apl), ai (s.aph), .q 0])] [(0, PL EPig (s.pigs))] (.t [.g [ai (s.mKnown.1), ai (s.mKnown.2)], .a (ai (s.kE))]) [] := by
  refine Sig.intro Try.func31 rfl 1 [(0, .e (.g [ai (s.pounds), ai (s.tl), ai (s.th), ai (s.al), ai (s.ah), ai (s.room), ai (s.tpl), ai (s.tph), ai (s.apl), ai (s.aph), .q 0]))] rfl w31 rfl rfl fun I w => ?_
  refine WP.seq ?_
  refine WP.region ?_
  refine WPl.l 1 2 rfl rfl rfl (o_boxg rfl) ?_
  refine WPl.l 2 3 rfl rfl rfl (o_alloc Z23) ?_
  refine WPl.v rfl (o_assign rfl) ?_
  refine WPl.nil ?_
  refine EX.then ?_
  refine WP.seq ?_
  refine WP.region ?_
  refine WPl.v rfl (o_ldpa G28 rfl rfl rfl) ?_
  refine WPl.cs 4 rfl rfl rfl rfl (o_sig 3 (ren [(0, 0)]) (c69N s hl) e69 rfl rfl rfl w69N ⟨(lx rfl), trivial⟩ r69N) ?_
  refine WPl.v rfl (o_move rfl) ?_
  refine WPl.v rfl (o_extract rfl rfl) ?_
  refine WPl.v rfl (o_extract rfl rfl) ?_
  refine WPl.l 4 5 rfl rfl rfl (o_alloc Z78) ?_
  refine WPl.s1 (o_stag G78 rfl rfl rfl ⟨rfl, rfl, rfl, rfl, rfl, rfl, rfl, rfl, rfl, rfl, (.inl ⟨_, (lx rfl), PL.one⟩), trivial⟩ rfl rfl) ?_
  refine WPl.v rfl (o_assign rfl) ?_
  refine WPl.nil ?_
  refine EX.then ?_
  refine WP.seq ?_
  refine WP.seq ?_
  refine WP.region ?_
  refine WPl.v rfl (o_move rfl) ?_
  refine WPl.v rfl (o_neq rfl rfl) ?_
  refine WPl.nil ?_
  refine EX.then ?_
  refine WP.cond rfl (fun hc1 => ?_) (fun hc1 => ?_)
  · try simp only [decide_eq_true_eq, decide_eq_false_iff_not, Bool.and_eq_true, Bool.or_eq_true, Bool.and_eq_false_iff, Bool.or_eq_false_iff, Bool.not_eq_true', Bool.not_eq_false', ne_eq, Decidable.not_not] at hc1
    have hs : s.chk = false := errM_ne.1 (by simpa using hc1)
    refine WP.seq ?_
    refine WP.region ?_
    refine WPl.v rfl (o_build B23 rfl trivial rfl rfl) ?_
    refine WPl.v rfl (o_move rfl) ?_
    refine WPl.s1 (o_stag G23 rfl rfl rfl ⟨rfl, rfl, trivial⟩ rfl rfl) ?_
    refine WPl.v rfl (o_assign rfl) ?_
    refine WPl.nil ?_
    refine EX.then ?_
    refine WP.ret ?_
    refine EX.ret_then ?_
    have hE : s.kE = errM s.chk := by unfold Shop.kE; rw [hs]; rfl
    rw [hE, show s.mKnown = (0, 0) from by unfold Shop.mKnown; rw [hE, hs]; rfl]
    exact EX.fin id (.inl rfl) rfl (.cellg G23 rfl rfl rfl (.tmp rfl .nil)) rfl (by simp [SV.res, El.res, At.res, keys]) trivial (by simp) (by simp)
  · try simp only [decide_eq_true_eq, decide_eq_false_iff_not, Bool.and_eq_true, Bool.or_eq_true, Bool.and_eq_false_iff, Bool.or_eq_false_iff, Bool.not_eq_true', Bool.not_eq_false', ne_eq, Decidable.not_not] at hc1
    have hs : s.chk = true := errM_eq.1 (by simpa using hc1)
    have hpg := Shop.pigsOK hs
    have htb := tl_bnd hs
    have hal := adL_len hpg
    have hnT : s.nT = (s.th - s.tl + 1).toNat := rfl
    have hnA : s.nA = (s.ah - s.al + 1).toNat := rfl
    refine WP.skip ?_
    refine EX.then ?_
    refine WP.seq ?_
    refine WP.region ?_
    refine WPl.v rfl (o_ldpa G78 rfl rfl rfl) ?_
    refine WPl.cs 6 rfl rfl rfl rfl (o_sig 5 (ren [(0, 3)]) (c78 s hs) e78 rfl rfl rfl w78 ⟨(lx rfl), trivial⟩ r78) ?_
    refine WPl.v rfl (o_assign rfl) ?_
    refine WPl.nil ?_
    refine EX.then ?_
    refine WP.seq ?_
    refine WP.region ?_
    refine WPl.v rfl (o_build B23 rfl ⟨rfl, trivial⟩ rfl rfl) ?_
    refine WPl.l 6 7 rfl rfl rfl (o_alloc Z23) ?_
    refine WPl.s1 (o_stag G23 rfl rfl rfl ⟨rfl, rfl, trivial⟩ rfl rfl) ?_
    refine WPl.nil ?_
    refine EX.then ?_
    refine WP.seq ?_
    refine WP.seq ?_
    refine WP.region ?_
    refine WPl.v rfl (o_fldp F78_0 rfl) ?_
    refine WPl.v rfl (o_fldp F28_0 rfl) ?_
    refine WPl.v rfl (o_fldp F25_1 rfl) ?_
    refine WPl.v rfl (o_fldp F23_0 rfl) ?_
    refine WPl.v rfl (o_ldp S3 rfl rfl rfl) ?_
    refine WPl.l 7 8 rfl rfl rfl (o_alloc Z3) ?_
    refine WPl.s1 (o_sta S3 rfl rfl rfl rfl rfl) ?_
    refine WPl.nil ?_
    refine EX.then ?_
    refine WP.block ?_
    refine WP.loop (Gh := Nat) (fun i => ⟨8, [(2, .e (.a (.p 2 (0)))), (3, .i (0)), (4, .e (.a (.p 4 (0)))), (6, .e (.a (.q 5))), (7, .e (.a (.p 6 (0)))), (8, .e (.a (.p 7 (0))))], [(3, PL EPig (s.pigs)), (5, PL EOf (s.offS))], [(2, .blk [ai (0), ai (0)] 23), (4, .blk [ai (s.pounds), ai (s.tl), ai (s.th), ai (s.al), ai (s.ah), ai (s.room), ai (s.tpl), ai (s.tph), ai (s.apl), ai (s.aph), .q 3] 78), (6, .blk [ai ((s.knOut i).1), ai ((s.knOut i).2)] 23), (7, .blk [ai ((s.tl + (i : Int)))] 3)], [], []⟩) (fun i => i ≤ s.nT ∧ allI s.knRow i = true) (fun i => s.nT - i) (0) id ?_ (LeR.of ⟨rfl, rfl, rfl, rfl, rfl, rfl, trivial⟩ ⟨(lx rfl), (lx rfl), trivial⟩ ⟨rfl, rfl, rfl, (congrArg (fun z => some (Ent.blk z 3)) (List.cons_eq_cons.2 ⟨(congrArg (fun z => ai z) (show (s.tl) = ((fun i => (s.tl + (i : Int))) 0) from by simp)), (Eq.refl [])⟩)), trivial⟩ rfl rfl rfl rfl rfl) ?_
    · exact ⟨Nat.zero_le _, rfl⟩
    intro i hφ
    obtain ⟨hiN, hall⟩ : i ≤ s.nT ∧ allI s.knRow i = true := hφ
    have hkb := knOut_bnd hs hall
    refine WP.seq ?_
    refine WP.seq ?_
    refine WP.region ?_
    refine WPl.v rfl (o_ldp S3 rfl rfl rfl) ?_
    refine WPl.v rfl (o_fldp F78_0 rfl) ?_
    refine WPl.v rfl (o_fldp F28_0 rfl) ?_
    refine WPl.v rfl (o_fldp F25_1 rfl) ?_
    refine WPl.v rfl (o_fldp F23_1 rfl) ?_
    refine WPl.v rfl (o_ldp S3 rfl rfl rfl) ?_
    refine WPl.v rfl (o_leq rfl rfl) ?_
    refine WPl.nil ?_
    refine EX.then ?_
    refine WP.cond rfl (fun hc2 => ?_) (fun hc2 => ?_)
    · try simp only [decide_eq_true_eq, decide_eq_false_iff_not, Bool.and_eq_true, Bool.or_eq_true, Bool.and_eq_false_iff, Bool.or_eq_false_iff, Bool.not_eq_true', Bool.not_eq_false', ne_eq, Decidable.not_not] at hc2
      refine WP.skip ?_
      refine EX.then ?_
      refine WP.seq ?_
      refine WP.block ?_
      refine WP.seq ?_
      refine WP.region ?_
      refine WPl.v rfl (o_fldp F78_0 rfl) ?_
      refine WPl.v rfl (o_fldp F28_0 rfl) ?_
      refine WPl.v rfl (o_fldp F25_2 rfl) ?_
      refine WPl.v rfl (o_fldp F23_0 rfl) ?_
      refine WPl.imp (Imp.frzb (E := EP.int) (y := (s.tl + (i : Int))) 7 8 9 rfl rfl (bok_int) rfl rfl rfl) ?_
      refine WPl.v rfl (o_ldp S3 rfl rfl rfl) ?_
      refine WPl.l 9 10 rfl rfl rfl (o_alloc Z3) ?_
      refine WPl.s1 (o_sta S3 rfl rfl rfl rfl rfl) ?_
      refine WPl.nil ?_
      refine EX.then ?_
      refine WP.block ?_
      refine WP.loop (Gh := Nat) (fun j => ⟨10, [(2, .e (.a (.p 2 (0)))), (3, .i (0)), (4, .e (.a (.p 4 (0)))), (6, .e (.a (.q 5))), (7, .e (.a (.p 6 (0)))), (8, .e (.a (.q 8))), (29, .i ((s.tl + (i : Int)))), (30, .e (.a (.p 4 (0)))), (31, .e (.a (.p 4 (0)))), (32, .e (.a (.p 4 (1)))), (33, .e (.a (.p 4 (2)))), (34, .i (s.th)), (35, .b (decide ((s.tl + (i : Int)) ≤ s.th))), (38, .e (.a (.p 4 (0)))), (39, .e (.a (.p 4 (0)))), (40, .e (.a (.p 4 (3)))), (41, .e (.a (.p 4 (3)))), (42, .i (s.al)), (9, .e (.a (.p 9 (0))))], [(3, PL EPig (s.pigs)), (5, PL EOf (s.offS)), (8, PP EP.int ((s.tl + (i : Int))))], [(2, .blk [ai (0), ai (0)] 23), (4, .blk [ai (s.pounds), ai (s.tl), ai (s.th), ai (s.al), ai (s.ah), ai (s.room), ai (s.tpl), ai (s.tph), ai (s.apl), ai (s.aph), .q 3] 78), (6, .blk [ai ((s.knIn i (s.knOut i) j).1), ai ((s.knIn i (s.knOut i) j).2)] 23), (9, .blk [ai ((s.al + (j : Int)))] 3)], [], []⟩) (fun j => j ≤ s.nA ∧ allI (s.hitAt i) j = true) (fun j => s.nA - j) (0) id ?_ (LeR.of ⟨rfl, rfl, rfl, rfl, rfl, rfl, rfl, rfl, rfl, rfl, rfl, rfl, rfl, rfl, rfl, rfl, rfl, rfl, rfl, trivial⟩ ⟨(lx rfl), (lx rfl), (lx rfl), trivial⟩ ⟨rfl, rfl, rfl, (congrArg (fun z => some (Ent.blk z 3)) (List.cons_eq_cons.2 ⟨(congrArg (fun z => ai z) (show (s.al) = ((fun j => (s.al + (j : Int))) 0) from by simp)), (Eq.refl [])⟩)), trivial⟩ rfl rfl rfl rfl rfl) ?_
      · exact ⟨Nat.zero_le _, rfl⟩
      intro j hφ
      obtain ⟨hjN, hrow⟩ : j ≤ s.nA ∧ allI (s.hitAt i) j = true := hφ
      have hkb2 := knIn_bnd hs hkb hrow
      refine WP.seq ?_
      refine WP.seq ?_
      refine WP.region ?_
      refine WPl.v rfl (o_ldp S3 rfl rfl rfl) ?_
      refine WPl.v rfl (o_fldp F78_0 rfl) ?_
      refine WPl.v rfl (o_fldp F28_0 rfl) ?_
      refine WPl.v rfl (o_fldp F25_2 rfl) ?_
      refine WPl.v rfl (o_fldp F23_1 rfl) ?_
      refine WPl.v rfl (o_ldp S3 rfl rfl rfl) ?_
      refine WPl.v rfl (o_leq rfl rfl) ?_
      refine WPl.nil ?_
      refine EX.then ?_
      refine WP.cond rfl (fun hc3 => ?_) (fun hc3 => ?_)
      · try simp only [decide_eq_true_eq, decide_eq_false_iff_not, Bool.and_eq_true, Bool.or_eq_true, Bool.and_eq_false_iff, Bool.or_eq_false_iff, Bool.not_eq_true', Bool.not_eq_false', ne_eq, Decidable.not_not] at hc3
        refine WP.skip ?_
        refine EX.then ?_
        refine WP.seq ?_
        refine WP.block ?_
        refine WP.seq ?_
        refine WP.region ?_
        refine WPl.v rfl (o_move rfl) ?_
        refine WPl.imp (Imp.frzb (E := EP.int) (y := (s.al + (j : Int))) 9 10 11 rfl rfl (bok_int) rfl rfl rfl) ?_
        refine WPl.x 11 12 rfl rfl rfl (o_mkfva (svs := fun (o : Offer) => [.e (.g [ai (o.pence), ai (o.tl), ai (o.th), ai (o.al), ai (o.ah)])]) (X0 := fun (o : Offer) => []) (sv := fun (o : Offer) => .b ((fun o => o.hit (s.tl + (i : Int)) (s.al + (j : Int))) o)) (X := fun (o : Offer) => []) (cs := [.e (.a (.q 0)), .e (.a (.q 1))]) (Xc := [(0, PP EP.int ((s.tl + (i : Int)))), (1, PP EP.int ((s.al + (j : Int))))]) 11 (ren [(0, 8), (1, 10)]) (fun (o : Offer) => (c80 o (s.tl + (i : Int)) (s.al + (j : Int)))) e80 (fun _ => rfl) rfl SvsOK.rf (fun _ => (by simp [SV.res, El.res, At.res, keys])) (by simp [SV.res, El.res, At.res, keys]) ⟨(lx rfl), (lx rfl), trivial⟩) ?_
        refine WPl.cs 12 rfl rfl rfl rfl (o_sig 12 (ren [(0, 5), (1, 11)]) (c79 s.offS (fun o => o.hit (s.tl + (i : Int)) (s.al + (j : Int))) (by rw [offS_len]; omega)) e79 rfl rfl rfl w79 ⟨(lx rfl), (lx rfl), trivial⟩ r79) ?_
        refine WPl.v rfl (o_assign rfl) ?_
        refine WPl.nil ?_
        refine EX.then ?_
        refine WP.seq ?_
        refine WP.seq ?_
        refine WP.region ?_
        have hix := idxF_bnd (fun o => o.hit (s.tl + (i : Int)) (s.al + (j : Int))) s.offS
        refine WPl.v rfl (o_move rfl) ?_
        refine WPl.v rfl (o_lss rfl rfl) ?_
        refine WPl.nil ?_
        refine EX.then ?_
        refine WP.cond rfl (fun hc4 => ?_) (fun hc4 => ?_)
        · try simp only [decide_eq_true_eq, decide_eq_false_iff_not, Bool.and_eq_true, Bool.or_eq_true, Bool.and_eq_false_iff, Bool.or_eq_false_iff, Bool.not_eq_true', Bool.not_eq_false', ne_eq, Decidable.not_not] at hc4
          refine WP.seq ?_
          refine WP.region ?_
          refine WPl.v rfl (o_build B23 rfl trivial rfl rfl) ?_
          refine WPl.s1 (o_stag G23 rfl rfl rfl ⟨rfl, rfl, trivial⟩ rfl rfl) ?_
          refine WPl.v rfl (o_assign rfl) ?_
          refine WPl.nil ?_
          refine EX.then ?_
          refine WP.ret ?_
          refine EX.ret_then ?_
          refine EX.ret_blk ?_
          refine EX.ret_then ?_
          refine EX.ret_then ?_
          refine EX.ret_blk ?_
          refine EX.ret_blk ?_
          refine EX.ret_then ?_
          refine EX.ret_then ?_
          refine EX.ret_blk ?_
          refine EX.ret_then ?_
          have hno : allI s.knRow s.nT = false := not_allI (show i < s.nT by omega) (not_allI (show j < s.nA by omega) (decide_eq_false (show ¬ 0 ≤ s.idxAt i j by unfold Shop.idxAt; omega)))
          have hE : s.kE = 3 := by unfold Shop.kE; rw [hs, if_pos rfl]; exact if_neg (by rw [hno]; simp)
          rw [hE, show s.mKnown = (0, 0) from by unfold Shop.mKnown; rw [hE]; rfl]
          exact EX.fin id (.inl rfl) rfl (.cellg G23 rfl rfl rfl (.tmp rfl .nil)) rfl (by simp [SV.res, El.res, At.res, keys]) trivial (by simp) (by simp)
        · try simp only [decide_eq_true_eq, decide_eq_false_iff_not, Bool.and_eq_true, Bool.or_eq_true, Bool.and_eq_false_iff, Bool.or_eq_false_iff, Bool.not_eq_true', Bool.not_eq_false', ne_eq, Decidable.not_not] at hc4
          refine WP.skip ?_
          refine EX.then ?_
          refine WP.seq ?_
          refine WP.region ?_
          refine WPl.v rfl (o_move rfl) ?_
          refine WPl.v rfl (o_move rfl) ?_
          have hhit : s.hitAt i j = true := decide_eq_true (show 0 ≤ s.idxAt i j by unfold Shop.idxAt; omega)
          have hpb := penAt_bnd hs hhit
          refine WPl.x 12 13 rfl rfl rfl (o_idx L87 rfl (lx rfl) rfl (by first | omega | (simp; omega)) (by first | omega | (simp; omega))) ?_
          refine WPl.v rfl (o_fldq F91_0 rfl (lx rfl)) ?_
          refine WPl.v rfl (o_lde S3 rfl (lx rfl) (strI rfl)) ?_
          refine WPl.v rfl (o_assign rfl) ?_
          refine WPl.nil ?_
          refine EX.then ?_
          refine WP.seq ?_
          refine WP.region ?_
          refine WPl.v rfl (o_fldp F23_0 rfl) ?_
          refine WPl.v rfl (o_ldp S3 rfl rfl rfl) ?_
          refine WPl.v rfl (o_lss rfl rfl) ?_
          refine WPl.nil ?_
          refine EX.then ?_
          refine WP.cond rfl (fun hc5 => ?_) (fun hc5 => ?_)
          · try simp only [decide_eq_true_eq, decide_eq_false_iff_not, Bool.and_eq_true, Bool.or_eq_true, Bool.and_eq_false_iff, Bool.or_eq_false_iff, Bool.not_eq_true', Bool.not_eq_false', ne_eq, Decidable.not_not] at hc5
            refine WP.region ?_
            refine WPl.v rfl (o_move rfl) ?_
            refine WPl.v rfl (o_move rfl) ?_
            refine WPl.v rfl (o_build B23 rfl ⟨rfl, rfl, trivial⟩ rfl rfl) ?_
            refine WPl.s1 (o_stag G23 rfl rfl rfl ⟨rfl, rfl, trivial⟩ rfl rfl) ?_
            refine WPl.nil ?_
            refine EX.blk ?_
            refine EX.then ?_
            refine WP.seq ?_
            refine WP.seq ?_
            refine WP.region ?_
            refine WPl.v rfl (o_ldq S3 rfl (lx rfl) intc) ?_
            refine WPl.nil ?_
            refine EX.then ?_
            refine WP.region ?_
            refine WPl.l 13 14 rfl rfl rfl (o_alloc Z3) ?_
            refine WPl.s1 (o_sta S3 rfl rfl rfl rfl rfl) ?_
            refine WPl.nil ?_
            refine EX.then ?_
            refine WP.region ?_
            refine WPl.v rfl (o_ldp S3 rfl rfl rfl) ?_
            refine WPl.v rfl (o_add rfl rfl (by first | omega | (simp; omega)) (by first | omega | (simp; omega))) ?_
            refine WPl.s1 (o_sta S3 rfl rfl rfl rfl rfl) ?_
            refine WPl.nil ?_
            refine EX.again (j + 1) (ren [(9, 13)]) (by exact ⟨by omega, by simp only [allI, hrow, Bool.true_and]; exact hhit⟩) (by omega) (LeR.of ⟨rfl, rfl, rfl, rfl, rfl, rfl, rfl, rfl, rfl, rfl, rfl, rfl, rfl, rfl, rfl, rfl, rfl, rfl, rfl, trivial⟩ ⟨(lx rfl), (lx rfl), (lx rfl), trivial⟩ ⟨rfl, rfl, (congrArg (fun z => some (Ent.blk z 23)) (List.cons_eq_cons.2 ⟨(congrArg (fun z => ai z) (show ((nth s.offS (idxF (fun o => o.hit (s.tl + (i : Int)) (s.al + (j : Int))) s.offS)).pence) = ((fun j => (s.knIn i (s.knOut i) j).1) (j + 1)) from by simp only [Shop.knIn, stepK]; first | (rw [if_pos hc5]; done) | (rw [if_pos hc5]; rfl) | (rw [if_neg hc5]; done) | (rw [if_neg hc5]; rfl))), (List.cons_eq_cons.2 ⟨(congrArg (fun z => ai z) (show ((nth s.offS (idxF (fun o => o.hit (s.tl + (i : Int)) (s.al + (j : Int))) s.offS)).pence) = ((fun j => (s.knIn i (s.knOut i) j).2) (j + 1)) from by simp only [Shop.knIn, stepK]; first | (rw [if_pos hc5]; done) | (rw [if_pos hc5]; rfl) | (rw [if_neg hc5]; done) | (rw [if_neg hc5]; rfl))), (Eq.refl [])⟩)⟩)), (congrArg (fun z => some (Ent.blk z 3)) (List.cons_eq_cons.2 ⟨(congrArg (fun z => ai z) (show ((s.al + (j : Int)) + 1) = ((fun j => (s.al + (j : Int))) (j + 1)) from by show s.al + (j : Int) + 1 = s.al + ((j + 1 : Nat) : Int); omega)), (Eq.refl [])⟩)), trivial⟩ rfl rfl rfl rfl rfl)
          · try simp only [decide_eq_true_eq, decide_eq_false_iff_not, Bool.and_eq_true, Bool.or_eq_true, Bool.and_eq_false_iff, Bool.or_eq_false_iff, Bool.not_eq_true', Bool.not_eq_false', ne_eq, Decidable.not_not] at hc5
            refine WP.region ?_
            refine WPl.v rfl (o_fldp F23_0 rfl) ?_
            refine WPl.v rfl (o_ldp S3 rfl rfl rfl) ?_
            refine WPl.v rfl (o_move rfl) ?_
            refine WPl.v rfl (o_min rfl rfl) ?_
            refine WPl.v rfl (o_fldp F23_1 rfl) ?_
            refine WPl.v rfl (o_ldp S3 rfl rfl rfl) ?_
            refine WPl.v rfl (o_move rfl) ?_
            refine WPl.v rfl (o_max rfl rfl) ?_
            refine WPl.v rfl (o_build B23 rfl ⟨rfl, rfl, trivial⟩ rfl rfl) ?_
            refine WPl.s1 (o_stag G23 rfl rfl rfl ⟨rfl, rfl, trivial⟩ rfl rfl) ?_
            refine WPl.nil ?_
            refine EX.blk ?_
            refine EX.then ?_
            refine WP.seq ?_
            refine WP.seq ?_
            refine WP.region ?_
            refine WPl.v rfl (o_ldq S3 rfl (lx rfl) intc) ?_
            refine WPl.nil ?_
            refine EX.then ?_
            refine WP.region ?_
            refine WPl.l 13 14 rfl rfl rfl (o_alloc Z3) ?_
            refine WPl.s1 (o_sta S3 rfl rfl rfl rfl rfl) ?_
            refine WPl.nil ?_
            refine EX.then ?_
            refine WP.region ?_
            refine WPl.v rfl (o_ldp S3 rfl rfl rfl) ?_
            refine WPl.v rfl (o_add rfl rfl (by first | omega | (simp; omega)) (by first | omega | (simp; omega))) ?_
            refine WPl.s1 (o_sta S3 rfl rfl rfl rfl rfl) ?_
            refine WPl.nil ?_
            refine EX.again (j + 1) (ren [(9, 13)]) (by exact ⟨by omega, by simp only [allI, hrow, Bool.true_and]; exact hhit⟩) (by omega) (LeR.of ⟨rfl, rfl, rfl, rfl, rfl, rfl, rfl, rfl, rfl, rfl, rfl, rfl, rfl, rfl, rfl, rfl, rfl, rfl, rfl, trivial⟩ ⟨(lx rfl), (lx rfl), (lx rfl), trivial⟩ ⟨rfl, rfl, (congrArg (fun z => some (Ent.blk z 23)) (List.cons_eq_cons.2 ⟨(congrArg (fun z => ai z) (show (min ((s.knIn i (s.knOut i) j).1) ((nth s.offS (idxF (fun o => o.hit (s.tl + (i : Int)) (s.al + (j : Int))) s.offS)).pence)) = ((fun j => (s.knIn i (s.knOut i) j).1) (j + 1)) from by simp only [Shop.knIn, stepK]; first | (rw [if_pos hc5]; done) | (rw [if_pos hc5]; rfl) | (rw [if_neg hc5]; done) | (rw [if_neg hc5]; rfl))), (List.cons_eq_cons.2 ⟨(congrArg (fun z => ai z) (show (max ((s.knIn i (s.knOut i) j).2) ((nth s.offS (idxF (fun o => o.hit (s.tl + (i : Int)) (s.al + (j : Int))) s.offS)).pence)) = ((fun j => (s.knIn i (s.knOut i) j).2) (j + 1)) from by simp only [Shop.knIn, stepK]; first | (rw [if_pos hc5]; done) | (rw [if_pos hc5]; rfl) | (rw [if_neg hc5]; done) | (rw [if_neg hc5]; rfl))), (Eq.refl [])⟩)⟩)), (congrArg (fun z => some (Ent.blk z 3)) (List.cons_eq_cons.2 ⟨(congrArg (fun z => ai z) (show ((s.al + (j : Int)) + 1) = ((fun j => (s.al + (j : Int))) (j + 1)) from by show s.al + (j : Int) + 1 = s.al + ((j + 1 : Nat) : Int); omega)), (Eq.refl [])⟩)), trivial⟩ rfl rfl rfl rfl rfl)
      · try simp only [decide_eq_true_eq, decide_eq_false_iff_not, Bool.and_eq_true, Bool.or_eq_true, Bool.and_eq_false_iff, Bool.or_eq_false_iff, Bool.not_eq_true', Bool.not_eq_false', ne_eq, Decidable.not_not] at hc3
        refine WP.exit ?_
        refine EX.exit_then ?_
        refine EX.exit_then ?_
        refine EX.exit_blk ?_
        refine EX.blk ?_
        refine EX.then ?_
        refine WP.seq ?_
        refine WP.seq ?_
        refine WP.region ?_
        refine WPl.v rfl (o_ldq S3 rfl (lx rfl) intc) ?_
        refine WPl.nil ?_
        refine EX.then ?_
        refine WP.region ?_
        refine WPl.l 10 11 rfl rfl rfl (o_alloc Z3) ?_
        refine WPl.s1 (o_sta S3 rfl rfl rfl rfl rfl) ?_
        refine WPl.nil ?_
        refine EX.then ?_
        refine WP.region ?_
        refine WPl.v rfl (o_ldp S3 rfl rfl rfl) ?_
        refine WPl.v rfl (o_add rfl rfl (by first | omega | (simp; omega)) (by first | omega | (simp; omega))) ?_
        refine WPl.s1 (o_sta S3 rfl rfl rfl rfl rfl) ?_
        refine WPl.nil ?_
        have hje : j = s.nA := by omega
        subst hje
        refine EX.again (i + 1) (ren [(7, 10)]) (by exact ⟨by omega, by simp only [allI, hall, Bool.true_and]; exact hrow⟩) (by omega) (LeR.of ⟨rfl, rfl, rfl, rfl, rfl, rfl, trivial⟩ ⟨(lx rfl), (lx rfl), trivial⟩ ⟨rfl, rfl, rfl, (congrArg (fun z => some (Ent.blk z 3)) (List.cons_eq_cons.2 ⟨(congrArg (fun z => ai z) (show ((s.tl + (i : Int)) + 1) = ((fun i => (s.tl + (i : Int))) (i + 1)) from by show s.tl + (i : Int) + 1 = s.tl + ((i + 1 : Nat) : Int); omega)), (Eq.refl [])⟩)), trivial⟩ rfl rfl rfl rfl rfl)
    · try simp only [decide_eq_true_eq, decide_eq_false_iff_not, Bool.and_eq_true, Bool.or_eq_true, Bool.and_eq_false_iff, Bool.or_eq_false_iff, Bool.not_eq_true', Bool.not_eq_false', ne_eq, Decidable.not_not] at hc2
      refine WP.exit ?_
      refine EX.exit_then ?_
      refine EX.exit_then ?_
      refine EX.exit_blk ?_
      refine EX.then ?_
      refine WP.seq ?_
      refine WP.region ?_
      refine WPl.v rfl (o_ldpa G23 rfl rfl rfl) ?_
      refine WPl.s1 (o_stag G23 rfl rfl rfl ⟨rfl, rfl, trivial⟩ rfl rfl) ?_
      refine WPl.v rfl (o_assign rfl) ?_
      refine WPl.nil ?_
      refine EX.then ?_
      refine WP.ret ?_
      have hie : i = s.nT := by omega
      subst hie
      have hE : s.kE = 0 := by unfold Shop.kE; rw [hs, if_pos rfl]; exact if_pos hall
      rw [hE, show s.mKnown = s.knOut s.nT from by unfold Shop.mKnown; rw [hE]; rfl]
      exact EX.fin id (.inl rfl) rfl (.cellg G23 rfl rfl rfl (.tmp rfl .nil)) rfl (by simp [SV.res, El.res, At.res, keys]) trivial (by simp) (by simp)
theorem w32 {s : Shop} : ∀ x ∈ ([.e (.g [ai (s.pounds), ai (s.tl), ai (s.th), ai (s.al), ai (s.ah), ai (s.room), ai (s.tpl), ai (s.tph), ai (s.apl), ai (s.aph), .q 0])] : List SV), x.res (keys (α := Pred) [(0, PL EPig (s.pigs))]) := by simp [SV.res, El.res, At.res, keys]
theorem r32 {s : Shop} : SV.res (keys (α := Pred) []) (.t [.a (ai (s.mWorth)), .a (ai (s.wE))]) := by simp [SV.res, El.res, At.res, keys]
set_option maxHeartbeats 4000000 in
theorem c32 (s : Shop) (hl : s.pigs.length ≤ 40) : Sig Try.prog 32 [.e (.g [ai (s.pounds), ai (s.tl), ai (s.th), ai (s.al), ai (s.ah), ai (s.room), ai (s.tpl), ai (s.tph), ai (s.apl), ai (s.aph), .q 0])] [(0, PL EPig (s.pigs))] (.t [.a (ai (s.mWorth)), .a (ai (s.wE))]) [] := by
  have hcb := mCheap_bnd s
  have hkb := mKnown_bnd s
  refine Sig.intro Try.func32 rfl 1 [(0, .e (.g [ai (s.pounds), ai (s.tl), ai (s.th), ai (s.al), ai (s.ah), ai (s.room), ai (s.tpl), ai (s.tph), ai (s.apl), ai (s.aph), .q 0]))] rfl w32 rfl rfl fun I w => ?_
  refine WP.seq ?_
  refine WP.region ?_
  refine WPl.l 1 2 rfl rfl rfl (o_boxg rfl) ?_
  refine WPl.v rfl (o_assign rfl) ?_
  refine WPl.v rfl (o_assign rfl) ?_
  refine WPl.nil ?_
  refine EX.then ?_
  refine WP.seq ?_
  refine WP.region ?_
  refine WPl.v rfl (o_ldpa G28 rfl rfl rfl) ?_
  refine WPl.cs 2 rfl rfl rfl rfl (o_sig 2 (ren [(0, 0)]) (c58 s (by omega)) e58 rfl rfl rfl w58 ⟨(lx rfl), trivial⟩ r58) ?_
  refine WPl.v rfl (o_move rfl) ?_
  refine WPl.v rfl (o_extract rfl rfl) ?_
  refine WPl.v rfl (o_extract rfl rfl) ?_
  refine WPl.v rfl (o_assign rfl) ?_
  refine WPl.v rfl (o_assign rfl) ?_
  refine WPl.nil ?_
  refine EX.then ?_
  refine WP.seq ?_
  refine WP.seq ?_
  refine WP.region ?_
  refine WPl.v rfl (o_move rfl) ?_
  refine WPl.v rfl (o_neq rfl rfl) ?_
  refine WPl.nil ?_
  refine EX.then ?_
  refine WP.cond rfl (fun hc1 => ?_) (fun hc1 => ?_)
  · try simp only [decide_eq_true_eq, decide_eq_false_iff_not, Bool.and_eq_true, Bool.or_eq_true, Bool.and_eq_false_iff, Bool.or_eq_false_iff, Bool.not_eq_true', Bool.not_eq_false', ne_eq, Decidable.not_not] at hc1
    refine WP.seq ?_
    refine WP.region ?_
    refine WPl.v rfl (o_move rfl) ?_
    refine WPl.v rfl (o_assign rfl) ?_
    refine WPl.v rfl (o_assign rfl) ?_
    refine WPl.nil ?_
    refine EX.then ?_
    refine WP.ret ?_
    refine EX.ret_then ?_
    have hW : s.wE = s.mE (priceG s) := if_neg (by simpa using hc1)
    rw [hW, show s.mWorth = 0 from by unfold Shop.mWorth; rw [hW]; exact if_neg (by simpa using hc1)]
    exact EX.fin id (.inl rfl) rfl (.tmp rfl (.tmp rfl .nil)) rfl (by simp [SV.res, El.res, At.res, keys]) trivial (by simp) (by simp)
  · try simp only [decide_eq_true_eq, decide_eq_false_iff_not, Bool.and_eq_true, Bool.or_eq_true, Bool.and_eq_false_iff, Bool.or_eq_false_iff, Bool.not_eq_true', Bool.not_eq_false', ne_eq, Decidable.not_not] at hc1
    refine WP.skip ?_
    refine EX.then ?_
    refine WP.seq ?_
    refine WP.region ?_
    refine WPl.v rfl (o_ldpa G28 rfl rfl rfl) ?_
    refine WPl.cs 2 rfl rfl rfl rfl (o_sig 2 (ren [(0, 0)]) (c31 s (by omega)) e31 rfl rfl rfl w31 ⟨(lx rfl), trivial⟩ r31) ?_
    refine WPl.v rfl (o_move rfl) ?_
    refine WPl.v rfl (o_extract rfl rfl) ?_
    refine WPl.v rfl (o_extract rfl rfl) ?_
    refine WPl.l 2 3 rfl rfl rfl (o_alloc Z23) ?_
    refine WPl.s1 (o_stag G23 rfl rfl rfl ⟨rfl, rfl, trivial⟩ rfl rfl) ?_
    refine WPl.v rfl (o_assign rfl) ?_
    refine WPl.nil ?_
    refine EX.then ?_
    refine WP.seq ?_
    refine WP.seq ?_
    refine WP.region ?_
    refine WPl.v rfl (o_move rfl) ?_
    refine WPl.v rfl (o_neq rfl rfl) ?_
    refine WPl.nil ?_
    refine EX.then ?_
    refine WP.cond rfl (fun hc2 => ?_) (fun hc2 => ?_)
    · try simp only [decide_eq_true_eq, decide_eq_false_iff_not, Bool.and_eq_true, Bool.or_eq_true, Bool.and_eq_false_iff, Bool.or_eq_false_iff, Bool.not_eq_true', Bool.not_eq_false', ne_eq, Decidable.not_not] at hc2
      refine WP.seq ?_
      refine WP.region ?_
      refine WPl.v rfl (o_move rfl) ?_
      refine WPl.v rfl (o_assign rfl) ?_
      refine WPl.v rfl (o_assign rfl) ?_
      refine WPl.nil ?_
      refine EX.then ?_
      refine WP.ret ?_
      refine EX.ret_then ?_
      have hW : s.wE = s.kE := if_pos (by simpa using hc1)
      rw [hW, show s.mWorth = 0 from by unfold Shop.mWorth; rw [hW]; exact if_neg (by simpa using hc2)]
      exact EX.fin id (.inl rfl) rfl (.tmp rfl (.tmp rfl .nil)) rfl (by simp [SV.res, El.res, At.res, keys]) trivial (by simp) (by simp)
    · try simp only [decide_eq_true_eq, decide_eq_false_iff_not, Bool.and_eq_true, Bool.or_eq_true, Bool.and_eq_false_iff, Bool.or_eq_false_iff, Bool.not_eq_true', Bool.not_eq_false', ne_eq, Decidable.not_not] at hc2
      refine WP.skip ?_
      refine EX.then ?_
      refine WP.seq ?_
      refine WP.region ?_
      refine WPl.v rfl (o_move rfl) ?_
      refine WPl.v rfl (o_fldp F23_1 rfl) ?_
      refine WPl.v rfl (o_ldp S3 rfl rfl rfl) ?_
      refine WPl.v rfl (o_sub rfl rfl (by first | omega | (simp; omega)) (by first | omega | (simp; omega))) ?_
      refine WPl.v rfl (o_assign rfl) ?_
      refine WPl.v rfl (o_assign rfl) ?_
      refine WPl.nil ?_
      refine EX.then ?_
      refine WP.ret ?_
      have hW : s.wE = 0 := (if_pos (by simpa using hc1)).trans (by simpa using hc2)
      rw [hW, show s.mWorth = s.mCheap - s.mKnown.2 from if_pos hW]
      exact EX.fin id (.inl rfl) rfl (.tmp rfl (.tmp rfl .nil)) rfl (by simp [SV.res, El.res, At.res, keys]) trivial (by simp) (by simp)
end Go.Flong
namespace Go.Flong
open Go Go.Eng Go.Proofs
theorem w35 {s : Shop} : ∀ x ∈ ([.e (.g [ai (s.pounds), ai (s.tl), ai (s.th), ai (s.al), ai (s.ah), ai (s.room), ai (s.tpl), ai (s.tph), ai (s.apl), ai (s.aph), .q 0])] : List SV), x.res (keys (α := Pred) [(0, PL EPig (s.pigs))]) := by simp [SV.res, El.res, At.res, keys]
theorem r35 {s : Shop} : SV.res (keys (α := Pred) []) (.b (hugeS s)) := by simp [SV.res, El.res, At.res, keys]
set_option maxHeartbeats 4000000 in
theorem c35 (s : Shop)  : Sig Try.prog 35 [.e (.g [ai (s.pounds), ai (s.tl), ai (s.th), ai (s.al), ai (s.ah), ai (s.room), ai (s.tpl), ai (s.tph), ai (s.apl), ai (s.aph), .q 0])] [(0, PL EPig (s.pigs))] (.b (hugeS s)) [] := by
  refine Sig.intro Try.func35 rfl 1 [(0, .e (.g [ai (s.pounds), ai (s.tl), ai (s.th), ai (s.al), ai (s.ah), ai (s.room), ai (s.tpl), ai (s.tph), ai (s.apl), ai (s.aph), .q 0]))] rfl w35 rfl rfl fun I w => ?_
  refine WP.seq ?_
  refine WP.region ?_
  refine WPl.l 1 2 rfl rfl rfl (o_boxg rfl) ?_
  refine WPl.v rfl (o_assign rfl) ?_
  refine WPl.nil ?_
  refine EX.then ?_
  refine WP.seq ?_
  refine WP.region ?_
  refine WPl.v rfl (o_fldp F28_4 rfl) ?_
  refine WPl.v rfl (o_ldp S26 rfl rfl rfl) ?_
  refine WPl.v rfl (o_lenq L26 rfl (lx rfl)) ?_
  refine WPl.v rfl (o_gtr rfl rfl) ?_
  refine WPl.v rfl (o_assign rfl) ?_
  refine WPl.nil ?_
  refine EX.then ?_
  refine WP.ret ?_
  exact EX.fin id (.inl rfl) rfl (.tmp rfl .nil) rfl r35 trivial (by simp) (by simp)
end Go.Flong
namespace Go.Flong
open Go Go.Eng Go.Proofs
theorem e35 : Enters' Try.prog 35 := Try.call35
theorem e39 : Enters' Try.prog 39 := Try.call39
theorem e68 : Enters' Try.prog 68 := Try.call68
theorem e62 : Enters' Try.prog 62 := Try.call62
theorem e26 : Enters' Try.prog 26 := Try.call26
theorem e64 : Enters' Try.prog 64 := Try.call64
theorem e18 : Enters' Try.prog 18 := Try.call18
theorem B49 : BldT Try.prog 49 [(0, 1), (1, 1), (2, 1), (3, 1), (4, 1)] [.int .i64 0, .int .i64 0, .int .i64 0, .int .i64 0, .int .i64 0] := BldT.mk (ns := [1, 1, 1, 1, 1]) Try.underlying49 ⟨Try.sizeOf3, Try.sizeOf3, Try.sizeOf3, Try.sizeOf3, Try.sizeOf3, trivial⟩ rfl Try.zeroValue49 rfl
theorem B28 : BldT Try.prog 28 [(0, 5), (5, 1), (6, 2), (8, 2), (10, 1)] [.int .i64 0, .int .i64 0, .int .i64 0, .int .i64 0, .int .i64 0, .int .i64 0, .int .i64 0, .int .i64 0, .int .i64 0, .int .i64 0, .slice none 0 0] := BldT.mk (ns := [5, 1, 2, 2, 1]) Try.underlying28 ⟨Try.sizeOf25, Try.sizeOf3, Try.sizeOf23, Try.sizeOf23, Try.sizeOf26, trivial⟩ rfl Try.zeroValue28 rfl
theorem e25 : Enters' Try.prog 25 := Try.call25
theorem e67 : Enters' Try.prog 67 := Try.call67
theorem e40 : Enters' Try.prog 40 := Try.call40
theorem e22 : Enters' Try.prog 22 := Try.call22
theorem e27 : Enters' Try.prog 27 := Try.call27
theorem e32 : Enters' Try.prog 32 := Try.call32
theorem e44 : Enters' Try.prog 44 := Try.call44
theorem Q3 : FlatT Try.prog 3 1 1 false := .int Try.underlying3 S3
theorem Q23 : FlatT Try.prog 23 2 2 true := .struct Try.underlying23 Try.stoodInHeld23 G23 ⟨by decide, rfl, 1, false, Q3, ⟨by decide, rfl, 1, false, Q3, rfl⟩⟩
theorem w15 {s : Shop} : ∀ x ∈ ([.e (.g [ai (s.pounds), ai (s.tl), ai (s.th), ai (s.al), ai (s.ah), ai (s.room), ai (s.tpl), ai (s.tph), ai (s.apl), ai (s.aph), .q 0])] : List SV), x.res (keys (α := Pred) [(0, PL EPig (s.pigs))]) := by simp [SV.res, El.res, At.res, keys]
theorem r15 {s : Shop} : SV.res (keys (α := Pred) []) (.b (s.ready)) := by simp [SV.res, El.res, At.res, keys]
set_option maxHeartbeats 4000000 in
theorem c15 (s : Shop)  : Sig Try.prog 15 [.e (.g [ai (s.pounds), ai (s.tl), ai (s.th), ai (s.al), ai (s.ah), ai (s.room), ai (s.tpl), ai (s.tph), ai (s.apl), ai (s.aph), .q 0])] [(0, PL EPig (s.pigs))] (.b (s.ready)) [] := by
  refine Sig.intro Try.func15 rfl 1 [(0, .e (.g [ai (s.pounds), ai (s.tl), ai (s.th), ai (s.al), ai (s.ah), ai (s.room), ai (s.tpl), ai (s.tph), ai (s.apl), ai (s.aph), .q 0]))] rfl w15 rfl rfl fun I w => ?_
  refine WP.seq ?_
  refine WP.region ?_
  refine WPl.l 1 2 rfl rfl rfl (o_boxg rfl) ?_
  refine WPl.v rfl (o_assign rfl) ?_
  refine WPl.nil ?_
  refine EX.then ?_
  refine WP.seq ?_
  refine WP.region ?_
  refine WPl.v rfl (o_ldpa G28 rfl rfl rfl) ?_
  refine WPl.cs 2 rfl rfl rfl rfl (o_sig 2 (ren [(0, 0)]) (c35 s) e35 rfl rfl rfl w35 ⟨(lx rfl), trivial⟩ r35) ?_
  refine WPl.v rfl (o_not rfl) ?_
  refine WPl.v rfl (o_move rfl) ?_
  refine WPl.bit 2 3 (!(hugeS s)) rfl rfl ?_
  refine WPl.gv 2 rfl rfl (.plain rfl Iff.rfl rfl) (fun hb => o_ldpa G28 rfl rfl rfl) ?_
  refine WPl.gc0 2 rfl rfl (.plain rfl Iff.rfl rfl) (fun hb => o_sig 3 (ren [(0, 0)]) (c39 s) e39 rfl rfl rfl w39 ⟨(lx rfl), trivial⟩ r39) ?_
  refine WPl.gv 2 rfl rfl (.plain rfl Iff.rfl rfl) (fun hb => o_eql rfl rfl) ?_
  refine WPl.v rfl (o_and rfl rfl rfl id) ?_
  refine WPl.v rfl (o_assign rfl) ?_
  refine WPl.nil ?_
  refine EX.then ?_
  refine WP.ret ?_
  rw [show s.ready = (!hugeS s && decide (errM s.chk = 0)) from by unfold Shop.ready errM; cases s.chk <;> simp]
  exact EX.fin id (.inl rfl) rfl (.tmp rfl .nil) rfl (by simp [SV.res, El.res, At.res, keys]) trivial (by simp) (by simp)
theorem w16 {a b c d : Int} : ∀ x ∈ ([.e (.g [ai (a), ai (b)]), .e (.g [ai (c), ai (d)])] : List SV), x.res (keys (α := Pred) []) := by simp [SV.res, El.res, At.res, keys]
theorem r16 {a b c d : Int} : SV.res (keys (α := Pred) []) (.b (insideS a b c d)) := by simp [SV.res, El.res, At.res, keys]
set_option maxHeartbeats 4000000 in
theorem c16 (a b c d : Int)  : Sig Try.prog 16 [.e (.g [ai (a), ai (b)]), .e (.g [ai (c), ai (d)])] [] (.b (insideS a b c d)) [] := by
  refine Sig.intro Try.func16 rfl 0 [(0, .e (.g [ai (a), ai (b)])), (1, .e (.g [ai (c), ai (d)]))] rfl w16 rfl rfl fun I w => ?_
  refine WP.seq ?_
  refine WP.region ?_
  refine WPl.l 0 1 rfl rfl rfl (o_boxg rfl) ?_
  refine WPl.l 1 2 rfl rfl rfl (o_boxg rfl) ?_
  refine WPl.v rfl (o_assign rfl) ?_
  refine WPl.nil ?_
  refine EX.then ?_
  refine WP.seq ?_
  refine WP.region ?_
  refine WPl.v rfl (o_fldp F23_0 rfl) ?_
  refine WPl.v rfl (o_ldp S3 rfl rfl rfl) ?_
  refine WPl.v rfl (o_fldp F23_0 rfl) ?_
  refine WPl.v rfl (o_ldp S3 rfl rfl rfl) ?_
  refine WPl.v rfl (o_leq rfl rfl) ?_
  refine WPl.v rfl (o_move rfl) ?_
  refine WPl.bit 2 3 (decide (c ≤ a)) rfl rfl ?_
  refine WPl.gv 2 rfl rfl (.plain rfl Iff.rfl rfl) (fun hb => o_fldp F23_0 rfl) ?_
  refine WPl.gv 2 rfl rfl (.plain rfl Iff.rfl rfl) (fun hb => o_ldp S3 rfl rfl rfl) ?_
  refine WPl.gv 2 rfl rfl (.plain rfl Iff.rfl rfl) (fun hb => o_fldp F23_1 rfl) ?_
  refine WPl.gv 2 rfl rfl (.plain rfl Iff.rfl rfl) (fun hb => o_ldp S3 rfl rfl rfl) ?_
  refine WPl.gv 2 rfl rfl (.plain rfl Iff.rfl rfl) (fun hb => o_leq rfl rfl) ?_
  refine WPl.v rfl (o_and rfl rfl rfl id) ?_
  refine WPl.v rfl (o_move rfl) ?_
  refine WPl.bit 3 4 ((decide (c ≤ a)) && (decide (a ≤ b))) rfl rfl ?_
  refine WPl.gv 3 rfl rfl (.plain rfl Iff.rfl rfl) (fun hb => o_fldp F23_1 rfl) ?_
  refine WPl.gv 3 rfl rfl (.plain rfl Iff.rfl rfl) (fun hb => o_ldp S3 rfl rfl rfl) ?_
  refine WPl.gv 3 rfl rfl (.plain rfl Iff.rfl rfl) (fun hb => o_fldp F23_1 rfl) ?_
  refine WPl.gv 3 rfl rfl (.plain rfl Iff.rfl rfl) (fun hb => o_ldp S3 rfl rfl rfl) ?_
  refine WPl.gv 3 rfl rfl (.plain rfl Iff.rfl rfl) (fun hb => o_leq rfl rfl) ?_
  refine WPl.v rfl (o_and rfl rfl rfl id) ?_
  refine WPl.v rfl (o_assign rfl) ?_
  refine WPl.nil ?_
  refine EX.then ?_
  refine WP.ret ?_
  exact EX.fin id (.inl rfl) rfl (.tmp rfl .nil) rfl r16 trivial (by simp) (by simp)
theorem w20 {s : Shop} {add : List Int} : ∀ x ∈ ([.e (.g [ai (s.pounds), ai (s.tl), ai (s.th), ai (s.al), ai (s.ah), ai (s.room), ai (s.tpl), ai (s.tph), ai (s.apl), ai (s.aph), .q 0]), .e (.a (.q 1))] : List SV), x.res (keys (α := Pred) [(0, PL EPig (s.pigs)), (1, PL EP.int (add))]) := by simp [SV.res, El.res, At.res, keys]
theorem r20 {s : Shop} {add : List Int} : SV.res (keys (α := Pred) []) (.b (decide ((add.length : Int) ≤ 40) && isAdd s add)) := by simp [SV.res, El.res, At.res, keys]
set_option maxHeartbeats 4000000 in
theorem c20 (s : Shop) (add : List Int) (hs : s.chk = true) : Sig Try.prog 20 [.e (.g [ai (s.pounds), ai (s.tl), ai (s.th), ai (s.al), ai (s.ah), ai (s.room), ai (s.tpl), ai (s.tph), ai (s.apl), ai (s.aph), .q 0]), .e (.a (.q 1))] [(0, PL EPig (s.pigs)), (1, PL EP.int (add))] (.b (decide ((add.length : Int) ≤ 40) && isAdd s add)) [] := by
  have hpg := Shop.pigsOK hs
  have htb := tl_bnd hs
  refine Sig.intro Try.func20 rfl 2 [(0, .e (.g [ai (s.pounds), ai (s.tl), ai (s.th), ai (s.al), ai (s.ah), ai (s.room), ai (s.tpl), ai (s.tph), ai (s.apl), ai (s.aph), .q 0])), (1, .e (.a (.q 1)))] rfl w20 rfl rfl fun I w => ?_
  refine WP.seq ?_
  refine WP.region ?_
  refine WPl.l 2 3 rfl rfl rfl (o_boxg rfl) ?_
  refine WPl.v rfl (o_assign rfl) ?_
  refine WPl.nil ?_
  refine EX.then ?_
  refine WP.seq ?_
  refine WP.region ?_
  refine WPl.v rfl (o_move rfl) ?_
  refine WPl.v rfl (o_lenq L29 rfl (lx rfl)) ?_
  refine WPl.v rfl (o_leq rfl rfl) ?_
  refine WPl.v rfl (o_move rfl) ?_
  refine WPl.bit 3 4 (decide ((add.length : Int) ≤ 40)) rfl rfl ?_
  refine WPl.gv 3 rfl rfl (.plain rfl Iff.rfl rfl) (fun hb => o_ldpa G28 rfl rfl rfl) ?_
  refine WPl.gv 3 rfl rfl (.plain rfl Iff.rfl rfl) (fun hb => o_move rfl) ?_
  refine WPl.gc0 3 rfl rfl (.plain rfl Iff.rfl rfl) (fun hb => o_sig 4 (ren [(0, 0), (1, 1)]) (c68 s add hpg (by omega)) e68 rfl rfl rfl w68 ⟨(lx rfl), (lx rfl), trivial⟩ r68) ?_
  refine WPl.v rfl (o_and rfl rfl rfl id) ?_
  refine WPl.v rfl (o_assign rfl) ?_
  refine WPl.nil ?_
  refine EX.then ?_
  refine WP.ret ?_
  exact EX.fin id (.inl rfl) rfl (.tmp rfl .nil) rfl r20 trivial (by simp) (by simp)
theorem w26 {s : Shop} : ∀ x ∈ ([.e (.g [ai (s.pounds), ai (s.tl), ai (s.th), ai (s.al), ai (s.ah), ai (s.room), ai (s.tpl), ai (s.tph), ai (s.apl), ai (s.aph), .q 0])] : List SV), x.res (keys (α := Pred) [(0, PL EPig (s.pigs))]) := by simp [SV.res, El.res, At.res, keys]
theorem r26 {s : Shop} : SV.res (keys (α := Pred) []) (.t [.a (ai (s.lCheap)), .a (.v (.bool (true)))]) := by simp [SV.res, El.res, At.res, keys]
set_option maxHeartbeats 4000000 in
theorem c26 (s : Shop) (hs : s.chk = true) : Sig Try.prog 26 [.e (.g [ai (s.pounds), ai (s.tl), ai (s.th), ai (s.al), ai (s.ah), ai (s.room), ai (s.tpl), ai (s.tph), ai (s.apl), ai (s.aph), .q 0])] [(0, PL EPig (s.pigs))] (.t [.a (ai (s.lCheap)), .a (.v (.bool (true)))]) [] := by
  have hl4 := (Shop.pigsOK hs).2
  refine Sig.intro Try.func26 rfl 1 [(0, .e (.g [ai (s.pounds), ai (s.tl), ai (s.th), ai (s.al), ai (s.ah), ai (s.room), ai (s.tpl), ai (s.tph), ai (s.apl), ai (s.aph), .q 0]))] rfl w26 rfl rfl fun I w => ?_
  refine WP.seq ?_
  refine WP.region ?_
  refine WPl.l 1 2 rfl rfl rfl (o_boxg rfl) ?_
  refine WPl.v rfl (o_assign rfl) ?_
  refine WPl.v rfl (o_assign rfl) ?_
  refine WPl.nil ?_
  refine EX.then ?_
  refine WP.seq ?_
  refine WP.region ?_
  refine WPl.v rfl (o_ldpa G28 rfl rfl rfl) ?_
  refine WPl.cs 2 rfl rfl rfl rfl (o_sig 2 (ren [(0, 0)]) (c58 s (by omega)) e58 rfl rfl rfl w58 ⟨(lx rfl), trivial⟩ r58) ?_
  refine WPl.v rfl (o_move rfl) ?_
  refine WPl.v rfl (o_extract rfl rfl) ?_
  refine WPl.v rfl (o_extract rfl rfl) ?_
  refine WPl.v rfl (o_assign rfl) ?_
  refine WPl.v rfl (o_assign rfl) ?_
  refine WPl.nil ?_
  refine EX.then ?_
  refine WP.seq ?_
  refine WP.seq ?_
  refine WP.region ?_
  refine WPl.v rfl (o_move rfl) ?_
  refine WPl.v rfl (o_eql rfl rfl) ?_
  refine WPl.nil ?_
  refine EX.then ?_
  refine WP.cond rfl (fun hc1 => ?_) (fun hc1 => ?_)
  · try simp only [decide_eq_true_eq, decide_eq_false_iff_not, Bool.and_eq_true, Bool.or_eq_true, Bool.and_eq_false_iff, Bool.or_eq_false_iff, Bool.not_eq_true', Bool.not_eq_false', ne_eq, Decidable.not_not] at hc1
    refine WP.seq ?_
    refine WP.region ?_
    refine WPl.v rfl (o_assign rfl) ?_
    refine WPl.v rfl (o_assign rfl) ?_
    refine WPl.nil ?_
    refine EX.then ?_
    refine WP.ret ?_
    refine EX.ret_then ?_
    rw [show s.lCheap = 100000 from if_pos (by simpa using hc1)]
    exact EX.fin id (.inl rfl) rfl (.tmp rfl (.tmp rfl .nil)) rfl (by simp [SV.res, El.res, At.res, keys]) trivial (by simp) (by simp)
  · try simp only [decide_eq_true_eq, decide_eq_false_iff_not, Bool.and_eq_true, Bool.or_eq_true, Bool.and_eq_false_iff, Bool.or_eq_false_iff, Bool.not_eq_true', Bool.not_eq_false', ne_eq, Decidable.not_not] at hc1
    have hE := mE_not hs (show s.mE (priceG s) ≠ 3 by simpa using hc1)
    have hcb := cheap_bnd hE
    refine WP.skip ?_
    refine EX.then ?_
    refine WP.seq ?_
    refine WP.region ?_
    refine WPl.v rfl (o_move rfl) ?_
    refine WPl.v rfl (o_move rfl) ?_
    refine WPl.v rfl (o_eql rfl rfl) ?_
    refine WPl.imp (Imp.bitF 15 (b' := true) rfl (decide_eq_true hE)) ?_
    refine WPl.v rfl (o_move rfl) ?_
    refine WPl.on rfl ⟨_, _, rfl, rfl, rfl⟩ (o_move rfl) ?_
    refine WPl.on rfl ⟨_, _, rfl, rfl, rfl⟩ (o_geq rfl rfl) ?_
    refine WPl.v rfl (o_pickT rfl rfl) ?_
    refine WPl.v rfl (o_move rfl) ?_
    refine WPl.bit 2 3 (decide (0 ≤ s.mCheap)) rfl rfl ?_
    refine WPl.gv 2 rfl rfl (.plain rfl Iff.rfl rfl) (fun hb => o_move rfl) ?_
    refine WPl.gv 2 rfl rfl (.plain rfl Iff.rfl rfl) (fun hb => o_lss rfl rfl) ?_
    refine WPl.v rfl (o_and rfl rfl rfl id) ?_
    refine WPl.v rfl (o_assign rfl) ?_
    refine WPl.v rfl (o_assign rfl) ?_
    refine WPl.nil ?_
    refine EX.then ?_
    refine WP.ret ?_
    rw [show s.lCheap = s.mCheap from if_neg (by simpa using hc1), decide_eq_true hcb.1, decide_eq_true hcb.2]
    exact EX.fin id (.inl rfl) rfl (.tmp rfl (.tmp rfl .nil)) rfl (by simp [SV.res, El.res, At.res, keys]) trivial (by simp) (by simp)
theorem w64 {s : Shop} : ∀ x ∈ ([.e (.g [ai (s.pounds), ai (s.tl), ai (s.th), ai (s.al), ai (s.ah), ai (s.room), ai (s.tpl), ai (s.tph), ai (s.apl), ai (s.aph), .q 0])] : List SV), x.res (keys (α := Pred) [(0, PL EPig (s.pigs))]) := by simp [SV.res, El.res, At.res, keys]
theorem r64 {s : Shop} : SV.res (keys (α := Pred) []) (.t [.a (ai (s.lTin)), .a (.v (.bool (true)))]) := by simp [SV.res, El.res, At.res, keys]
set_option maxHeartbeats 4000000 in
theorem c64 (s : Shop) (hs : s.chk = true) : Sig Try.prog 64 [.e (.g [ai (s.pounds), ai (s.tl), ai (s.th), ai (s.al), ai (s.ah), ai (s.room), ai (s.tpl), ai (s.tph), ai (s.apl), ai (s.aph), .q 0])] [(0, PL EPig (s.pigs))] (.t [.a (ai (s.lTin)), .a (.v (.bool (true)))]) [] := by
  have hl4 := (Shop.pigsOK hs).2
  refine Sig.intro Try.func64 rfl 1 [(0, .e (.g [ai (s.pounds), ai (s.tl), ai (s.th), ai (s.al), ai (s.ah), ai (s.room), ai (s.tpl), ai (s.tph), ai (s.apl), ai (s.aph), .q 0]))] rfl w64 rfl rfl fun I w => ?_
  refine WP.seq ?_
  refine WP.region ?_
  refine WPl.l 1 2 rfl rfl rfl (o_boxg rfl) ?_
  refine WPl.v rfl (o_assign rfl) ?_
  refine WPl.v rfl (o_assign rfl) ?_
  refine WPl.nil ?_
  refine EX.then ?_
  refine WP.seq ?_
  refine WP.region ?_
  refine WPl.v rfl (o_ldpa G28 rfl rfl rfl) ?_
  refine WPl.cs 2 rfl rfl rfl rfl (o_sig 2 (ren [(0, 0)]) (c62 s (by omega)) e62 rfl rfl rfl w62 ⟨(lx rfl), trivial⟩ r62) ?_
  refine WPl.v rfl (o_move rfl) ?_
  refine WPl.v rfl (o_extract rfl rfl) ?_
  refine WPl.v rfl (o_extract rfl rfl) ?_
  refine WPl.v rfl (o_assign rfl) ?_
  refine WPl.v rfl (o_assign rfl) ?_
  refine WPl.nil ?_
  refine EX.then ?_
  refine WP.seq ?_
  refine WP.seq ?_
  refine WP.region ?_
  refine WPl.v rfl (o_move rfl) ?_
  refine WPl.v rfl (o_eql rfl rfl) ?_
  refine WPl.nil ?_
  refine EX.then ?_
  refine WP.cond rfl (fun hc1 => ?_) (fun hc1 => ?_)
  · try simp only [decide_eq_true_eq, decide_eq_false_iff_not, Bool.and_eq_true, Bool.or_eq_true, Bool.and_eq_false_iff, Bool.or_eq_false_iff, Bool.not_eq_true', Bool.not_eq_false', ne_eq, Decidable.not_not] at hc1
    refine WP.seq ?_
    refine WP.region ?_
    refine WPl.v rfl (o_assign rfl) ?_
    refine WPl.v rfl (o_assign rfl) ?_
    refine WPl.nil ?_
    refine EX.then ?_
    refine WP.ret ?_
    refine EX.ret_then ?_
    rw [show s.lTin = 100000 from if_pos (by simpa using hc1)]
    exact EX.fin id (.inl rfl) rfl (.tmp rfl (.tmp rfl .nil)) rfl (by simp [SV.res, El.res, At.res, keys]) trivial (by simp) (by simp)
  · try simp only [decide_eq_true_eq, decide_eq_false_iff_not, Bool.and_eq_true, Bool.or_eq_true, Bool.and_eq_false_iff, Bool.or_eq_false_iff, Bool.not_eq_true', Bool.not_eq_false', ne_eq, Decidable.not_not] at hc1
    have hE := mE_not hs (show s.mE (tinG s) ≠ 3 by simpa using hc1)
    have hcb := tin_bnd hE
    refine WP.skip ?_
    refine EX.then ?_
    refine WP.seq ?_
    refine WP.region ?_
    refine WPl.v rfl (o_move rfl) ?_
    refine WPl.v rfl (o_move rfl) ?_
    refine WPl.v rfl (o_eql rfl rfl) ?_
    refine WPl.imp (Imp.bitF 15 (b' := true) rfl (decide_eq_true hE)) ?_
    refine WPl.v rfl (o_move rfl) ?_
    refine WPl.on rfl ⟨_, _, rfl, rfl, rfl⟩ (o_move rfl) ?_
    refine WPl.on rfl ⟨_, _, rfl, rfl, rfl⟩ (o_geq rfl rfl) ?_
    refine WPl.v rfl (o_pickT rfl rfl) ?_
    refine WPl.v rfl (o_move rfl) ?_
    refine WPl.bit 2 3 (decide (0 ≤ s.mTin)) rfl rfl ?_
    refine WPl.gv 2 rfl rfl (.plain rfl Iff.rfl rfl) (fun hb => o_move rfl) ?_
    refine WPl.gv 2 rfl rfl (.plain rfl Iff.rfl rfl) (fun hb => o_lss rfl rfl) ?_
    refine WPl.v rfl (o_and rfl rfl rfl id) ?_
    refine WPl.v rfl (o_assign rfl) ?_
    refine WPl.v rfl (o_assign rfl) ?_
    refine WPl.nil ?_
    refine EX.then ?_
    refine WP.ret ?_
    rw [show s.lTin = s.mTin from if_neg (by simpa using hc1), decide_eq_true hcb.1, decide_eq_true hcb.2]
    exact EX.fin id (.inl rfl) rfl (.tmp rfl (.tmp rfl .nil)) rfl (by simp [SV.res, El.res, At.res, keys]) trivial (by simp) (by simp)
theorem w19 {s o : Shop} : ∀ x ∈ ([.e (.g [ai (s.pounds), ai (s.tl), ai (s.th), ai (s.al), ai (s.ah), ai (s.room), ai (s.tpl), ai (s.tph), ai (s.apl), ai (s.aph), .q 0]), .e (.g [ai (o.pounds), ai (o.tl), ai (o.th), ai (o.al), ai (o.ah), ai (o.room), ai (o.tpl), ai (o.tph), ai (o.apl), ai (o.aph), .q 1])] : List SV), x.res (keys (α := Pred) [(0, PL EPig (s.pigs)), (1, PL EPig (o.pigs))]) := by simp [SV.res, El.res, At.res, keys]
theorem r19 {s o : Shop} : SV.res (keys (α := Pred) []) (.b (less2 s o)) := by simp [SV.res, El.res, At.res, keys]
set_option maxHeartbeats 4000000 in
theorem c19 (s o : Shop) (hs : s.chk = true) (ho : o.chk = true) : Sig Try.prog 19 [.e (.g [ai (s.pounds), ai (s.tl), ai (s.th), ai (s.al), ai (s.ah), ai (s.room), ai (s.tpl), ai (s.tph), ai (s.apl), ai (s.aph), .q 0]), .e (.g [ai (o.pounds), ai (o.tl), ai (o.th), ai (o.al), ai (o.ah), ai (o.room), ai (o.tpl), ai (o.tph), ai (o.apl), ai (o.aph), .q 1])] [(0, PL EPig (s.pigs)), (1, PL EPig (o.pigs))] (.b (less2 s o)) [] := by
  refine Sig.intro Try.func19 rfl 2 [(0, .e (.g [ai (s.pounds), ai (s.tl), ai (s.th), ai (s.al), ai (s.ah), ai (s.room), ai (s.tpl), ai (s.tph), ai (s.apl), ai (s.aph), .q 0])), (1, .e (.g [ai (o.pounds), ai (o.tl), ai (o.th), ai (o.al), ai (o.ah), ai (o.room), ai (o.tpl), ai (o.tph), ai (o.apl), ai (o.aph), .q 1]))] rfl w19 rfl rfl fun I w => ?_
  refine WP.seq ?_
  refine WP.region ?_
  refine WPl.l 2 3 rfl rfl rfl (o_boxg rfl) ?_
  refine WPl.l 3 4 rfl rfl rfl (o_boxg rfl) ?_
  refine WPl.v rfl (o_assign rfl) ?_
  refine WPl.nil ?_
  refine EX.then ?_
  refine WP.seq ?_
  refine WP.region ?_
  refine WPl.v rfl (o_ldpa G28 rfl rfl rfl) ?_
  refine WPl.cs 4 rfl rfl rfl rfl (o_sig 4 (ren [(0, 0)]) (c26 s hs) e26 rfl rfl rfl w26 ⟨(lx rfl), trivial⟩ r26) ?_
  refine WPl.v rfl (o_move rfl) ?_
  refine WPl.v rfl (o_extract rfl rfl) ?_
  refine WPl.v rfl (o_extract rfl rfl) ?_
  refine WPl.v rfl (o_assign rfl) ?_
  refine WPl.v rfl (o_assign rfl) ?_
  refine WPl.nil ?_
  refine EX.then ?_
  refine WP.seq ?_
  refine WP.region ?_
  refine WPl.v rfl (o_ldpa G28 rfl rfl rfl) ?_
  refine WPl.cs 4 rfl rfl rfl rfl (o_sig 4 (ren [(0, 1)]) (c26 o ho) e26 rfl rfl rfl w26 ⟨(lx rfl), trivial⟩ r26) ?_
  refine WPl.v rfl (o_move rfl) ?_
  refine WPl.v rfl (o_extract rfl rfl) ?_
  refine WPl.v rfl (o_extract rfl rfl) ?_
  refine WPl.v rfl (o_assign rfl) ?_
  refine WPl.v rfl (o_assign rfl) ?_
  refine WPl.nil ?_
  refine EX.then ?_
  refine WP.seq ?_
  refine WP.region ?_
  refine WPl.v rfl (o_ldpa G28 rfl rfl rfl) ?_
  refine WPl.cs 4 rfl rfl rfl rfl (o_sig 4 (ren [(0, 0)]) (c64 s hs) e64 rfl rfl rfl w64 ⟨(lx rfl), trivial⟩ r64) ?_
  refine WPl.v rfl (o_move rfl) ?_
  refine WPl.v rfl (o_extract rfl rfl) ?_
  refine WPl.v rfl (o_extract rfl rfl) ?_
  refine WPl.v rfl (o_assign rfl) ?_
  refine WPl.v rfl (o_assign rfl) ?_
  refine WPl.nil ?_
  refine EX.then ?_
  refine WP.seq ?_
  refine WP.region ?_
  refine WPl.v rfl (o_ldpa G28 rfl rfl rfl) ?_
  refine WPl.cs 4 rfl rfl rfl rfl (o_sig 4 (ren [(0, 1)]) (c64 o ho) e64 rfl rfl rfl w64 ⟨(lx rfl), trivial⟩ r64) ?_
  refine WPl.v rfl (o_move rfl) ?_
  refine WPl.v rfl (o_extract rfl rfl) ?_
  refine WPl.v rfl (o_extract rfl rfl) ?_
  refine WPl.v rfl (o_assign rfl) ?_
  refine WPl.v rfl (o_assign rfl) ?_
  refine WPl.nil ?_
  refine EX.then ?_
  refine WP.seq ?_
  refine WP.region ?_
  refine WPl.v rfl (o_move rfl) ?_
  refine WPl.v rfl (o_move rfl) ?_
  refine WPl.on rfl ⟨_, _, rfl, rfl, rfl⟩ (o_move rfl) ?_
  refine WPl.v rfl (o_pickT rfl rfl) ?_
  refine WPl.v rfl (o_move rfl) ?_
  refine WPl.on rfl ⟨_, _, rfl, rfl, rfl⟩ (o_move rfl) ?_
  refine WPl.v rfl (o_pickT rfl rfl) ?_
  refine WPl.v rfl (o_move rfl) ?_
  refine WPl.on rfl ⟨_, _, rfl, rfl, rfl⟩ (o_move rfl) ?_
  refine WPl.v rfl (o_pickT rfl rfl) ?_
  refine WPl.v rfl (o_move rfl) ?_
  refine WPl.on rfl ⟨_, _, rfl, rfl, rfl⟩ (o_move rfl) ?_
  refine WPl.on rfl ⟨_, _, rfl, rfl, rfl⟩ (o_move rfl) ?_
  refine WPl.on rfl ⟨_, _, rfl, rfl, rfl⟩ (o_leq rfl rfl) ?_
  refine WPl.v rfl (o_pickT rfl rfl) ?_
  refine WPl.v rfl (o_move rfl) ?_
  refine WPl.bit 4 5 (decide (s.lCheap ≤ o.lCheap)) rfl rfl ?_
  refine WPl.gv 4 rfl rfl (.plain rfl Iff.rfl rfl) (fun hb => o_move rfl) ?_
  refine WPl.gv 4 rfl rfl (.plain rfl Iff.rfl rfl) (fun hb => o_move rfl) ?_
  refine WPl.gv 4 rfl rfl (.plain rfl Iff.rfl rfl) (fun hb => o_leq rfl rfl) ?_
  refine WPl.v rfl (o_and rfl rfl rfl id) ?_
  refine WPl.v rfl (o_assign rfl) ?_
  refine WPl.nil ?_
  refine EX.then ?_
  refine WP.ret ?_
  exact EX.fin id (.inl rfl) rfl (.tmp rfl .nil) rfl r19 trivial (by simp) (by simp)
theorem w25 {s : Shop} {i n : Int} : ∀ x ∈ ([.e (.g [ai (s.pounds), ai (s.tl), ai (s.th), ai (s.al), ai (s.ah), ai (s.room), ai (s.tpl), ai (s.tph), ai (s.apl), ai (s.aph), .q 0]), .i (i), .i (n)] : List SV), x.res (keys (α := Pred) [(0, PL EPig (s.pigs))]) := by simp [SV.res, El.res, At.res, keys]
theorem r25 {s : Shop} {i n : Int} : SV.res (keys (α := Pred) [(0, PL EPig ((s.pigged i n).pigs))]) (.e (.g [ai ((s.pigged i n).pounds), ai ((s.pigged i n).tl), ai ((s.pigged i n).th), ai ((s.pigged i n).al), ai ((s.pigged i n).ah), ai ((s.pigged i n).room), ai ((s.pigged i n).tpl), ai ((s.pigged i n).tph), ai ((s.pigged i n).apl), ai ((s.pigged i n).aph), .q 0])) := by simp [SV.res, El.res, At.res, keys]
set_option maxHeartbeats 4000000 in
theorem c25 (s : Shop) (i n : Int) (hl : s.pigs.length ≤ 40) (hi : 0 ≤ i ∧ i < s.pigs.length) : Sig Try.prog 25 [.e (.g [ai (s.pounds), ai (s.tl), ai (s.th), ai (s.al), ai (s.ah), ai (s.room), ai (s.tpl), ai (s.tph), ai (s.apl), ai (s.aph), .q 0]), .i (i), .i (n)] [(0, PL EPig (s.pigs))] (.e (.g [ai ((s.pigged i n).pounds), ai ((s.pigged i n).tl), ai ((s.pigged i n).th), ai ((s.pigged i n).al), ai ((s.pigged i n).ah), ai ((s.pigged i n).room), ai ((s.pigged i n).tpl), ai ((s.pigged i n).tph), ai ((s.pigged i n).apl), ai ((s.pigged i n).aph), .q 0])) [(0, PL EPig ((s.pigged i n).pigs))] := by
  refine Sig.intro Try.func25 rfl 1 [(0, .e (.g [ai (s.pounds), ai (s.tl), ai (s.th), ai (s.al), ai (s.ah), ai (s.room), ai (s.tpl), ai (s.tph), ai (s.apl), ai (s.aph), .q 0])), (1, .i (i)), (2, .i (n))] rfl w25 rfl rfl fun I w => ?_
  refine WP.seq ?_
  refine WP.region ?_
  refine WPl.l 1 2 rfl rfl rfl (o_boxg rfl) ?_
  refine WPl.l 2 3 rfl rfl rfl (o_alloc Z28) ?_
  refine WPl.nil ?_
  refine EX.then ?_
  refine WP.seq ?_
  refine WP.region ?_
  refine WPl.v rfl (o_ldpa G28 rfl rfl rfl) ?_
  refine WPl.cL 4 rfl rfl rfl rfl rfl (o_sigo 3 (ren [(0, 0)]) (c18O s hl) e18 rfl rfl SvsOK.rf w18O ⟨(lx rfl), trivial⟩ r18O rfl rfl) ?_
  refine WPl.l 4 5 rfl rfl rfl (o_alloc Z28) ?_
  refine WPl.s1 (o_stag G28 rfl rfl rfl ⟨rfl, rfl, rfl, rfl, rfl, rfl, rfl, rfl, rfl, rfl, (.inr ⟨_, _, _, _, rfl⟩), trivial⟩ rfl rfl) ?_
  refine WPl.nil ?_
  refine EX.then ?_
  refine WP.seq ?_
  refine WP.region ?_
  refine WPl.v rfl (o_fldp F28_4 rfl) ?_
  refine WPl.v rfl (o_ldp S26 rfl rfl rfl) ?_
  refine WPl.v rfl (o_move rfl) ?_
  refine WPl.v rfl (o_idxo L26 rfl rfl rfl (by first | omega | (simp; omega)) (by first | omega | (simp; omega))) ?_
  refine WPl.v rfl (o_ldoG G49 rfl rfl rfl rfl (by first | omega | (simp; omega)) (by first | omega | (simp; omega)) (strG rfl) rfl rfl) ?_
  refine WPl.l 5 6 rfl rfl rfl (o_alloc Z49) ?_
  refine WPl.s1 (o_stag G49 rfl rfl rfl ⟨rfl, rfl, rfl, rfl, rfl, trivial⟩ rfl rfl) ?_
  refine WPl.nil ?_
  refine EX.then ?_
  refine WP.seq ?_
  refine WP.region ?_
  refine WPl.v rfl (o_move rfl) ?_
  refine WPl.v rfl (o_fldp F49_4 rfl) ?_
  refine WPl.s1 (o_sta S3 rfl rfl rfl rfl rfl) ?_
  refine WPl.nil ?_
  refine EX.then ?_
  refine WP.seq ?_
  refine WP.region ?_
  refine WPl.v rfl (o_fldp F28_4 rfl) ?_
  refine WPl.v rfl (o_ldp S26 rfl rfl rfl) ?_
  refine WPl.v rfl (o_move rfl) ?_
  refine WPl.v rfl (o_ldpa G49 rfl rfl rfl) ?_
  refine WPl.v rfl (o_idxo L26 rfl rfl rfl (by first | omega | (simp; omega)) (by first | omega | (simp; omega))) ?_
  refine WPl.s1 (o_steE2 (z := ({ nth s.pigs i with many := n } : Pig)) Try.sizeOf49 rfl rfl rfl ⟨rfl, rfl, rfl, rfl, rfl, trivial⟩ (eok_str ⟨rfl, rfl, rfl, rfl, rfl, trivial⟩) rfl rfl rfl (by first | omega | (simp; omega)) (by first | omega | (simp; omega))) ?_
  refine WPl.nil ?_
  refine EX.then ?_
  refine WP.seq ?_
  refine WP.region ?_
  refine WPl.v rfl (o_ldpa G28 rfl rfl rfl) ?_
  refine WPl.s1 (o_stag G28 rfl rfl rfl ⟨rfl, rfl, rfl, rfl, rfl, rfl, rfl, rfl, rfl, rfl, (.inr ⟨_, _, _, _, rfl⟩), trivial⟩ rfl rfl) ?_
  refine WPl.nil ?_
  refine EX.then ?_
  refine WP.ret ?_
  refine EX.imp (Imp.frz (E := EPig) (l := lset ([] ++ s.pigs) i ({ nth s.pigs i with many := n } : Pig)) 3 rfl rfl) ?_
  exact EX.fin (ren [(0, 3)]) (.inl rfl) rfl (.cellg G28 rfl rfl rfl (.nil)) rfl r25 ⟨(lx rfl), trivial⟩ (by simp) (by simp)
theorem w67  : ∀ x ∈ ([] : List SV), x.res (keys (α := Pred) []) := by simp [SV.res, El.res, At.res, keys]
theorem r67  : SV.res (keys (α := Pred) [(0, PL EPig (exM.pigs)), (1, PL EPig (exL.pigs))]) (.t [.g [ai (exM.pounds), ai (exM.tl), ai (exM.th), ai (exM.al), ai (exM.ah), ai (exM.room), ai (exM.tpl), ai (exM.tph), ai (exM.apl), ai (exM.aph), .q 0], .g [ai (exL.pounds), ai (exL.tl), ai (exL.th), ai (exL.al), ai (exL.ah), ai (exL.room), ai (exL.tpl), ai (exL.tph), ai (exL.apl), ai (exL.aph), .q 1]]) := by simp [SV.res, El.res, At.res, keys]
set_option maxHeartbeats 4000000 in
theorem c67   : Sig Try.prog 67 [] [] (.t [.g [ai (exM.pounds), ai (exM.tl), ai (exM.th), ai (exM.al), ai (exM.ah), ai (exM.room), ai (exM.tpl), ai (exM.tph), ai (exM.apl), ai (exM.aph), .q 0], .g [ai (exL.pounds), ai (exL.tl), ai (exL.th), ai (exL.al), ai (exL.ah), ai (exL.room), ai (exL.tpl), ai (exL.tph), ai (exL.apl), ai (exL.aph), .q 1]]) [(0, PL EPig (exM.pigs)), (1, PL EPig (exL.pigs))] := by
  refine Sig.intro Try.func67 rfl 0 [] rfl w67 rfl rfl fun I w => ?_
  refine WP.seq ?_
  refine WP.region ?_
  refine WPl.l 0 1 rfl rfl rfl (o_alloc Z28) ?_
  refine WPl.l 1 2 rfl rfl rfl (o_alloc Z28) ?_
  refine WPl.nil ?_
  refine EX.then ?_
  refine WP.seq ?_
  refine WP.region ?_
  refine WPl.v rfl (o_build B23 rfl ⟨rfl, rfl, trivial⟩ rfl rfl) ?_
  refine WPl.v rfl (o_build B23 rfl ⟨rfl, rfl, trivial⟩ rfl rfl) ?_
  refine WPl.v rfl (o_build B25 rfl ⟨rfl, trivial⟩ rfl rfl) ?_
  refine WPl.v rfl (o_build B23 rfl ⟨rfl, rfl, trivial⟩ rfl rfl) ?_
  refine WPl.v rfl (o_build B23 rfl ⟨rfl, rfl, trivial⟩ rfl rfl) ?_
  refine WPl.v rfl (o_build B49 rfl ⟨rfl, rfl, rfl, rfl, trivial⟩ rfl rfl) ?_
  refine WPl.v rfl (o_build B49 rfl ⟨rfl, rfl, rfl, rfl, rfl, trivial⟩ rfl rfl) ?_
  refine WPl.v rfl (o_build B49 rfl ⟨rfl, rfl, rfl, trivial⟩ rfl rfl) ?_
  refine WPl.x 2 3 rfl rfl rfl (OpG.settle0 (o_bsl (E := EPig) (l := [(⟨10, 5, 0, 30, 3⟩ : Pig), (⟨20, 1, 6, 25, 2⟩ : Pig), (⟨25, 0, 0, 5, 2⟩ : Pig)]) R26 rfl rfl (.cons (⟨rfl, rfl, rfl, rfl, rfl, trivial⟩) rfl (eok_str ⟨rfl, rfl, rfl, rfl, rfl, trivial⟩) (.cons (⟨rfl, rfl, rfl, rfl, rfl, trivial⟩) rfl (eok_str ⟨rfl, rfl, rfl, rfl, rfl, trivial⟩) (.cons (⟨rfl, rfl, rfl, rfl, rfl, trivial⟩) rfl (eok_str ⟨rfl, rfl, rfl, rfl, rfl, trivial⟩) (.nil)))) rfl rfl)) ?_
  refine WPl.v rfl (o_build B28 rfl ⟨rfl, (.inl ⟨_, (lx rfl), PL.one⟩), trivial⟩ rfl rfl) ?_
  refine WPl.s1 (o_stag G28 rfl rfl rfl ⟨rfl, rfl, rfl, rfl, rfl, rfl, rfl, rfl, rfl, rfl, (.inl ⟨_, (lx rfl), PL.one⟩), trivial⟩ rfl rfl) ?_
  refine WPl.nil ?_
  refine EX.then ?_
  refine WP.seq ?_
  refine WP.draw (nf := 4) [⟨[13, 14], [3], [], [], []⟩, ⟨[12], [], [], [], []⟩, ⟨[12], [], [3], [3], [1]⟩, ⟨[], [], [], [0], [0, 1, 2]⟩, ⟨[], [], [], [1], [0, 1, 2, 3]⟩] (by kernel_rfl) (by kernel_rfl) ?_
  refine DRQ.v rfl rfl rfl (o_ldpa G28 rfl rfl rfl) ?_
  refine DRQ.v rfl rfl rfl (o_ldpa G28 rfl rfl rfl) ?_
  refine DRQ.cs rfl rfl rfl rfl (o_sig 3 (ren [(0, 2)]) (c25 exM 0 0 (by decide) (by decide)) e25 rfl rfl rfl w25 ⟨(lx rfl), trivial⟩ r25) ?_
  refine DRQ.s 0 rfl rfl rfl (o_stag G28 rfl rfl rfl ⟨rfl, rfl, rfl, rfl, rfl, rfl, rfl, rfl, rfl, rfl, (.inl ⟨_, (lx rfl), PL.one⟩), trivial⟩ rfl rfl) ?_
  refine DRQ.s 1 rfl rfl rfl (o_stag G28 rfl rfl rfl ⟨rfl, rfl, rfl, rfl, rfl, rfl, rfl, rfl, rfl, rfl, (.inl ⟨_, (lx rfl), PL.one⟩), trivial⟩ rfl rfl) ?_
  refine DRQ.nil' ?_
  refine EX.then ?_
  refine WP.ret ?_
  exact EX.fin (ren [(0, 2), (1, 3)]) (.inl rfl) rfl (.cellg G28 rfl rfl rfl (.cellg G28 rfl rfl rfl (.nil))) rfl r67 ⟨(lx rfl), (lx rfl), trivial⟩ (by simp) (by simp)
theorem w17  : ∀ x ∈ ([] : List SV), x.res (keys (α := Pred) []) := by simp [SV.res, El.res, At.res, keys]
theorem r17  : SV.res (keys (α := Pred) []) (.b (true)) := by simp [SV.res, El.res, At.res, keys]
set_option maxHeartbeats 4000000 in
theorem c17   : Sig Try.prog 17 [] [] (.b (true)) [] := by
  refine Sig.intro Try.func17 rfl 0 [] rfl w17 rfl rfl fun I w => ?_
  refine WP.seq ?_
  refine WP.region ?_
  refine WPl.v rfl (o_assign rfl) ?_
  refine WPl.nil ?_
  refine EX.then ?_
  refine WP.seq ?_
  refine WP.region ?_
  refine WPl.cs 2 rfl rfl rfl rfl (o_sig 0 id c67 e67 rfl rfl rfl w67 trivial r67) ?_
  refine WPl.v rfl (o_move rfl) ?_
  refine WPl.v rfl (o_extract rfl rfl) ?_
  refine WPl.v rfl (o_extract rfl rfl) ?_
  refine WPl.l 2 3 rfl rfl rfl (o_alloc Z28) ?_
  refine WPl.l 3 4 rfl rfl rfl (o_alloc Z28) ?_
  refine WPl.s1 (o_stag G28 rfl rfl rfl ⟨rfl, rfl, rfl, rfl, rfl, rfl, rfl, rfl, rfl, rfl, (.inl ⟨_, (lx rfl), PL.one⟩), trivial⟩ rfl rfl) ?_
  refine WPl.s1 (o_stag G28 rfl rfl rfl ⟨rfl, rfl, rfl, rfl, rfl, rfl, rfl, rfl, rfl, rfl, (.inl ⟨_, (lx rfl), PL.one⟩), trivial⟩ rfl rfl) ?_
  refine WPl.nil ?_
  refine EX.then ?_
  refine WP.seq ?_
  refine WP.region ?_
  refine WPl.v rfl (o_ldpa G28 rfl rfl rfl) ?_
  refine WPl.x 4 5 rfl rfl rfl (OpG.settle0 (o_bsl (E := EP.int) (l := [1, 1, 1]) R29 rfl rfl (.cons (rfl) rfl (eok_int) (.cons (rfl) rfl (eok_int) (.cons (rfl) rfl (eok_int) (.nil)))) rfl rfl)) ?_
  refine WPl.cs 5 rfl rfl rfl rfl (o_sig 5 (ren [(0, 0), (1, 4)]) (c40 exM [1, 1, 1] (by decide)) e40 rfl rfl rfl w40 ⟨(lx rfl), (lx rfl), trivial⟩ r40) ?_
  refine WPl.v rfl (o_move rfl) ?_
  refine WPl.v rfl (o_extract rfl rfl) ?_
  refine WPl.v rfl (o_extract rfl rfl) ?_
  refine WPl.v rfl (o_assign rfl) ?_
  refine WPl.v rfl (o_assign rfl) ?_
  refine WPl.nil ?_
  refine EX.then ?_
  refine WP.seq ?_
  refine WP.region ?_
  refine WPl.v rfl (o_ldpa G28 rfl rfl rfl) ?_
  refine WPl.x 5 6 rfl rfl rfl (OpG.settle0 (o_bsl (E := EP.int) (l := [0, 1, 0]) R29 rfl rfl (.cons (rfl) rfl (eok_int) (.cons (rfl) rfl (eok_int) (.cons (rfl) rfl (eok_int) (.nil)))) rfl rfl)) ?_
  refine WPl.cs 7 rfl rfl rfl rfl (o_sig 6 (ren [(0, 0), (1, 5)]) (c22 exM [0, 1, 0] (by decide)) e22 rfl rfl rfl w22 ⟨(lx rfl), (lx rfl), trivial⟩ r22) ?_
  refine WPl.v rfl (o_move rfl) ?_
  refine WPl.v rfl (o_extract rfl rfl) ?_
  refine WPl.v rfl (o_extract rfl rfl) ?_
  refine WPl.v rfl (o_assign rfl) ?_
  refine WPl.v rfl (o_assign rfl) ?_
  refine WPl.nil ?_
  refine EX.then ?_
  refine WP.seq ?_
  refine WP.region ?_
  refine WPl.v rfl (o_ldpa G28 rfl rfl rfl) ?_
  refine WPl.x 7 8 rfl rfl rfl (OpG.settle0 (o_bsl (E := EP.int) (l := [1, 1, 0]) R29 rfl rfl (.cons (rfl) rfl (eok_int) (.cons (rfl) rfl (eok_int) (.cons (rfl) rfl (eok_int) (.nil)))) rfl rfl)) ?_
  refine WPl.cs 8 rfl rfl rfl rfl (o_sig 8 (ren [(0, 0), (1, 7)]) (c27 exM [1, 1, 0] (by decide)) e27 rfl rfl rfl w27 ⟨(lx rfl), (lx rfl), trivial⟩ r27) ?_
  refine WPl.v rfl (o_move rfl) ?_
  refine WPl.v rfl (o_extract rfl rfl) ?_
  refine WPl.v rfl (o_extract rfl rfl) ?_
  refine WPl.l 8 9 rfl rfl rfl (o_alloc Z23) ?_
  refine WPl.s1 (o_stag G23 rfl rfl rfl ⟨rfl, rfl, trivial⟩ rfl rfl) ?_
  refine WPl.v rfl (o_assign rfl) ?_
  refine WPl.nil ?_
  refine EX.then ?_
  refine WP.seq ?_
  refine WP.region ?_
  refine WPl.v rfl (o_ldpa G28 rfl rfl rfl) ?_
  refine WPl.cs 9 rfl rfl rfl rfl (o_sig 9 (ren [(0, 0)]) (c58 exM (by decide)) e58 rfl rfl rfl w58 ⟨(lx rfl), trivial⟩ r58) ?_
  refine WPl.v rfl (o_move rfl) ?_
  refine WPl.v rfl (o_extract rfl rfl) ?_
  refine WPl.v rfl (o_extract rfl rfl) ?_
  refine WPl.v rfl (o_assign rfl) ?_
  refine WPl.v rfl (o_assign rfl) ?_
  refine WPl.nil ?_
  refine EX.then ?_
  refine WP.seq ?_
  refine WP.region ?_
  refine WPl.v rfl (o_ldpa G28 rfl rfl rfl) ?_
  refine WPl.cs 9 rfl rfl rfl rfl (o_sig 9 (ren [(0, 0)]) (c62 exM (by decide)) e62 rfl rfl rfl w62 ⟨(lx rfl), trivial⟩ r62) ?_
  refine WPl.v rfl (o_move rfl) ?_
  refine WPl.v rfl (o_extract rfl rfl) ?_
  refine WPl.v rfl (o_extract rfl rfl) ?_
  refine WPl.v rfl (o_assign rfl) ?_
  refine WPl.v rfl (o_assign rfl) ?_
  refine WPl.nil ?_
  refine EX.then ?_
  refine WP.seq ?_
  refine WP.region ?_
  refine WPl.v rfl (o_ldpa G28 rfl rfl rfl) ?_
  refine WPl.cs 9 rfl rfl rfl rfl (o_sig 9 (ren [(0, 0)]) (c32 exM (by decide)) e32 rfl rfl rfl w32 ⟨(lx rfl), trivial⟩ r32) ?_
  refine WPl.v rfl (o_move rfl) ?_
  refine WPl.v rfl (o_extract rfl rfl) ?_
  refine WPl.v rfl (o_extract rfl rfl) ?_
  refine WPl.v rfl (o_assign rfl) ?_
  refine WPl.v rfl (o_assign rfl) ?_
  refine WPl.nil ?_
  refine EX.then ?_
  refine WP.seq ?_
  refine WP.region ?_
  refine WPl.v rfl (o_move rfl) ?_
  refine WPl.v rfl (o_eql rfl rfl) ?_
  refine WPl.imp (Imp.bitF 53 (b' := true) rfl (decide_eq_true exM_sE)) ?_
  refine WPl.v rfl (o_move rfl) ?_
  refine WPl.on rfl ⟨_, _, rfl, rfl, rfl⟩ (o_move rfl) ?_
  refine WPl.on rfl ⟨_, _, rfl, rfl, rfl⟩ (o_eql rfl rfl) ?_
  refine WPl.imp (Imp.bitF 56 (b' := true) rfl (decide_eq_true exM_fE)) ?_
  refine WPl.v rfl (o_pickT rfl rfl) ?_
  refine WPl.v rfl (o_move rfl) ?_
  refine WPl.on rfl ⟨_, _, rfl, rfl, rfl⟩ (o_move rfl) ?_
  refine WPl.on rfl ⟨_, _, rfl, rfl, rfl⟩ (o_eql rfl rfl) ?_
  refine WPl.imp (Imp.bitF 60 (b' := true) rfl (decide_eq_true exM_lE)) ?_
  refine WPl.v rfl (o_pickT rfl rfl) ?_
  refine WPl.v rfl (o_move rfl) ?_
  refine WPl.on rfl ⟨_, _, rfl, rfl, rfl⟩ (o_move rfl) ?_
  refine WPl.on rfl ⟨_, _, rfl, rfl, rfl⟩ (o_eql rfl rfl) ?_
  refine WPl.imp (Imp.bitF 64 (b' := true) rfl (decide_eq_true exM_cE)) ?_
  refine WPl.v rfl (o_pickT rfl rfl) ?_
  refine WPl.v rfl (o_move rfl) ?_
  refine WPl.on rfl ⟨_, _, rfl, rfl, rfl⟩ (o_move rfl) ?_
  refine WPl.on rfl ⟨_, _, rfl, rfl, rfl⟩ (o_eql rfl rfl) ?_
  refine WPl.imp (Imp.bitF 68 (b' := true) rfl (decide_eq_true exM_tE)) ?_
  refine WPl.v rfl (o_pickT rfl rfl) ?_
  refine WPl.v rfl (o_move rfl) ?_
  refine WPl.on rfl ⟨_, _, rfl, rfl, rfl⟩ (o_move rfl) ?_
  refine WPl.on rfl ⟨_, _, rfl, rfl, rfl⟩ (o_eql rfl rfl) ?_
  refine WPl.imp (Imp.bitF 72 (b' := true) rfl (decide_eq_true exM_wE)) ?_
  refine WPl.v rfl (o_pickT rfl rfl) ?_
  refine WPl.v rfl (o_move rfl) ?_
  refine WPl.on rfl ⟨_, _, rfl, rfl, rfl⟩ (o_move rfl) ?_
  refine WPl.on rfl ⟨_, _, rfl, rfl, rfl⟩ (o_eql rfl rfl) ?_
  refine WPl.v rfl (o_pickT rfl rfl) ?_
  refine WPl.v rfl (o_move rfl) ?_
  rw [exM_f]
  refine WPl.bit 9 10 (decide ((exM.mSafe [1, 1, 1]) = 1)) rfl rfl ?_
  refine WPl.gv 9 rfl rfl (.plain rfl Iff.rfl rfl) (fun hb => o_move rfl) ?_
  refine WPl.gx 9 10 11 rfl rfl rfl rfl (.plain rfl Iff.rfl rfl) (fun hb => OpG.settle0 (o_bsl (E := EP.int) (l := [1, 4]) R29 rfl rfl (.cons (rfl) rfl (eok_int) (.cons (rfl) rfl (eok_int) (.nil))) rfl rfl)) ?_
  refine WPl.gc0 9 rfl rfl (.plain rfl Iff.rfl rfl) (fun hb => o_sig 11 (ren [(0, 6), (1, 10)]) (c44 [1, 4] [1, 4] (by decide)) e44 rfl rfl rfl w44 ⟨(lx rfl), (lxi hb rfl), trivial⟩ r44) ?_
  refine WPl.v rfl (o_and rfl rfl rfl id) ?_
  refine WPl.v rfl (o_move rfl) ?_
  refine WPl.bit 11 12 ((decide ((exM.mSafe [1, 1, 1]) = 1)) && (sameInts [1, 4] [1, 4])) rfl rfl ?_
  refine WPl.gv 11 rfl rfl (.plain rfl Iff.rfl rfl) (fun hb => o_ldpa G23 rfl rfl rfl) ?_
  refine WPl.gv 11 rfl rfl (.plain rfl Iff.rfl rfl) (fun hb => o_build B23 rfl ⟨rfl, rfl, trivial⟩ rfl rfl) ?_
  refine WPl.gv 11 rfl rfl (.plain rfl Iff.rfl rfl) (fun hb => o_eqs (a := [(exM.mLead [1, 1, 0]).1, (exM.mLead [1, 1, 0]).2]) (b := [4, 53]) Q23 rfl Try.eqGuardType23 rfl rfl rfl rfl) ?_
  refine WPl.v rfl (o_and rfl rfl rfl id) ?_
  refine WPl.v rfl (o_move rfl) ?_
  refine WPl.bit 12 13 (((decide ((exM.mSafe [1, 1, 1]) = 1)) && (sameInts [1, 4] [1, 4])) && (decide ([(exM.mLead [1, 1, 0]).1, (exM.mLead [1, 1, 0]).2] = [4, 53]))) rfl rfl ?_
  refine WPl.gv 12 rfl rfl (.plain rfl Iff.rfl rfl) (fun hb => o_move rfl) ?_
  refine WPl.gv 12 rfl rfl (.plain rfl Iff.rfl rfl) (fun hb => o_eql rfl rfl) ?_
  refine WPl.v rfl (o_and rfl rfl rfl id) ?_
  refine WPl.v rfl (o_move rfl) ?_
  refine WPl.bit 13 14 ((((decide ((exM.mSafe [1, 1, 1]) = 1)) && (sameInts [1, 4] [1, 4])) && (decide ([(exM.mLead [1, 1, 0]).1, (exM.mLead [1, 1, 0]).2] = [4, 53]))) && (decide (exM.mCheap = 60))) rfl rfl ?_
  refine WPl.gv 13 rfl rfl (.plain rfl Iff.rfl rfl) (fun hb => o_move rfl) ?_
  refine WPl.gv 13 rfl rfl (.plain rfl Iff.rfl rfl) (fun hb => o_eql rfl rfl) ?_
  refine WPl.v rfl (o_and rfl rfl rfl id) ?_
  refine WPl.v rfl (o_move rfl) ?_
  refine WPl.bit 14 15 (((((decide ((exM.mSafe [1, 1, 1]) = 1)) && (sameInts [1, 4] [1, 4])) && (decide ([(exM.mLead [1, 1, 0]).1, (exM.mLead [1, 1, 0]).2] = [4, 53]))) && (decide (exM.mCheap = 60))) && (decide (exM.mTin = 6))) rfl rfl ?_
  refine WPl.gv 14 rfl rfl (.plain rfl Iff.rfl rfl) (fun hb => o_move rfl) ?_
  refine WPl.gv 14 rfl rfl (.plain rfl Iff.rfl rfl) (fun hb => o_eql rfl rfl) ?_
  refine WPl.v rfl (o_and rfl rfl rfl id) ?_
  refine WPl.v rfl (o_assign rfl) ?_
  refine WPl.nil ?_
  refine EX.then ?_
  refine WP.ret ?_
  rw [exM_s, exM_l, exM_c, exM_t, exM_w]
  exact EX.fin id (.inl rfl) rfl (.tmp rfl .nil) rfl (by simp [SV.res, El.res, At.res, keys]) trivial (by simp) (by simp)
end Go.Flong
namespace Go.Flong
open Go Go.Eng Go.Proofs
theorem w23 {l : List Int} {n : Int} : ∀ x ∈ ([.e (.a (.q 0)), .i (n)] : List SV), x.res (keys (α := Pred) [(0, PL EP.int (l))]) := by simp [SV.res, El.res, At.res, keys]
theorem r23 {l : List Int} {n : Int} : SV.res (keys (α := Pred) []) (.b (inL l n)) := by simp [SV.res, El.res, At.res, keys]
set_option maxHeartbeats 4000000 in
theorem c23 (l : List Int) (n : Int) (hl : l.length ≤ 1000000) : Sig Try.prog 23 [.e (.a (.q 0)), .i (n)] [(0, PL EP.int (l))] (.b (inL l n)) [] := by
  refine Sig.intro Try.func23 rfl 1 [(0, .e (.a (.q 0))), (1, .i (n))] rfl w23 rfl rfl fun I w => ?_
  refine WP.seq ?_
  refine WP.region ?_
  refine WPl.v rfl (o_assign rfl) ?_
  refine WPl.nil ?_
  refine EX.then ?_
  refine WP.seq ?_
  refine WP.seq ?_
  refine WP.region ?_
  refine WPl.v rfl (o_assign rfl) ?_
  refine WPl.nil ?_
  refine EX.then ?_
  refine WP.block ?_
  refine WP.loop (Gh := Nat) (fun i => ⟨1, [(0, .e (.a (.q 0))), (1, .i (n)), (4, .b (false)), (5, .i ((i : Int)))], [(0, PL EP.int (l))], [], [], []⟩) (fun i => i ≤ l.length ∧ allI (fun j => !decide (nth l j = n)) i = true) (fun i => l.length - i) (0) id ?_ (LeR.of ⟨rfl, rfl, rfl, rfl, trivial⟩ ⟨(lx rfl), trivial⟩ trivial rfl rfl rfl rfl rfl) ?_
  · exact ⟨by omega, rfl⟩
  intro i hφ
  have hi : i ≤ l.length := hφ.1
  have hall := hφ.2
  refine WP.seq ?_
  refine WP.seq ?_
  refine WP.region ?_
  refine WPl.v rfl (o_move rfl) ?_
  refine WPl.v rfl (o_move rfl) ?_
  refine WPl.v rfl (o_lenq L29 rfl (lx rfl)) ?_
  refine WPl.v rfl (o_lss rfl rfl) ?_
  refine WPl.nil ?_
  refine EX.then ?_
  refine WP.cond rfl (fun hc1 => ?_) (fun hc1 => ?_)
  · try simp only [decide_eq_true_eq, decide_eq_false_iff_not, Bool.and_eq_true, Bool.or_eq_true, Bool.and_eq_false_iff, Bool.or_eq_false_iff, Bool.not_eq_true', Bool.not_eq_false', ne_eq, Decidable.not_not] at hc1
    refine WP.skip ?_
    refine EX.then ?_
    refine WP.seq ?_
    refine WP.block ?_
    refine WP.seq ?_
    refine WP.region ?_
    refine WPl.v rfl (o_move rfl) ?_
    refine WPl.v rfl (o_move rfl) ?_
    refine WPl.x 1 2 rfl rfl rfl (o_idx L29 rfl (lx rfl) rfl (by first | omega | (simp; omega)) (by first | omega | (simp; omega))) ?_
    refine WPl.v rfl (o_ldq S3 rfl (lx rfl) intc) ?_
    refine WPl.v rfl (o_move rfl) ?_
    refine WPl.v rfl (o_eql rfl rfl) ?_
    refine WPl.nil ?_
    refine EX.then ?_
    refine WP.cond rfl (fun hc2 => ?_) (fun hc2 => ?_)
    · try simp only [decide_eq_true_eq, decide_eq_false_iff_not, Bool.and_eq_true, Bool.or_eq_true, Bool.and_eq_false_iff, Bool.or_eq_false_iff, Bool.not_eq_true', Bool.not_eq_false', ne_eq, Decidable.not_not] at hc2
      refine WP.seq ?_
      refine WP.region ?_
      refine WPl.v rfl (o_assign rfl) ?_
      refine WPl.nil ?_
      refine EX.then ?_
      refine WP.ret ?_
      refine EX.ret_blk ?_
      refine EX.ret_then ?_
      refine EX.ret_then ?_
      refine EX.ret_blk ?_
      refine EX.ret_then ?_
      rw [show inL l n = true from by simp only [inL, Bool.not_eq_true']; exact not_allI (show i < l.length by omega) (by simpa using hc2)]
      exact EX.fin id (.inl rfl) rfl (.tmp rfl .nil) rfl (by simp [SV.res, El.res, At.res, keys]) trivial (by simp) (by simp)
    · try simp only [decide_eq_true_eq, decide_eq_false_iff_not, Bool.and_eq_true, Bool.or_eq_true, Bool.and_eq_false_iff, Bool.or_eq_false_iff, Bool.not_eq_true', Bool.not_eq_false', ne_eq, Decidable.not_not] at hc2
      refine WP.skip ?_
      refine EX.blk ?_
      refine EX.then ?_
      refine WP.region ?_
      refine WPl.v rfl (o_move rfl) ?_
      refine WPl.v rfl (o_add rfl rfl (by first | omega | (simp; omega)) (by first | omega | (simp; omega))) ?_
      refine WPl.v rfl (o_assign rfl) ?_
      refine WPl.nil ?_
      refine EX.again (i + 1) id (by exact ⟨by omega, by simp only [allI, hall, Bool.true_and]; simpa using hc2⟩) (by omega) (LeR.of ⟨rfl, rfl, rfl, rfl, trivial⟩ ⟨(lx rfl), trivial⟩ trivial rfl rfl rfl rfl rfl)
  · try simp only [decide_eq_true_eq, decide_eq_false_iff_not, Bool.and_eq_true, Bool.or_eq_true, Bool.and_eq_false_iff, Bool.or_eq_false_iff, Bool.not_eq_true', Bool.not_eq_false', ne_eq, Decidable.not_not] at hc1
    refine WP.exit ?_
    refine EX.exit_then ?_
    refine EX.exit_then ?_
    refine EX.exit_blk ?_
    refine EX.then ?_
    refine WP.seq ?_
    refine WP.region ?_
    refine WPl.v rfl (o_assign rfl) ?_
    refine WPl.nil ?_
    refine EX.then ?_
    refine WP.ret ?_
    have he : i = l.length := by omega
    subst he
    rw [show inL l n = false from by simp only [inL, hall]; rfl]
    exact EX.fin id (.inl rfl) rfl (.tmp rfl .nil) rfl (by simp [SV.res, El.res, At.res, keys]) trivial (by simp) (by simp)
end Go.Flong
namespace Go.Flong
open Go Go.Eng Go.Proofs
theorem e15 : Enters' Try.prog 15 := Try.call15
theorem F40_0 : Fld Try.prog 40 0 0 := .mk Try.underlying40 rfl rfl rfl Try.sizeOf23 rfl
theorem e16 : Enters' Try.prog 16 := Try.call16
theorem F40_1 : Fld Try.prog 40 1 2 := .mk Try.underlying40 rfl rfl rfl Try.sizeOf23 rfl
theorem e17 : Enters' Try.prog 17 := Try.call17
theorem e19 : Enters' Try.prog 19 := Try.call19
theorem e20 : Enters' Try.prog 20 := Try.call20
theorem e23 : Enters' Try.prog 23 := Try.call23
theorem w4 {s : Shop} {a b c d : Int} {add : List Int} : ∀ x ∈ ([.e (.g [ai (s.pounds), ai (s.tl), ai (s.th), ai (s.al), ai (s.ah), ai (s.room), ai (s.tpl), ai (s.tph), ai (s.apl), ai (s.aph), .q 0]), .e (.g [ai (a), ai (b), ai (c), ai (d)]), .e (.a (.q 1))] : List SV), x.res (keys (α := Pred) [(0, PL EPig (s.pigs)), (1, PL EP.int (add))]) := by simp [SV.res, El.res, At.res, keys]
theorem r4  : SV.res (keys (α := Pred) []) (.b (true)) := by simp [SV.res, El.res, At.res, keys]
set_option maxHeartbeats 4000000 in
theorem c4 (s : Shop) (a b c d : Int) (add : List Int) (hlaw : s.ready = true → insideS s.tpl s.tph a b = true → insideS s.apl s.aph c d = true → (s.parts a b c d).ready = true → WideLaw s a b c d add) : Sig Try.prog 4 [.e (.g [ai (s.pounds), ai (s.tl), ai (s.th), ai (s.al), ai (s.ah), ai (s.room), ai (s.tpl), ai (s.tph), ai (s.apl), ai (s.aph), .q 0]), .e (.g [ai (a), ai (b), ai (c), ai (d)]), .e (.a (.q 1))] [(0, PL EPig (s.pigs)), (1, PL EP.int (add))] (.b (true)) [] := by
  refine Sig.intro Try.func4 rfl 2 [(0, .e (.g [ai (s.pounds), ai (s.tl), ai (s.th), ai (s.al), ai (s.ah), ai (s.room), ai (s.tpl), ai (s.tph), ai (s.apl), ai (s.aph), .q 0])), (1, .e (.g [ai (a), ai (b), ai (c), ai (d)])), (2, .e (.a (.q 1)))] rfl w4 rfl rfl fun I w => ?_
  refine WP.seq ?_
  refine WP.region ?_
  refine WPl.l 2 3 rfl rfl rfl (o_boxg rfl) ?_
  refine WPl.l 3 4 rfl rfl rfl (o_boxg rfl) ?_
  refine WPl.v rfl (o_assign rfl) ?_
  refine WPl.nil ?_
  refine EX.then ?_
  refine WP.seq ?_
  refine WP.seq ?_
  refine WP.region ?_
  refine WPl.v rfl (o_ldpa G28 rfl rfl rfl) ?_
  refine WPl.cs 4 rfl rfl rfl rfl (o_sig 4 (ren [(0, 0)]) (c15 s) e15 rfl rfl rfl w15 ⟨(lx rfl), trivial⟩ r15) ?_
  refine WPl.v rfl (o_not rfl) ?_
  refine WPl.v rfl (o_move rfl) ?_
  refine WPl.bit 4 5 (!(!s.ready)) rfl rfl ?_
  refine WPl.gv 4 rfl rfl (.plain rfl (by simp) rfl) (fun hb => o_fldp F28_2 rfl) ?_
  refine WPl.gv 4 rfl rfl (.plain rfl (by simp) rfl) (fun hb => o_ldpg G23 rfl rfl rfl) ?_
  refine WPl.gv 4 rfl rfl (.plain rfl (by simp) rfl) (fun hb => o_fldp F40_0 rfl) ?_
  refine WPl.gv 4 rfl rfl (.plain rfl (by simp) rfl) (fun hb => o_ldpg G23 rfl rfl rfl) ?_
  refine WPl.gc0 4 rfl rfl (.plain rfl (by simp) rfl) (fun hb => o_sig 5 id (c16 s.tpl s.tph a b) e16 rfl rfl rfl w16 trivial r16) ?_
  refine WPl.gv 4 rfl rfl (.plain rfl (by simp) rfl) (fun hb => o_not rfl) ?_
  refine WPl.v rfl (o_or rfl rfl rfl (by first | (simp; done) | simp_all)) ?_
  refine WPl.v rfl (o_move rfl) ?_
  refine WPl.bit 5 6 (!((!s.ready) || (!(insideS s.tpl s.tph a b)))) rfl rfl ?_
  refine WPl.gv 5 rfl rfl (.plain rfl (by simp) rfl) (fun hb => o_fldp F28_3 rfl) ?_
  refine WPl.gv 5 rfl rfl (.plain rfl (by simp) rfl) (fun hb => o_ldpg G23 rfl rfl rfl) ?_
  refine WPl.gv 5 rfl rfl (.plain rfl (by simp) rfl) (fun hb => o_fldp F40_1 rfl) ?_
  refine WPl.gv 5 rfl rfl (.plain rfl (by simp) rfl) (fun hb => o_ldpg G23 rfl rfl rfl) ?_
  refine WPl.gc0 5 rfl rfl (.plain rfl (by simp) rfl) (fun hb => o_sig 6 id (c16 s.apl s.aph c d) e16 rfl rfl rfl w16 trivial r16) ?_
  refine WPl.gv 5 rfl rfl (.plain rfl (by simp) rfl) (fun hb => o_not rfl) ?_
  refine WPl.v rfl (o_or rfl rfl rfl (by first | (simp; done) | simp_all)) ?_
  refine WPl.nil ?_
  refine EX.then ?_
  refine WP.cond rfl (fun hc1 => ?_) (fun hc1 => ?_)
  · try simp only [decide_eq_true_eq, decide_eq_false_iff_not, Bool.and_eq_true, Bool.or_eq_true, Bool.and_eq_false_iff, Bool.or_eq_false_iff, Bool.not_eq_true', Bool.not_eq_false', ne_eq, Decidable.not_not] at hc1
    refine WP.seq ?_
    refine WP.region ?_
    refine WPl.cs 6 rfl rfl rfl rfl (o_sig 6 id c17 e17 rfl rfl rfl w17 trivial r17) ?_
    refine WPl.v rfl (o_assign rfl) ?_
    refine WPl.nil ?_
    refine EX.then ?_
    refine WP.ret ?_
    refine EX.ret_then ?_
    exact EX.fin id (.inl rfl) rfl (.tmp rfl .nil) rfl r4 trivial (by simp) (by simp)
  · try simp only [decide_eq_true_eq, decide_eq_false_iff_not, Bool.and_eq_true, Bool.or_eq_true, Bool.and_eq_false_iff, Bool.or_eq_false_iff, Bool.not_eq_true', Bool.not_eq_false', ne_eq, Decidable.not_not] at hc1
    obtain ⟨⟨hr, hi1⟩, hi2⟩ : (s.ready = true ∧ insideS s.tpl s.tph a b = true) ∧ insideS s.apl s.aph c d = true := by simpa using hc1
    have hs : s.chk = true := ready_chk hr
    have hl4 := (Shop.pigsOK hs).2
    refine WP.skip ?_
    refine EX.then ?_
    refine WP.seq ?_
    refine WP.region ?_
    refine WPl.v rfl (o_ldpa G28 rfl rfl rfl) ?_
    refine WPl.cs 7 rfl rfl rfl rfl (o_sig 6 (ren [(0, 0)]) (c18 s (by omega)) e18 rfl rfl rfl w18 ⟨(lx rfl), trivial⟩ r18) ?_
    refine WPl.l 7 8 rfl rfl rfl (o_alloc Z28) ?_
    refine WPl.s1 (o_stag G28 rfl rfl rfl ⟨rfl, rfl, rfl, rfl, rfl, rfl, rfl, rfl, rfl, rfl, (.inl ⟨_, (lx rfl), PL.one⟩), trivial⟩ rfl rfl) ?_
    refine WPl.nil ?_
    refine EX.then ?_
    refine WP.seq ?_
    refine WP.draw (nf := 8) [⟨[37, 38], [], [], [], []⟩, ⟨[37, 38], [], [], [], [0]⟩, ⟨[35, 36, 39], [7], [], [], []⟩, ⟨[35, 36, 39], [7], [], [], [2]⟩, ⟨[37, 38], [], [], [], [0, 1]⟩, ⟨[37, 38], [], [], [7], [0, 1, 4]⟩, ⟨[], [], [], [], [0, 1, 2, 3, 4, 5]⟩, ⟨[], [], [], [7], [0, 1, 2, 3, 4, 5, 6]⟩] (by kernel_rfl) (by kernel_rfl) ?_
    refine DRQ.v rfl rfl rfl (o_fldp F40_0 rfl) ?_
    refine DRQ.v rfl rfl rfl (o_ldpg G23 rfl rfl rfl) ?_
    refine DRQ.v rfl rfl rfl (o_fldp F40_1 rfl) ?_
    refine DRQ.v rfl rfl rfl (o_ldpg G23 rfl rfl rfl) ?_
    refine DRQ.v rfl rfl rfl (o_fldp F28_2 rfl) ?_
    refine DRQ.s 7 rfl rfl rfl (o_stag G23 rfl rfl rfl ⟨rfl, rfl, trivial⟩ rfl rfl) ?_
    refine DRQ.v rfl rfl rfl (o_fldp F28_3 rfl) ?_
    refine DRQ.s 7 rfl rfl rfl (o_stag G23 rfl rfl rfl ⟨rfl, rfl, trivial⟩ rfl rfl) ?_
    refine DRQ.nil' ?_
    refine EX.then ?_
    refine WP.seq ?_
    refine WP.seq ?_
    refine WP.region ?_
    refine WPl.v rfl (o_ldpa G28 rfl rfl rfl) ?_
    refine WPl.cs 8 rfl rfl rfl rfl (o_sig 8 (ren [(0, 6)]) (c15 (s.parts a b c d)) e15 rfl rfl rfl w15 ⟨(lx rfl), trivial⟩ r15) ?_
    refine WPl.v rfl (o_not rfl) ?_
    refine WPl.nil ?_
    refine EX.then ?_
    refine WP.cond rfl (fun hc2 => ?_) (fun hc2 => ?_)
    · try simp only [decide_eq_true_eq, decide_eq_false_iff_not, Bool.and_eq_true, Bool.or_eq_true, Bool.and_eq_false_iff, Bool.or_eq_false_iff, Bool.not_eq_true', Bool.not_eq_false', ne_eq, Decidable.not_not] at hc2
      refine WP.seq ?_
      refine WP.region ?_
      refine WPl.cs 8 rfl rfl rfl rfl (o_sig 8 id c17 e17 rfl rfl rfl w17 trivial r17) ?_
      refine WPl.v rfl (o_assign rfl) ?_
      refine WPl.nil ?_
      refine EX.then ?_
      refine WP.ret ?_
      refine EX.ret_then ?_
      exact EX.fin id (.inl rfl) rfl (.tmp rfl .nil) rfl r4 trivial (by simp) (by simp)
    · try simp only [decide_eq_true_eq, decide_eq_false_iff_not, Bool.and_eq_true, Bool.or_eq_true, Bool.and_eq_false_iff, Bool.or_eq_false_iff, Bool.not_eq_true', Bool.not_eq_false', ne_eq, Decidable.not_not] at hc2
      have hr2 : (s.parts a b c d).ready = true := by simpa using hc2
      have law := hlaw hr hi1 hi2 hr2
      have ho := ready_chk hr2
      have ho4 : (s.parts a b c d).pigs.length ≤ 4 := hl4
      refine WP.skip ?_
      refine EX.then ?_
      refine WP.seq ?_
      refine WP.seq ?_
      refine WP.region ?_
      refine WPl.v rfl (o_ldpa G28 rfl rfl rfl) ?_
      refine WPl.v rfl (o_ldpa G28 rfl rfl rfl) ?_
      refine WPl.cs 8 rfl rfl rfl rfl (o_sig 8 (ren [(0, 6), (1, 0)]) (c19 (s.parts a b c d) s ho hs) e19 rfl rfl rfl w19 ⟨(lx rfl), (lx rfl), trivial⟩ r19) ?_
      refine WPl.v rfl (o_not rfl) ?_
      refine WPl.nil ?_
      refine EX.then ?_
      refine WP.cond rfl (fun hc3 => ?_) (fun hc3 => ?_)
      · try simp only [decide_eq_true_eq, decide_eq_false_iff_not, Bool.and_eq_true, Bool.or_eq_true, Bool.and_eq_false_iff, Bool.or_eq_false_iff, Bool.not_eq_true', Bool.not_eq_false', ne_eq, Decidable.not_not] at hc3
        rw [law.l] at hc3
        simp at hc3
      · try simp only [decide_eq_true_eq, decide_eq_false_iff_not, Bool.and_eq_true, Bool.or_eq_true, Bool.and_eq_false_iff, Bool.or_eq_false_iff, Bool.not_eq_true', Bool.not_eq_false', ne_eq, Decidable.not_not] at hc3
        refine WP.skip ?_
        refine EX.then ?_
        refine WP.seq ?_
        refine WP.seq ?_
        refine WP.region ?_
        refine WPl.v rfl (o_ldpa G28 rfl rfl rfl) ?_
        refine WPl.v rfl (o_move rfl) ?_
        refine WPl.cs 8 rfl rfl rfl rfl (o_sig 8 (ren [(0, 0), (1, 1)]) (c20 s add hs) e20 rfl rfl rfl w20 ⟨(lx rfl), (lx rfl), trivial⟩ r20) ?_
        refine WPl.v rfl (o_not rfl) ?_
        refine WPl.nil ?_
        refine EX.then ?_
        refine WP.cond rfl (fun hc4 => ?_) (fun hc4 => ?_)
        · try simp only [decide_eq_true_eq, decide_eq_false_iff_not, Bool.and_eq_true, Bool.or_eq_true, Bool.and_eq_false_iff, Bool.or_eq_false_iff, Bool.not_eq_true', Bool.not_eq_false', ne_eq, Decidable.not_not] at hc4
          refine WP.seq ?_
          refine WP.region ?_
          refine WPl.cs 8 rfl rfl rfl rfl (o_sig 8 id c17 e17 rfl rfl rfl w17 trivial r17) ?_
          refine WPl.v rfl (o_assign rfl) ?_
          refine WPl.nil ?_
          refine EX.then ?_
          refine WP.ret ?_
          refine EX.ret_then ?_
          exact EX.fin id (.inl rfl) rfl (.tmp rfl .nil) rfl r4 trivial (by simp) (by simp)
        · try simp only [decide_eq_true_eq, decide_eq_false_iff_not, Bool.and_eq_true, Bool.or_eq_true, Bool.and_eq_false_iff, Bool.or_eq_false_iff, Bool.not_eq_true', Bool.not_eq_false', ne_eq, Decidable.not_not] at hc4
          have hv : isAdd s add = true := (by simpa using hc4 : (add.length : Int) ≤ 40 ∧ isAdd s add = true).2
          have hal := (isAddB (Shop.pigsOK hs) hv).1
          have hv2 : isAdd (s.parts a b c d) add = true := hv
          have hsub := law.f hv
          have hsl := hsub.length_le
          have hk4 : (s.mFails add).length ≤ 4 := by rw [mFails_eq hs hv]; exact mFailsTo_len s add 4
          have hE1 := (mSafe_in hs hv).1
          have hE2 := (mSafe_in ho hv2).1
          refine WP.skip ?_
          refine EX.then ?_
          refine WP.seq ?_
          refine WP.draw (nf := 11) [⟨[56, 57, 58], [8, 9], [], [], []⟩, ⟨[55, 57], [], [8], [8], []⟩, ⟨[55, 56], [8], [], [], []⟩, ⟨[55], [], [9], [9, 8], [1, 2]⟩, ⟨[], [], [10], [10], [0, 1, 2, 3]⟩, ⟨[], [], [], [], [0, 1, 2, 3, 4]⟩, ⟨[61], [], [], [], [0, 1, 2, 3, 4, 5]⟩, ⟨[60, 8], [], [], [], [0, 1, 2, 3, 4, 5]⟩, ⟨[61], [], [], [], [0, 1, 2, 3, 4, 5, 6]⟩, ⟨[], [], [], [], [0, 1, 2, 3, 4, 5, 6, 7, 8]⟩] (by kernel_rfl) (by kernel_rfl) ?_
          refine DRQ.v rfl rfl rfl (o_ldpa G28 rfl rfl rfl) ?_
          refine DRQ.l 8 rfl rfl rfl rfl (o_bsl (E := EP.int) (l := []) R29 rfl rfl (.nil) rfl rfl) ?_
          refine DRQ.v rfl rfl rfl (o_move rfl) ?_
          refine DRQ.u1 9 rfl rfl rfl (OpG.settle1 (.inl rfl) rfl (o_apps R29 EP.int_one rfl rfl rfl (lx rfl) (by first | omega | (simp; omega) | (simp at *; omega)) (by first | omega | (simp; omega) | (simp at *; omega)))) rfl ?_
          refine DRQ.cs rfl rfl rfl rfl (o_sig 10 (ren [(0, 0), (1, 9)]) (c22 s ([] ++ add) (by omega)) e22 rfl rfl rfl w22 ⟨(lx rfl), (lx rfl), trivial⟩ r22) ?_
          refine DRQ.v rfl rfl rfl (o_move rfl) ?_
          refine DRQ.v rfl rfl rfl (o_extract rfl rfl) ?_
          refine DRQ.v rfl rfl rfl (o_extract rfl rfl) ?_
          refine DRQ.v rfl rfl rfl (o_assign rfl) ?_
          refine DRQ.v rfl rfl rfl (o_assign rfl) ?_
          refine DRQ.nil' ?_
          refine EX.then ?_
          refine WP.seq ?_
          refine WP.draw (nf := 14) [⟨[64, 65, 66], [11, 12], [], [], []⟩, ⟨[63, 65], [], [11], [11], []⟩, ⟨[63, 64], [11], [], [], []⟩, ⟨[63], [], [12], [12, 11], [1, 2]⟩, ⟨[], [], [13], [13], [0, 1, 2, 3]⟩, ⟨[], [], [], [], [0, 1, 2, 3, 4]⟩, ⟨[69], [], [], [], [0, 1, 2, 3, 4, 5]⟩, ⟨[68, 10], [], [], [], [0, 1, 2, 3, 4, 5]⟩, ⟨[69], [], [], [], [0, 1, 2, 3, 4, 5, 6]⟩, ⟨[], [], [], [], [0, 1, 2, 3, 4, 5, 6, 7, 8]⟩] (by kernel_rfl) (by kernel_rfl) ?_
          refine DRQ.v rfl rfl rfl (o_ldpa G28 rfl rfl rfl) ?_
          refine DRQ.l 11 rfl rfl rfl rfl (o_bsl (E := EP.int) (l := []) R29 rfl rfl (.nil) rfl rfl) ?_
          refine DRQ.v rfl rfl rfl (o_move rfl) ?_
          refine DRQ.u1 12 rfl rfl rfl (OpG.settle1 (.inl rfl) rfl (o_apps R29 EP.int_one rfl rfl rfl (lx rfl) (by first | omega | (simp; omega) | (simp at *; omega)) (by first | omega | (simp; omega) | (simp at *; omega)))) rfl ?_
          refine DRQ.cs rfl rfl rfl rfl (o_sig 13 (ren [(0, 6), (1, 12)]) (c22 (s.parts a b c d) ([] ++ add) (by omega)) e22 rfl rfl rfl w22 ⟨(lx rfl), (lx rfl), trivial⟩ r22) ?_
          refine DRQ.v rfl rfl rfl (o_move rfl) ?_
          refine DRQ.v rfl rfl rfl (o_extract rfl rfl) ?_
          refine DRQ.v rfl rfl rfl (o_extract rfl rfl) ?_
          refine DRQ.v rfl rfl rfl (o_assign rfl) ?_
          refine DRQ.v rfl rfl rfl (o_assign rfl) ?_
          refine DRQ.nil' ?_
          refine EX.then ?_
          refine WP.seq ?_
          refine WP.seq ?_
          refine WP.region ?_
          refine WPl.v rfl (o_move rfl) ?_
          refine WPl.v rfl (o_neq rfl rfl) ?_
          refine WPl.v rfl (o_move rfl) ?_
          refine WPl.bit 14 15 (!(decide ((opE s (isAdd s ([] ++ add))) ≠ 0))) rfl rfl ?_
          refine WPl.gv 14 rfl rfl (.plain rfl (by simp) rfl) (fun hb => o_move rfl) ?_
          refine WPl.gv 14 rfl rfl (.plain rfl (by simp) rfl) (fun hb => o_neq rfl rfl) ?_
          refine WPl.v rfl (o_or rfl rfl rfl (by first | (simp; done) | simp_all)) ?_
          refine WPl.v rfl (o_move rfl) ?_
          refine WPl.bit 15 16 (!((decide ((opE s (isAdd s ([] ++ add))) ≠ 0)) || (decide ((opE (s.parts a b c d) (isAdd (s.parts a b c d) ([] ++ add))) ≠ 0)))) rfl rfl ?_
          refine WPl.gv 15 rfl rfl (.plain rfl (by simp) rfl) (fun hb => o_move rfl) ?_
          refine WPl.gv 15 rfl rfl (.plain rfl (by simp) rfl) (fun hb => o_lenq L29 rfl (lx rfl)) ?_
          refine WPl.gv 15 rfl rfl (.plain rfl (by simp) rfl) (fun hb => o_move rfl) ?_
          refine WPl.gv 15 rfl rfl (.plain rfl (by simp) rfl) (fun hb => o_lenq L29 rfl (lx rfl)) ?_
          refine WPl.gv 15 rfl rfl (.plain rfl (by simp) rfl) (fun hb => o_gtr rfl rfl) ?_
          refine WPl.v rfl (o_or rfl rfl rfl (by first | (simp; done) | simp_all)) ?_
          refine WPl.v rfl (o_move rfl) ?_
          refine WPl.bit 16 17 (!(((decide ((opE s (isAdd s ([] ++ add))) ≠ 0)) || (decide ((opE (s.parts a b c d) (isAdd (s.parts a b c d) ([] ++ add))) ≠ 0))) || (decide (((s.mFails ([] ++ add)).length : Int) < (((s.parts a b c d).mFails ([] ++ add)).length : Int))))) rfl rfl ?_
          refine WPl.gv 16 rfl rfl (.plain rfl (by simp) rfl) (fun hb => o_move rfl) ?_
          refine WPl.gv 16 rfl rfl (.plain rfl (by simp) rfl) (fun hb => o_lenq L29 rfl (lx rfl)) ?_
          refine WPl.gv 16 rfl rfl (.plain rfl (by simp) rfl) (fun hb => o_gtr rfl rfl) ?_
          refine WPl.v rfl (o_or rfl rfl rfl (by first | (simp; done) | simp_all)) ?_
          refine WPl.nil ?_
          refine EX.then ?_
          refine WP.cond rfl (fun hc5 => ?_) (fun hc5 => ?_)
          · try simp only [decide_eq_true_eq, decide_eq_false_iff_not, Bool.and_eq_true, Bool.or_eq_true, Bool.and_eq_false_iff, Bool.or_eq_false_iff, Bool.not_eq_true', Bool.not_eq_false', ne_eq, Decidable.not_not] at hc5
            exfalso
            rw [List.nil_append, hE1, hE2] at hc5
            simp at hc5
            omega
          · try simp only [decide_eq_true_eq, decide_eq_false_iff_not, Bool.and_eq_true, Bool.or_eq_true, Bool.and_eq_false_iff, Bool.or_eq_false_iff, Bool.not_eq_true', Bool.not_eq_false', ne_eq, Decidable.not_not] at hc5
            refine WP.skip ?_
            refine EX.then ?_
            refine WP.seq ?_
            refine WP.seq ?_
            refine WP.region ?_
            refine WPl.v rfl (o_assign rfl) ?_
            refine WPl.nil ?_
            refine EX.then ?_
            refine WP.block ?_
            refine WP.loop (Gh := Nat) (fun i => ⟨17, [(6, .b (false)), (8, .e (.a (.q 10))), (10, .e (.a (.q 13))), (12, .i ((i : Int)))], [(10, PL EP.int (s.mFails ([] ++ add))), (13, PL EP.int ((s.parts a b c d).mFails ([] ++ add)))], [], [], []⟩) (fun i => i ≤ ((s.parts a b c d).mFails ([] ++ add)).length) (fun i => ((s.parts a b c d).mFails ([] ++ add)).length - i) (0) id ?_ (LeR.of ⟨rfl, rfl, rfl, rfl, trivial⟩ ⟨(lx rfl), (lx rfl), trivial⟩ trivial rfl rfl rfl rfl rfl) ?_
            · first | trivial | omega | (constructor <;> omega) | simp
            intro i hφ
            try simp only [] at hφ
            refine WP.seq ?_
            refine WP.seq ?_
            refine WP.region ?_
            refine WPl.v rfl (o_move rfl) ?_
            refine WPl.v rfl (o_move rfl) ?_
            refine WPl.v rfl (o_lenq L29 rfl (lx rfl)) ?_
            refine WPl.v rfl (o_lss rfl rfl) ?_
            refine WPl.nil ?_
            refine EX.then ?_
            refine WP.cond rfl (fun hc6 => ?_) (fun hc6 => ?_)
            · try simp only [decide_eq_true_eq, decide_eq_false_iff_not, Bool.and_eq_true, Bool.or_eq_true, Bool.and_eq_false_iff, Bool.or_eq_false_iff, Bool.not_eq_true', Bool.not_eq_false', ne_eq, Decidable.not_not] at hc6
              refine WP.skip ?_
              refine EX.then ?_
              refine WP.seq ?_
              refine WP.block ?_
              refine WP.seq ?_
              refine WP.region ?_
              refine WPl.v rfl (o_move rfl) ?_
              refine WPl.v rfl (o_move rfl) ?_
              refine WPl.v rfl (o_move rfl) ?_
              refine WPl.x 17 18 rfl rfl rfl (o_idx L29 rfl (lx rfl) rfl (by first | omega | (simp; omega)) (by first | omega | (simp; omega))) ?_
              refine WPl.v rfl (o_ldq S3 rfl (lx rfl) intc) ?_
              refine WPl.cs 18 rfl rfl rfl rfl (o_sig 18 (ren [(0, 10)]) (c23 (s.mFails ([] ++ add)) (nth ((s.parts a b c d).mFails ([] ++ add)) (i : Int)) (by rw [List.nil_append]; omega)) e23 rfl rfl rfl w23 ⟨(lx rfl), trivial⟩ r23) ?_
              refine WPl.v rfl (o_not rfl) ?_
              refine WPl.nil ?_
              refine EX.then ?_
              refine WP.cond rfl (fun hc7 => ?_) (fun hc7 => ?_)
              · try simp only [decide_eq_true_eq, decide_eq_false_iff_not, Bool.and_eq_true, Bool.or_eq_true, Bool.and_eq_false_iff, Bool.or_eq_false_iff, Bool.not_eq_true', Bool.not_eq_false', ne_eq, Decidable.not_not] at hc7
                exfalso
                rw [List.nil_append] at hc7
                rw [sub_in hsub (show i < ((s.parts a b c d).mFails add).length by simpa using hc6)] at hc7
                simp at hc7
              · try simp only [decide_eq_true_eq, decide_eq_false_iff_not, Bool.and_eq_true, Bool.or_eq_true, Bool.and_eq_false_iff, Bool.or_eq_false_iff, Bool.not_eq_true', Bool.not_eq_false', ne_eq, Decidable.not_not] at hc7
                refine WP.skip ?_
                refine EX.blk ?_
                refine EX.then ?_
                refine WP.region ?_
                refine WPl.v rfl (o_move rfl) ?_
                refine WPl.v rfl (o_add rfl rfl (by first | omega | (simp; omega)) (by first | omega | (simp; omega))) ?_
                refine WPl.v rfl (o_assign rfl) ?_
                refine WPl.nil ?_
                refine EX.again (i + 1) id (by first | omega | (constructor <;> omega)) (by omega) (LeR.of ⟨rfl, rfl, rfl, rfl, trivial⟩ ⟨(lx rfl), (lx rfl), trivial⟩ trivial rfl rfl rfl rfl rfl)
            · try simp only [decide_eq_true_eq, decide_eq_false_iff_not, Bool.and_eq_true, Bool.or_eq_true, Bool.and_eq_false_iff, Bool.or_eq_false_iff, Bool.not_eq_true', Bool.not_eq_false', ne_eq, Decidable.not_not] at hc6
              refine WP.exit ?_
              refine EX.exit_then ?_
              refine EX.exit_then ?_
              refine EX.exit_blk ?_
              refine EX.then ?_
              refine WP.seq ?_
              refine WP.region ?_
              refine WPl.cs 17 rfl rfl rfl rfl (o_sig 17 id c17 e17 rfl rfl rfl w17 trivial r17) ?_
              refine WPl.v rfl (o_assign rfl) ?_
              refine WPl.nil ?_
              refine EX.then ?_
              refine WP.ret ?_
              exact EX.fin id (.inl rfl) rfl (.tmp rfl .nil) rfl r4 trivial (by simp) (by simp)
end Go.Flong
namespace Go.Proofs.Ytgdaeapahfjobaa
open Go Go.Eng Go.Flong Go.ChangeShapes Go.WideShapes
set_option maxRecDepth 100000 in
theorem metalWider_lifted (os : Os) (started : os.Started) (H : Type) (enc : TypeId × Value → H) : ReturnsInHanded {} Try.checked os 4 .any (Rows.metalWiderSpec.pre6 enc Try.prog Try.f4 Rows.metalWiderRow.domain false) (Rows.metalWiderSpec.post enc Try.prog Try.f4 false true false false) := by
  refine lawLifted (C := Try.checked) own started (by kernel_rfl) Try.func4
    (ChangeSpec.witness6 (enc := enc) (C := Try.checked) false ⟨#[], #[.agg #[.int .i64 0, .int .i64 0, .int .i64 0, .int .i64 0, .int .i64 0, .int .i64 0, .int .i64 0, .int .i64 0, .int .i64 0, .int .i64 0, .slice none 0 0], .agg #[.int .i64 0, .int .i64 0, .int .i64 0, .int .i64 0], .slice none 0 0], []⟩ 8 (by kernel_rfl) (by kernel_rfl) (by kernel_rfl) (by kernel_rfl))
    laidOut rfl Try.underlying4 (by intro t ht; revert ht; revert t; exact of_decide_eq_true (by kernel_rfl)) rfl (fun ds hd => ?_) fun W base args ds p hval hA => ?_
  · match ds, hd with
    | [_, _, _], _ => rfl
  · obtain ⟨v0, vs, e0, ds0, p0, q0, ha, rfl, rfl, h0, hA⟩ := trodAll_cons hA
    obtain ⟨v1, vs, e1, ds1, p1, q1, rfl, rfl, rfl, h1, hA⟩ := trodAll_cons hA
    obtain ⟨v2, vs, e2, ds2, p2, q2, rfl, rfl, rfl, h2, hA⟩ := trodAll_cons hA
    obtain ⟨rfl, rfl, rfl⟩ := trodAll_nil hA
    obtain rfl : args = #[v0, v1, v2] := by cases args; simp_all
    obtain ⟨a0, pv0, rfl, hp0⟩ := argShop (hval 0 _ v0 rfl rfl) h0
    obtain ⟨a1, b1, c1, d1, rfl⟩ := argParts (hval 1 _ v1 rfl rfl) h1
    obtain ⟨a2, hl2⟩ := argInts (hval 2 _ v2 rfl rfl) h2
    exact Sig.kept (c4 a0 a1 b1 c1 d1 a2 (fun h1 h2 h3 h4 => wideLaw h1 h2 h3 h4)) (ν := nuL [pv0, v2]) ⟨hp0, hl2, trivial⟩
theorem metalWider_holds : Rows.MetalWiderSaid :=
  OpenClaim.holds_of_wide 4 Try.f4 rfl rfl rfl rfl rfl rfl rfl ⟨rfl, rfl, rfl, rfl, rfl⟩ rfl rfl rfl rfl rfl (by kernel_rfl) Try.func4 (by kernel_rfl)
    (of_decide_eq_true (by kernel_rfl)) (by unfold Func.isWrapper; rw [if_neg (by decide +kernel)]; exact ⟨rfl, rfl⟩)
    (fun os started H enc _ => metalWider_lifted os started H enc)
end Go.Proofs.Ytgdaeapahfjobaa
