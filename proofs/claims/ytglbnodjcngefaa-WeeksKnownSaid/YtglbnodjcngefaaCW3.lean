/- Walks (printed by gen.py off the specs). -/
import Derived.Test.YtglbnodjcngefaaCW1
import Derived.Test.YtglbnodjcngefaaBase2
import Derived.Test.YtglbnodjcngefaaProg
set_option linter.unusedSimpArgs false
set_option linter.unusedVariables false
namespace Go.Flong
open Go Go.Eng Go.Proofs
theorem L32 : IsSl Try.prog 32 44 1 := ⟨Try.underlying32, Try.sizeOf44⟩
theorem S44 : TyS Try.prog 44 := ⟨Try.isAgg44, Try.sizeOf44⟩
theorem e108 : Enters' Try.prog 108 := Try.call108
theorem e139 : Enters' Try.prog 139 := Try.call139
theorem e131 : Enters' Try.prog 131 := Try.call131
theorem e66 : Enters' Try.prog 66 := Try.call66
theorem R32 : RowT Try.prog 32 44 1 24 [.slice none 0 0] := ⟨Try.underlying32, ⟨Try.t44, _, by kernel_rfl, rfl, rfl, rfl, rfl⟩, rfl, by decide⟩
theorem e163 : Enters' Try.prog 163 := Try.call163
theorem R127 : RowT Try.prog 127 32 1 24 [.slice none 0 0] := ⟨Try.underlying127, ⟨Try.t32, _, by kernel_rfl, rfl, rfl, rfl, rfl⟩, rfl, by decide⟩
theorem e83 : Enters' Try.prog 83 := Try.call83
theorem e96 : Enters' Try.prog 96 := Try.call96
theorem e143 : Enters' Try.prog 143 := Try.call143
theorem L127 : IsSl Try.prog 127 32 1 := ⟨Try.underlying127, Try.sizeOf32⟩
theorem S32 : TyS Try.prog 32 := ⟨Try.isAgg32, Try.sizeOf32⟩
theorem w51 {f : Fnd} {p : List (List Int)} : ∀ x ∈ ([.e (.g [ai (f.shop.pounds), ai (f.shop.tl), ai (f.shop.th), ai (f.shop.al), ai (f.shop.ah), ai (f.shop.room), ai (f.shop.tpl), ai (f.shop.tph), ai (f.shop.apl), ai (f.shop.aph), .q 0, .q 1]), .e (.a (.q 2))] : List SV), x.res (keys (α := Pred) [(0, PL EPig (f.shop.pigs)), (1, PL ENight (f.nights)), (2, PL (EP.sl EP.int) (p))]) := by simp [SV.res, El.res, At.res, keys]
theorem r51 {f : Fnd} {p : List (List Int)} : SV.res (keys (α := Pred) []) (.i (f.shop.cost p)) := by simp [SV.res, El.res, At.res, keys]
set_option maxHeartbeats 4000000 in
theorem c51 (f : Fnd) (p : List (List Int)) (hs : PigsOK f.shop.pigs) (hp : RowsB f.shop.pigs.length p) : Sig Try.prog 51 [.e (.g [ai (f.shop.pounds), ai (f.shop.tl), ai (f.shop.th), ai (f.shop.al), ai (f.shop.ah), ai (f.shop.room), ai (f.shop.tpl), ai (f.shop.tph), ai (f.shop.apl), ai (f.shop.aph), .q 0, .q 1]), .e (.a (.q 2))] [(0, PL EPig (f.shop.pigs)), (1, PL ENight (f.nights)), (2, PL (EP.sl EP.int) (p))] (.i (f.shop.cost p)) [] := by
  have hp1 := hp.1
  have hc := costTo_bnd hs hp
  refine Sig.intro Try.func51 rfl 3 [(0, .e (.g [ai (f.shop.pounds), ai (f.shop.tl), ai (f.shop.th), ai (f.shop.al), ai (f.shop.ah), ai (f.shop.room), ai (f.shop.tpl), ai (f.shop.tph), ai (f.shop.apl), ai (f.shop.aph), .q 0, .q 1])), (1, .e (.a (.q 2)))] rfl w51 rfl rfl fun I w => ?_
  refine WP.seq ?_
  refine WP.region ?_
  refine WPl.l 3 4 rfl rfl rfl (o_boxg rfl) ?_
  refine WPl.v rfl (o_assign rfl) ?_
  refine WPl.nil ?_
  refine EX.then ?_
  refine WP.seq ?_
  refine WP.region ?_
  refine WPl.v rfl (o_assign rfl) ?_
  refine WPl.nil ?_
  refine EX.then ?_
  refine WP.seq ?_
  refine WP.seq ?_
  refine WP.region ?_
  refine WPl.v rfl (o_assign rfl) ?_
  refine WPl.nil ?_
  refine EX.then ?_
  refine WP.block ?_
  refine WP.loop (Gh := Nat) (fun i => ⟨4, [(1, .e (.a (.q 2))), (2, .e (.a (.p 3 (0)))), (4, .i (0)), (5, .i (f.shop.costTo p i)), (6, .i ((i : Int)))], [(0, PL EPig (f.shop.pigs)), (1, PL ENight (f.nights)), (2, PL (EP.sl EP.int) (p))], [(3, .blk [ai (f.shop.pounds), ai (f.shop.tl), ai (f.shop.th), ai (f.shop.al), ai (f.shop.ah), ai (f.shop.room), ai (f.shop.tpl), ai (f.shop.tph), ai (f.shop.apl), ai (f.shop.aph), .q 0, .q 1] 31)], [], []⟩) (fun i => i ≤ p.length) (fun i => p.length - i) (0) id ?_ (LeR.of ⟨rfl, rfl, rfl, rfl, rfl, trivial⟩ ⟨(lx rfl), (lx rfl), (lx rfl), trivial⟩ ⟨rfl, trivial⟩ rfl rfl rfl rfl rfl) ?_
  · first | trivial | omega | (constructor <;> omega) | simp
  intro i hφ
  have hi : i ≤ p.length := hφ
  refine WP.seq ?_
  refine WP.seq ?_
  refine WP.region ?_
  refine WPl.v rfl (o_move rfl) ?_
  refine WPl.v rfl (o_move rfl) ?_
  refine WPl.v rfl (o_lenq L32 rfl (lx rfl)) ?_
  refine WPl.v rfl (o_lss rfl rfl) ?_
  refine WPl.nil ?_
  refine EX.then ?_
  refine WP.cond rfl (fun hc1 => ?_) (fun hc1 => ?_)
  · try simp only [decide_eq_true_eq, decide_eq_false_iff_not, Bool.and_eq_true, Bool.or_eq_true, Bool.and_eq_false_iff, Bool.or_eq_false_iff, Bool.not_eq_true', Bool.not_eq_false', ne_eq, Decidable.not_not] at hc1
    refine WP.skip ?_
    refine EX.then ?_
    refine WP.seq ?_
    refine WP.block ?_
    refine WP.draw (nf := 6) [⟨[14, 15, 16, 17, 18, 19, 20], [4, 5], [], [], []⟩, ⟨[13, 16, 17, 18, 19], [4, 5], [], [], []⟩, ⟨[13, 16, 17, 18, 19], [4, 5], [], [], [1]⟩, ⟨[13, 14, 15, 17], [], [], [], []⟩, ⟨[13, 14, 15, 16], [], [], [], []⟩, ⟨[13, 14, 15], [], [4], [4], [3, 4]⟩, ⟨[13, 14, 15], [], [5], [5], [3, 4, 5]⟩, ⟨[13], [], [], [], [1, 2, 3, 4, 5, 6]⟩, ⟨[], [], [], [], [0, 1, 2, 3, 4, 5, 6, 7]⟩, ⟨[], [], [], [], [0, 1, 2, 3, 4, 5, 6, 7, 8]⟩] (by kernel_rfl) (by kernel_rfl) ?_
    refine DRQ.v rfl rfl rfl (o_move rfl) ?_
    refine DRQ.v rfl rfl rfl (o_fldp F31_0 rfl) ?_
    refine DRQ.v rfl rfl rfl (o_ldpg G28 rfl rfl rfl) ?_
    refine DRQ.v rfl rfl rfl (o_move rfl) ?_
    refine DRQ.v rfl rfl rfl (o_move rfl) ?_
    refine DRQ.x 4 rfl rfl rfl rfl (o_idx L32 rfl (lx rfl) rfl (by first | omega | (simp; omega)) (by first | omega | (simp; omega))) ?_
    refine DRQ.x 5 rfl rfl rfl rfl (o_ldqx S44 rfl (lx rfl) slx) ?_
    have h1 := hc i (by omega)
    have h2 := hp.2 i (by omega)
    have h3 := sumOf_bnd (f := Pig.pence) hs (by rw [h2.1]; exact Nat.le_refl _) h2.2 (fun p h => by have := Pig.bnds h; omega)
    refine DRQ.cs rfl rfl rfl rfl (o_sig 6 (ren [(0, 0), (1, 5)]) (c108 f.shop (nth p (i : Int)) hs (hp.2 i (by omega)).2 (by rw [(hp.2 i (by omega)).1]; exact Nat.le_refl _)) e108 rfl rfl rfl w108 ⟨(lx rfl), (lx rfl), trivial⟩ r108) ?_
    refine DRQ.v rfl rfl rfl (o_add rfl rfl (by first | omega | (simp; omega)) (by first | omega | (simp; omega))) ?_
    refine DRQ.v rfl rfl rfl (o_assign rfl) ?_
    refine DRQ.nil' ?_
    refine EX.blk ?_
    refine EX.then ?_
    refine WP.region ?_
    refine WPl.v rfl (o_move rfl) ?_
    refine WPl.v rfl (o_add rfl rfl (by first | omega | (simp; omega)) (by first | omega | (simp; omega))) ?_
    refine WPl.v rfl (o_assign rfl) ?_
    refine WPl.nil ?_
    refine EX.again (i + 1) id (by first | omega | (constructor <;> omega)) (by omega) (LeR.of ⟨rfl, rfl, rfl, rfl, rfl, trivial⟩ ⟨(lx rfl), (lx rfl), (lx rfl), trivial⟩ ⟨rfl, trivial⟩ rfl rfl rfl rfl rfl)
  · try simp only [decide_eq_true_eq, decide_eq_false_iff_not, Bool.and_eq_true, Bool.or_eq_true, Bool.and_eq_false_iff, Bool.or_eq_false_iff, Bool.not_eq_true', Bool.not_eq_false', ne_eq, Decidable.not_not] at hc1
    refine WP.exit ?_
    refine EX.exit_then ?_
    refine EX.exit_then ?_
    refine EX.exit_blk ?_
    refine EX.then ?_
    refine WP.seq ?_
    refine WP.region ?_
    refine WPl.v rfl (o_move rfl) ?_
    refine WPl.v rfl (o_assign rfl) ?_
    refine WPl.nil ?_
    refine EX.then ?_
    refine WP.ret ?_
    have he : i = p.length := by omega
    subst he
    rw [show f.shop.cost p = f.shop.costTo p p.length from rfl]
    exact EX.fin id (.inl rfl) rfl (.tmp rfl .nil) rfl (by simp [SV.res, El.res, At.res, keys]) trivial (by simp) (by simp)
theorem w163 {f : Fnd} {before : List Int} {d : Int} {first : List Int} : ∀ x ∈ ([.e (.g [ai (f.shop.pounds), ai (f.shop.tl), ai (f.shop.th), ai (f.shop.al), ai (f.shop.ah), ai (f.shop.room), ai (f.shop.tpl), ai (f.shop.tph), ai (f.shop.apl), ai (f.shop.aph), .q 0, .q 1]), .e (.a (.q 2)), .i (d), .e (.a (.q 3))] : List SV), x.res (keys (α := Pred) [(0, PL EPig (f.shop.pigs)), (1, PL ENight (f.nights)), (2, PL EP.int (before)), (3, PL EP.int (first))]) := by simp [SV.res, El.res, At.res, keys]
theorem r163 {f : Fnd} {before : List Int} {d : Int} {first : List Int} {n : Nat} : SV.res (keys (α := Pred) [(0, PL (EP.sl EP.int) (f.addsR before d n first))]) (.e (.a (.q 0))) := by simp [SV.res, El.res, At.res, keys]
set_option maxHeartbeats 4000000 in
theorem c163 (f : Fnd) (before : List Int) (d : Int) (first : List Int) (n : Nat) (hf : f.chk = true) (hb : bnd before 5) (hl : before.length = f.shop.pigs.length) (hfl : first.length + n = f.shop.pigs.length) (hfb : bnd first 5) (hd : 0 ≤ d ∧ d ≤ f.shop.tl) : Sig Try.prog 163 [.e (.g [ai (f.shop.pounds), ai (f.shop.tl), ai (f.shop.th), ai (f.shop.al), ai (f.shop.ah), ai (f.shop.room), ai (f.shop.tpl), ai (f.shop.tph), ai (f.shop.apl), ai (f.shop.aph), .q 0, .q 1]), .e (.a (.q 2)), .i (d), .e (.a (.q 3))] [(0, PL EPig (f.shop.pigs)), (1, PL ENight (f.nights)), (2, PL EP.int (before)), (3, PL EP.int (first))] (.e (.a (.q 0))) [(0, PL (EP.sl EP.int) (f.addsR before d n first))] := by
  have hs := Fnd.shopOK hf
  have hpg := Shop.pigsOK hs
  have hp4 := hpg.2
  have htb := tl_bnd hs
  refine Sig.intro Try.func163 rfl 4 [(0, .e (.g [ai (f.shop.pounds), ai (f.shop.tl), ai (f.shop.th), ai (f.shop.al), ai (f.shop.ah), ai (f.shop.room), ai (f.shop.tpl), ai (f.shop.tph), ai (f.shop.apl), ai (f.shop.aph), .q 0, .q 1])), (1, .e (.a (.q 2))), (2, .i (d)), (3, .e (.a (.q 3)))] rfl w163 rfl rfl fun I w => ?_
  refine WP.seq ?_
  refine WP.region ?_
  refine WPl.l 4 5 rfl rfl rfl (o_boxg rfl) ?_
  refine WPl.v rfl (o_assign rfl) ?_
  refine WPl.nil ?_
  refine EX.then ?_
  refine WP.seq ?_
  refine WP.seq ?_
  refine WP.region ?_
  refine WPl.v rfl (o_move rfl) ?_
  refine WPl.v rfl (o_lenq L44 rfl (lx rfl)) ?_
  refine WPl.v rfl (o_fldp F31_0 rfl) ?_
  refine WPl.v rfl (o_fldp F28_4 rfl) ?_
  refine WPl.v rfl (o_ldp S26 rfl rfl rfl) ?_
  refine WPl.v rfl (o_lenq L26 rfl (lx rfl)) ?_
  refine WPl.v rfl (o_eql rfl rfl) ?_
  refine WPl.nil ?_
  refine EX.then ?_
  refine WP.cond rfl (fun hc1 => ?_) (fun hc1 => ?_)
  · try simp only [decide_eq_true_eq, decide_eq_false_iff_not, Bool.and_eq_true, Bool.or_eq_true, Bool.and_eq_false_iff, Bool.or_eq_false_iff, Bool.not_eq_true', Bool.not_eq_false', ne_eq, Decidable.not_not] at hc1
    obtain rfl : n = 0 := by omega
    refine WP.seq ?_
    refine WP.seq ?_
    refine WP.region ?_
    refine WPl.v rfl (o_ldpa G31 rfl rfl rfl) ?_
    refine WPl.v rfl (o_move rfl) ?_
    refine WPl.cs 6 rfl rfl rfl rfl (o_sig 5 (ren [(0, 0), (1, 1)]) (c139 f d (by omega) (by omega) (by omega)) e139 rfl rfl rfl w139 ⟨(lx rfl), (lx rfl), trivial⟩ r139) ?_
    refine WPl.v rfl (o_move rfl) ?_
    refine WPl.v rfl (o_move rfl) ?_
    refine WPl.cs 7 rfl rfl rfl rfl (o_sig 6 (ren [(0, 2), (1, 3)]) (c131 before first (by omega) (by omega) (bnd_mono hb (by omega)) (bnd_mono hfb (by omega))) e131 rfl rfl rfl w131 ⟨(lx rfl), (lx rfl), trivial⟩ r131) ?_
    refine WPl.cs 7 rfl rfl rfl rfl (o_sig 7 (ren [(0, 5), (1, 6)]) (c66 (f.less d) (plus before first) hpg (by simp [Fnd.less]; omega)) e66 rfl rfl rfl w66 ⟨(lx rfl), (lx rfl), trivial⟩ r66) ?_
    refine WPl.nil ?_
    refine EX.then ?_
    refine WP.cond rfl (fun hc2 => ?_) (fun hc2 => ?_)
    · try simp only [decide_eq_true_eq, decide_eq_false_iff_not, Bool.and_eq_true, Bool.or_eq_true, Bool.and_eq_false_iff, Bool.or_eq_false_iff, Bool.not_eq_true', Bool.not_eq_false', ne_eq, Decidable.not_not] at hc2
      refine WP.seq ?_
      refine WP.region ?_
      refine WPl.v rfl (o_move rfl) ?_
      refine WPl.l 7 8 rfl rfl rfl (o_bsl (E := (EP.sl EP.int)) (l := [first]) R32 rfl rfl (.cons ((.inl ⟨_, (lx rfl), PL.one⟩)) rfl (eok_sl (lx rfl)) (.nil)) rfl rfl) ?_
      refine WPl.v rfl (o_assign rfl) ?_
      refine WPl.nil ?_
      refine EX.then ?_
      refine WP.ret ?_
      refine EX.ret_then ?_
      refine EX.ret_then ?_
      refine EX.imp (Imp.frz (E := (EP.sl EP.int)) (l := [first]) 7 rfl rfl) ?_
      rw [show f.addsR before d 0 first = [first] from by simp [Fnd.addsR, hc2]]
      exact EX.fin (ren [(0, 7)]) (.inl rfl) rfl (.tmp rfl .nil) rfl (by simp [SV.res, El.res, At.res, keys]) ⟨(lx rfl), trivial⟩ (by simp) (by simp)
    · try simp only [decide_eq_true_eq, decide_eq_false_iff_not, Bool.and_eq_true, Bool.or_eq_true, Bool.and_eq_false_iff, Bool.or_eq_false_iff, Bool.not_eq_true', Bool.not_eq_false', ne_eq, Decidable.not_not] at hc2
      refine WP.skip ?_
      refine EX.then ?_
      refine WP.seq ?_
      refine WP.region ?_
      refine WPl.v rfl (o_assign rfl) ?_
      refine WPl.nil ?_
      refine EX.then ?_
      refine WP.ret ?_
      refine EX.ret_then ?_
      refine EX.imp (Imp.nam 7 8 (.slice none 0 0) (R := PN (EP.sl EP.int)) pn_ok rfl rfl) ?_
      refine EX.imp (Imp.swF 8 7 rfl (lxr rfl)) ?_
      rw [show f.addsR before d 0 first = [] from by simp [Fnd.addsR, hc2]]
      exact EX.fin (ren [(0, 7)]) (.inl rfl) rfl (.tmp rfl .nil) rfl (by simp [SV.res, El.res, At.res, keys]) ⟨lxl rfl, trivial⟩ (by simp) (by simp)
  · try simp only [decide_eq_true_eq, decide_eq_false_iff_not, Bool.and_eq_true, Bool.or_eq_true, Bool.and_eq_false_iff, Bool.or_eq_false_iff, Bool.not_eq_true', Bool.not_eq_false', ne_eq, Decidable.not_not] at hc1
    obtain ⟨m, rfl⟩ : ∃ m, n = m + 1 := ⟨n - 1, by omega⟩
    have hk1 := Pig.bnds (hpg.at (show first.length < f.shop.pigs.length by omega))
    have hk2 := hb first.length (by omega)
    have hflat := fun j (hj : j ≤ 6) => addsR_flat (d := d) hpg hb hl (m := m) (first := first) (by omega) (j := j) hj
    refine WP.skip ?_
    refine EX.then ?_
    refine WP.seq ?_
    refine WP.region ?_
    refine WPl.v rfl (o_assign rfl) ?_
    refine WPl.imp (Imp.namo (EP.sl EP.int) 5 6 44 rfl rfl) ?_
    refine WPl.imp (Imp.swF 9 5 rfl (lx rfl)) ?_
    refine WPl.nil ?_
    refine EX.then ?_
    refine WP.seq ?_
    refine WP.region ?_
    refine WPl.v rfl (o_move rfl) ?_
    refine WPl.v rfl (o_lenq L44 rfl (lx rfl)) ?_
    refine WPl.v rfl (o_assign rfl) ?_
    refine WPl.nil ?_
    refine EX.then ?_
    refine WP.seq ?_
    refine WP.seq ?_
    refine WP.region ?_
    refine WPl.v rfl (o_assign rfl) ?_
    refine WPl.nil ?_
    refine EX.then ?_
    refine WP.block ?_
    refine WP.loop (Gh := Nat) (fun j => ⟨6, [(1, .e (.a (.q 2))), (2, .i (d)), (3, .e (.a (.q 3))), (4, .e (.a (.p 4 (0)))), (8, .e (.a (.v (.slice none 0 0)))), (9, .e (.a (.q 5))), (10, .i ((first.length : Int))), (11, .i ((j : Int)))], [(0, PL EPig (f.shop.pigs)), (1, PL ENight (f.nights)), (2, PL EP.int (before)), (3, PL EP.int (first))], [(4, .blk [ai (f.shop.pounds), ai (f.shop.tl), ai (f.shop.th), ai (f.shop.al), ai (f.shop.ah), ai (f.shop.room), ai (f.shop.tpl), ai (f.shop.tph), ai (f.shop.apl), ai (f.shop.aph), .q 0, .q 1] 31), (5, .own 44 (EP.sl EP.int).size (flatTo (fun (z : Nat) => f.addsR before d m (first ++ [(z : Int)])) j).length (RP (EP.sl EP.int) (flatTo (fun (z : Nat) => f.addsR before d m (first ++ [(z : Int)])) j)))], [], []⟩) (fun j => j ≤ ((nth f.shop.pigs first.length).many - nth before first.length + 1).toNat) (fun j => ((nth f.shop.pigs first.length).many - nth before first.length + 1).toNat - j) (0) id ?_ (LeR.of ⟨rfl, rfl, rfl, rfl, rfl, rfl, rfl, rfl, trivial⟩ ⟨(lx rfl), (lx rfl), (lx rfl), (lx rfl), trivial⟩ ⟨rfl, rfl, trivial⟩ rfl rfl rfl rfl rfl) ?_
    · first | trivial | omega | (constructor <;> omega) | simp
    intro j hφ
    have hj : j ≤ ((nth f.shop.pigs first.length).many - nth before first.length + 1).toNat := hφ
    refine WP.seq ?_
    refine WP.seq ?_
    refine WP.draw (nf := 8) [⟨[31, 34, 36, 37, 38, 39, 40, 41, 42], [7], [], [], []⟩, ⟨[30, 34, 36, 37, 38, 39, 40, 41, 42], [7], [], [], []⟩, ⟨[34, 36, 37, 38, 39, 40, 41, 42], [7], [6], [6], [0, 1]⟩, ⟨[34, 36, 37, 38, 39, 40, 41, 42], [7], [], [], [0, 1, 2]⟩, ⟨[30, 31, 32, 33, 36, 37, 38, 39, 40, 41, 42], [6, 7], [], [], []⟩, ⟨[36, 37, 38, 39, 40, 41, 42], [7], [], [], [0, 1, 2, 3, 4]⟩, ⟨[30, 31, 32, 33, 34, 35, 39], [6], [], [], []⟩, ⟨[30, 31, 32, 33, 34, 35, 39], [6], [], [], [6]⟩, ⟨[30, 31, 32, 33, 34, 35, 39], [6], [], [], [6, 7]⟩, ⟨[30, 31, 32, 33, 34, 35, 36, 37, 38], [6], [], [], []⟩, ⟨[30, 31, 32, 33, 34, 35], [6], [7], [7], [6, 7, 8, 9]⟩, ⟨[30, 31, 32, 33, 34, 35], [6], [], [], [6, 7, 8, 9, 10]⟩, ⟨[30, 31, 32, 33, 34, 35], [6], [], [], [6, 7, 8, 9, 10, 11]⟩, ⟨[], [], [], [], [0, 1, 2, 3, 4, 5, 6, 7, 8, 9, 10, 11, 12]⟩] (by kernel_rfl) (by kernel_rfl) ?_
    refine DRQ.v rfl rfl rfl (o_move rfl) ?_
    refine DRQ.v rfl rfl rfl (o_move rfl) ?_
    refine DRQ.x 6 rfl rfl rfl rfl (o_idx L44 rfl (lx rfl) rfl (by first | omega | (simp; omega)) (by first | omega | (simp; omega))) ?_
    refine DRQ.v rfl rfl rfl (o_ldq S3 rfl (lx rfl) intc) ?_
    refine DRQ.v rfl rfl rfl (o_move rfl) ?_
    refine DRQ.v rfl rfl rfl (o_add rfl rfl (by first | omega | (simp; omega)) (by first | omega | (simp; omega))) ?_
    refine DRQ.v rfl rfl rfl (o_fldp F31_0 rfl) ?_
    refine DRQ.v rfl rfl rfl (o_fldp F28_4 rfl) ?_
    refine DRQ.v rfl rfl rfl (o_ldp S26 rfl rfl rfl) ?_
    refine DRQ.v rfl rfl rfl (o_move rfl) ?_
    refine DRQ.x 7 rfl rfl rfl rfl (o_idx L26 rfl (lx rfl) rfl (by first | omega | (simp; omega)) (by first | omega | (simp; omega))) ?_
    refine DRQ.v rfl rfl rfl (o_fldq F78_4 rfl (lx rfl)) ?_
    refine DRQ.v rfl rfl rfl (o_lde S3 rfl (lx rfl) (strI rfl)) ?_
    refine DRQ.v rfl rfl rfl (o_leq rfl rfl) ?_
    refine DRQ.nil' ?_
    refine EX.then ?_
    refine WP.cond rfl (fun hc3 => ?_) (fun hc3 => ?_)
    · try simp only [decide_eq_true_eq, decide_eq_false_iff_not, Bool.and_eq_true, Bool.or_eq_true, Bool.and_eq_false_iff, Bool.or_eq_false_iff, Bool.not_eq_true', Bool.not_eq_false', ne_eq, Decidable.not_not] at hc3
      refine WP.skip ?_
      refine EX.then ?_
      refine WP.seq ?_
      refine WP.block ?_
      refine WP.draw (nf := 14) [⟨[47, 48, 49, 50, 51, 52, 53, 54, 55, 56], [8, 9, 10, 11, 12], [], [], []⟩, ⟨[46, 48, 49, 50, 51, 52, 53, 54, 55], [8, 9, 10, 11], [], [], []⟩, ⟨[46, 47, 49, 50, 51, 52, 53, 54, 55], [8, 9, 10, 11], [], [], []⟩, ⟨[46, 47, 48, 50, 51, 52, 53, 54, 55], [8, 9, 10, 11], [], [], []⟩, ⟨[46, 47, 48, 49, 51, 53, 54], [10], [8], [8], []⟩, ⟨[46, 47, 48, 49, 50, 53, 54], [8, 10], [], [], []⟩, ⟨[46, 47, 48, 49, 53, 54], [10], [9], [9, 8], [4, 5]⟩, ⟨[46, 47, 48, 49, 50, 51, 52], [8, 9], [], [], []⟩, ⟨[46, 47, 48, 49, 50, 51, 52], [8, 9], [10], [10], [7]⟩, ⟨[46, 47, 48, 49], [], [11], [11, 9], [4, 5, 6, 7, 8]⟩, ⟨[46], [], [12], [12], [1, 2, 3, 4, 5, 6, 7, 8, 9]⟩, ⟨[], [], [13], [13, 5], [0, 1, 2, 3, 4, 5, 6, 7, 8, 9, 10]⟩, ⟨[], [], [], [], [0, 1, 2, 3, 4, 5, 6, 7, 8, 9, 10, 11]⟩] (by kernel_rfl) (by kernel_rfl) ?_
      refine DRQ.v rfl rfl rfl (o_move rfl) ?_
      refine DRQ.v rfl rfl rfl (o_ldpa G31 rfl rfl rfl) ?_
      refine DRQ.v rfl rfl rfl (o_move rfl) ?_
      refine DRQ.v rfl rfl rfl (o_move rfl) ?_
      refine DRQ.l 8 rfl rfl rfl rfl (o_bsl (E := EP.int) (l := []) R44 rfl rfl (.nil) rfl rfl) ?_
      refine DRQ.v rfl rfl rfl (o_move rfl) ?_
      refine DRQ.l2 9 8 rfl rfl rfl rfl (o_apps R44 EP.int_one rfl rfl rfl (lx rfl) (by first | omega | (simp; omega) | (simp at *; omega)) (by first | omega | (simp; omega) | (simp at *; omega))) ?_
      refine DRQ.v rfl rfl rfl (o_move rfl) ?_
      refine DRQ.l 10 rfl rfl rfl rfl (o_bsl (E := EP.int) (l := [(j : Int)]) R44 rfl rfl (.cons (rfl) rfl (eok_int) (.nil)) rfl rfl) ?_
      refine DRQ.u1 11 rfl rfl rfl (OpG.settle1 (.inl rfl) rfl (o_appo R44 EP.int_one rfl rfl rfl rfl (by first | omega | (simp; omega) | (simp at *; omega)) (by first | omega | (simp; omega) | (simp at *; omega)))) rfl ?_
      refine DRQ.cs rfl rfl rfl rfl (o_sig 12 (ren [(0, 0), (1, 1), (2, 2), (3, 11)]) (c163 f before d (([] ++ first) ++ [(j : Int)]) m hf hb hl (by simp; omega) (bnd_snoc hfb (by omega) (by omega)) hd) e163 rfl rfl rfl w163 ⟨(lx rfl), (lx rfl), (lx rfl), (lx rfl), trivial⟩ r163) ?_
      refine DRQ.l2 13 5 rfl rfl rfl rfl (o_apps R32 EP.sl_one rfl rfl rfl (lx rfl) (by have h1 := hflat j (by omega); have h2 := h1.2 j; first | omega | (simp; omega)) (by have h1 := hflat j (by omega); have h2 := h1.2 j; first | omega | (simp; omega))) ?_
      refine DRQ.v rfl rfl rfl (o_assign rfl) ?_
      refine DRQ.nil' ?_
      refine EX.blk ?_
      refine EX.then ?_
      refine WP.region ?_
      refine WPl.v rfl (o_move rfl) ?_
      refine WPl.v rfl (o_add rfl rfl (by first | omega | (simp; omega)) (by first | omega | (simp; omega))) ?_
      refine WPl.v rfl (o_assign rfl) ?_
      refine WPl.nil ?_
      refine EX.again (j + 1) (ren [(5, 13)]) (by first | omega | (constructor <;> omega)) (by omega) (LeR.of ⟨rfl, rfl, rfl, rfl, rfl, rfl, rfl, rfl, trivial⟩ ⟨(lx rfl), (lx rfl), (lx rfl), (lx rfl), trivial⟩ ⟨rfl, rfl, trivial⟩ rfl rfl rfl rfl rfl)
    · try simp only [decide_eq_true_eq, decide_eq_false_iff_not, Bool.and_eq_true, Bool.or_eq_true, Bool.and_eq_false_iff, Bool.or_eq_false_iff, Bool.not_eq_true', Bool.not_eq_false', ne_eq, Decidable.not_not] at hc3
      refine WP.exit ?_
      refine EX.exit_then ?_
      refine EX.exit_then ?_
      refine EX.exit_blk ?_
      refine EX.then ?_
      refine WP.seq ?_
      refine WP.region ?_
      refine WPl.v rfl (o_move rfl) ?_
      refine WPl.v rfl (o_assign rfl) ?_
      refine WPl.nil ?_
      refine EX.then ?_
      refine WP.ret ?_
      refine EX.imp (Imp.frz (E := (EP.sl EP.int)) (l := flatTo (fun (z : Nat) => f.addsR before d m (first ++ [(z : Int)])) j) 5 rfl rfl) ?_
      have he : j = ((nth f.shop.pigs first.length).many - nth before first.length + 1).toNat := by omega
      subst he
      rw [show f.addsR before d (m + 1) first = flatTo (fun (z : Nat) => f.addsR before d m (first ++ [(z : Int)])) ((nth f.shop.pigs first.length).many - nth before first.length + 1).toNat from rfl]
      exact EX.fin (ren [(0, 5)]) (.inl rfl) rfl (.tmp rfl .nil) rfl (by simp [SV.res, El.res, At.res, keys]) ⟨(lx rfl), trivial⟩ (by simp) (by simp)
termination_by n
decreasing_by all_goals omega
theorem w163L {f : Fnd} {before : List Int} {d : Int} : ∀ x ∈ ([.e (.g [ai (f.shop.pounds), ai (f.shop.tl), ai (f.shop.th), ai (f.shop.al), ai (f.shop.ah), ai (f.shop.room), ai (f.shop.tpl), ai (f.shop.tph), ai (f.shop.apl), ai (f.shop.aph), .q 0, .q 1]), .e (.a (.q 2)), .i (d), .e (.a (.q 3))] : List SV), x.res (keys (α := Pred) [(0, PL EPig (f.shop.pigs)), (1, PL ENight (f.nights)), (2, PL EP.int (before)), (3, PL EP.int ([]))]) := by simp [SV.res, El.res, At.res, keys]
theorem r163L {f : Fnd} {before : List Int} {d : Int} : SV.res (keys (α := Pred) [(0, PL (EP.sl EP.int) (f.addsL before d))]) (.e (.a (.q 0))) := by simp [SV.res, El.res, At.res, keys]
set_option maxHeartbeats 4000000 in
theorem c163L (f : Fnd) (before : List Int) (d : Int) (hf : f.chk = true) (hb : bnd before 5) (hl : before.length = f.shop.pigs.length) (hd : 0 ≤ d ∧ d ≤ f.shop.tl) : Sig Try.prog 163 [.e (.g [ai (f.shop.pounds), ai (f.shop.tl), ai (f.shop.th), ai (f.shop.al), ai (f.shop.ah), ai (f.shop.room), ai (f.shop.tpl), ai (f.shop.tph), ai (f.shop.apl), ai (f.shop.aph), .q 0, .q 1]), .e (.a (.q 2)), .i (d), .e (.a (.q 3))] [(0, PL EPig (f.shop.pigs)), (1, PL ENight (f.nights)), (2, PL EP.int (before)), (3, PL EP.int ([]))] (.e (.a (.q 0))) [(0, PL (EP.sl EP.int) (f.addsL before d))] := by
  exact c163 f before d [] f.shop.pigs.length hf hb hl (by simp) (fun j hj => absurd hj (by simp)) hd
theorem w143 {f : Fnd} {night : Int} {before : List Int} : ∀ x ∈ ([.e (.g [ai (f.shop.pounds), ai (f.shop.tl), ai (f.shop.th), ai (f.shop.al), ai (f.shop.ah), ai (f.shop.room), ai (f.shop.tpl), ai (f.shop.tph), ai (f.shop.apl), ai (f.shop.aph), .q 0, .q 1]), .i (night), .e (.a (.q 2))] : List SV), x.res (keys (α := Pred) [(0, PL EPig (f.shop.pigs)), (1, PL ENight (f.nights)), (2, PL EP.int (before))]) := by simp [SV.res, El.res, At.res, keys]
theorem r143 {f : Fnd} {night : Int} {before : List Int} {n : Nat} : SV.res (keys (α := Pred) [(0, PL (EP.sl (EP.sl EP.int)) (f.plansR n night before))]) (.e (.a (.q 0))) := by simp [SV.res, El.res, At.res, keys]
set_option maxHeartbeats 4000000 in
theorem c143 (f : Fnd) (night : Int) (before : List Int) (n : Nat) (hf : f.chk = true) (hnt : night + n = f.nights.length) (hn0 : 0 ≤ night) (hb : bnd before 5) (hl : before.length = f.shop.pigs.length) : Sig Try.prog 143 [.e (.g [ai (f.shop.pounds), ai (f.shop.tl), ai (f.shop.th), ai (f.shop.al), ai (f.shop.ah), ai (f.shop.room), ai (f.shop.tpl), ai (f.shop.tph), ai (f.shop.apl), ai (f.shop.aph), .q 0, .q 1]), .i (night), .e (.a (.q 2))] [(0, PL EPig (f.shop.pigs)), (1, PL ENight (f.nights)), (2, PL EP.int (before))] (.e (.a (.q 0))) [(0, PL (EP.sl (EP.sl EP.int)) (f.plansR n night before))] := by
  have hs := Fnd.shopOK hf
  have hpg := Shop.pigsOK hs
  have hp4 := hpg.2
  have htb := tl_bnd hs
  have hn := Fnd.nightsOK hf
  have hn4 := hn.2
  have hlh := lohi_bnd hn
  have hhi := fun i hi => Fnd.hi_le hf (i := i) hi
  have hb1 := bnd_mono hb (show (5 : Int) ≤ 1000 by omega)
  refine Sig.intro Try.func143 rfl 3 [(0, .e (.g [ai (f.shop.pounds), ai (f.shop.tl), ai (f.shop.th), ai (f.shop.al), ai (f.shop.ah), ai (f.shop.room), ai (f.shop.tpl), ai (f.shop.tph), ai (f.shop.apl), ai (f.shop.aph), .q 0, .q 1])), (1, .i (night)), (2, .e (.a (.q 2)))] rfl w143 rfl rfl fun I w => ?_
  refine WP.seq ?_
  refine WP.region ?_
  refine WPl.l 3 4 rfl rfl rfl (o_boxg rfl) ?_
  refine WPl.v rfl (o_assign rfl) ?_
  refine WPl.nil ?_
  refine EX.then ?_
  refine WP.seq ?_
  refine WP.seq ?_
  refine WP.region ?_
  refine WPl.v rfl (o_move rfl) ?_
  refine WPl.v rfl (o_fldp F31_1 rfl) ?_
  refine WPl.v rfl (o_ldp S29 rfl rfl rfl) ?_
  refine WPl.v rfl (o_lenq L29 rfl (lx rfl)) ?_
  refine WPl.v rfl (o_eql rfl rfl) ?_
  refine WPl.nil ?_
  refine EX.then ?_
  refine WP.cond rfl (fun hc1 => ?_) (fun hc1 => ?_)
  · try simp only [decide_eq_true_eq, decide_eq_false_iff_not, Bool.and_eq_true, Bool.or_eq_true, Bool.and_eq_false_iff, Bool.or_eq_false_iff, Bool.not_eq_true', Bool.not_eq_false', ne_eq, Decidable.not_not] at hc1
    obtain rfl : n = 0 := by omega
    refine WP.seq ?_
    refine WP.region ?_
    refine WPl.l 4 5 rfl rfl rfl (o_bsl (E := (EP.sl (EP.sl EP.int))) (l := [[]]) R127 rfl rfl (.cons (rfl) rfl (eok_nil) (.nil)) rfl rfl) ?_
    refine WPl.v rfl (o_assign rfl) ?_
    refine WPl.nil ?_
    refine EX.then ?_
    refine WP.ret ?_
    refine EX.ret_then ?_
    refine EX.imp (Imp.frz (E := (EP.sl (EP.sl EP.int))) (l := [[]]) 4 rfl rfl) ?_
    exact EX.fin (ren [(0, 4)]) (.inl rfl) rfl (.tmp rfl .nil) rfl r143 ⟨(lx rfl), trivial⟩ (by simp) (by simp)
  · try simp only [decide_eq_true_eq, decide_eq_false_iff_not, Bool.and_eq_true, Bool.or_eq_true, Bool.and_eq_false_iff, Bool.or_eq_false_iff, Bool.not_eq_true', Bool.not_eq_false', ne_eq, Decidable.not_not] at hc1
    obtain ⟨m, rfl⟩ : ∃ m, n = m + 1 := ⟨n - 1, by omega⟩
    have hl1 := hlh night.toNat (by omega)
    have hl2 := hhi night.toNat (by omega)
    have hlo : 0 ≤ loTo f.nights night.toNat ∧ loTo f.nights night.toNat ≤ f.shop.tl := by omega
    have hal := addsL_len (d := loTo f.nights (night.toNat)) hpg hb1 hl
    have hat := fun i hi => addsL_at (d := loTo f.nights (night.toNat)) hpg hb1 hl (i := i) hi
    have hpw := pow1296 (n := m) (by omega)
    refine WP.skip ?_
    refine EX.then ?_
    refine WP.seq ?_
    refine WP.region ?_
    refine WPl.v rfl (o_assign rfl) ?_
    refine WPl.imp (Imp.namo (EP.sl (EP.sl EP.int)) 4 5 32 rfl rfl) ?_
    refine WPl.imp (Imp.swF 7 4 rfl (lx rfl)) ?_
    refine WPl.nil ?_
    refine EX.then ?_
    refine WP.seq ?_
    refine WP.region ?_
    refine WPl.v rfl (o_ldpa G31 rfl rfl rfl) ?_
    refine WPl.v rfl (o_move rfl) ?_
    refine WPl.cs 5 rfl rfl rfl rfl (o_sig 5 (ren [(0, 0), (1, 1)]) (c83 f night hn (by omega)) e83 rfl rfl rfl w83 ⟨(lx rfl), (lx rfl), trivial⟩ r83) ?_
    refine WPl.l 5 6 rfl rfl rfl (o_alloc Z23) ?_
    refine WPl.s1 (o_stag G23 rfl rfl rfl ⟨rfl, rfl, trivial⟩ rfl rfl) ?_
    refine WPl.nil ?_
    refine EX.then ?_
    refine WP.seq ?_
    refine WP.region ?_
    refine WPl.v rfl (o_ldpa G31 rfl rfl rfl) ?_
    refine WPl.v rfl (o_move rfl) ?_
    refine WPl.v rfl (o_fldp F23_0 rfl) ?_
    refine WPl.v rfl (o_ldp S3 rfl rfl rfl) ?_
    refine WPl.imp (Imp.nam 6 7 (.slice none 0 0) (R := PN EP.int) pn_ok rfl rfl) ?_
    refine WPl.cs 8 rfl rfl rfl rfl (o_sigc 7 (ren [(0, 0), (1, 1), (2, 2), (3, 6)]) (c163L f before (loTo f.nights night.toNat) hf hb hl (by omega)) e163 rfl rfl ⟨.inl rfl, .inl rfl, .inl rfl, .inr ⟨_, _, rfl, fun _ => rfl, (lxr rfl)⟩, trivial⟩ w163L ⟨(lx rfl), (lx rfl), (lx rfl), (lxl rfl), trivial⟩ r163L) ?_
    refine WPl.v rfl (o_assign rfl) ?_
    refine WPl.nil ?_
    refine EX.then ?_
    refine WP.seq ?_
    refine WP.seq ?_
    refine WP.region ?_
    refine WPl.v rfl (o_assign rfl) ?_
    refine WPl.nil ?_
    refine EX.then ?_
    refine WP.block ?_
    refine WP.loop (Gh := Nat) (fun i => ⟨8, [(1, .i (night)), (2, .e (.a (.q 2))), (3, .e (.a (.p 3 (0)))), (6, .e (.a (.v (.slice none 0 0)))), (7, .e (.a (.q 4))), (8, .e (.a (.p 5 (0)))), (9, .e (.a (.q 7))), (10, .i ((i : Int)))], [(0, PL EPig (f.shop.pigs)), (1, PL ENight (f.nights)), (2, PL EP.int (before)), (7, PL (EP.sl EP.int) (f.addsL before (loTo f.nights night.toNat)))], [(3, .blk [ai (f.shop.pounds), ai (f.shop.tl), ai (f.shop.th), ai (f.shop.al), ai (f.shop.ah), ai (f.shop.room), ai (f.shop.tpl), ai (f.shop.tph), ai (f.shop.apl), ai (f.shop.aph), .q 0, .q 1] 31), (4, .own 32 (EP.sl (EP.sl EP.int)).size (f.plansTo m night before i).length (RP (EP.sl (EP.sl EP.int)) (f.plansTo m night before i))), (5, .blk [ai (loTo f.nights night.toNat), ai (hiTo f.nights night.toNat)] 23)], [], []⟩) (fun i => i ≤ (f.addsL before (loTo f.nights (night.toNat))).length) (fun i => (f.addsL before (loTo f.nights (night.toNat))).length - i) (0) id ?_ (LeR.of ⟨rfl, rfl, rfl, rfl, rfl, rfl, rfl, rfl, trivial⟩ ⟨(lx rfl), (lx rfl), (lx rfl), (lx rfl), trivial⟩ ⟨rfl, rfl, rfl, trivial⟩ rfl rfl rfl rfl rfl) ?_
    · first | trivial | omega | (constructor <;> omega) | simp
    intro i hφ
    have hi : i ≤ (f.addsL before (loTo f.nights (night.toNat))).length := hφ
    refine WP.seq ?_
    refine WP.seq ?_
    refine WP.region ?_
    refine WPl.v rfl (o_move rfl) ?_
    refine WPl.v rfl (o_move rfl) ?_
    refine WPl.v rfl (o_lenq L32 rfl (lx rfl)) ?_
    refine WPl.v rfl (o_lss rfl rfl) ?_
    refine WPl.nil ?_
    refine EX.then ?_
    refine WP.cond rfl (fun hc2 => ?_) (fun hc2 => ?_)
    · try simp only [decide_eq_true_eq, decide_eq_false_iff_not, Bool.and_eq_true, Bool.or_eq_true, Bool.and_eq_false_iff, Bool.or_eq_false_iff, Bool.not_eq_true', Bool.not_eq_false', ne_eq, Decidable.not_not] at hc2
      refine WP.skip ?_
      refine EX.then ?_
      refine WP.seq ?_
      refine WP.block ?_
      refine WP.seq ?_
      refine WP.region ?_
      refine WPl.v rfl (o_move rfl) ?_
      refine WPl.v rfl (o_move rfl) ?_
      refine WPl.v rfl (o_move rfl) ?_
      refine WPl.x 8 9 rfl rfl rfl (o_idx L32 rfl (lx rfl) rfl (by first | omega | (simp; omega)) (by first | omega | (simp; omega))) ?_
      refine WPl.x 9 10 rfl rfl rfl (o_ldqx S44 rfl (lx rfl) slx) ?_
      have hi2 : i < (f.addsL before (loTo f.nights (night.toNat))).length := by omega
      have hpp := isAdd_bnd (s := f.less (loTo f.nights (night.toNat))) hpg (hat i hi2).2.2
      have hpl2 : (plus before (nth (f.addsL before (loTo f.nights (night.toNat))) (i : Int))).length = f.shop.pigs.length := hpp.1
      have hpb2 := hpp.2
      have hpr := plansR_len hpg m (night + 1) _ hpl2 hpb2
      refine WPl.cs 11 rfl rfl rfl rfl (o_sig 10 (ren [(0, 2), (1, 9)]) (c131 before (nth (f.addsL before (loTo f.nights night.toNat)) (i : Int)) (by omega) (by have := (hat i (by omega)).1; omega) (bnd_mono hb (by omega)) (by exact bnd_mono (hat i (by omega)).2.1 (by omega))) e131 rfl rfl rfl w131 ⟨(lx rfl), (lx rfl), trivial⟩ r131) ?_
      refine WPl.v rfl (o_assign rfl) ?_
      refine WPl.nil ?_
      refine EX.then ?_
      refine WP.seq ?_
      refine WP.seq ?_
      refine WP.region ?_
      refine WPl.v rfl (o_ldpa G31 rfl rfl rfl) ?_
      refine WPl.v rfl (o_fldp F31_0 rfl) ?_
      refine WPl.v rfl (o_fldp F28_0 rfl) ?_
      refine WPl.v rfl (o_fldp F25_1 rfl) ?_
      refine WPl.v rfl (o_ldpg G23 rfl rfl rfl) ?_
      refine WPl.v rfl (o_fldp F31_0 rfl) ?_
      refine WPl.v rfl (o_fldp F28_0 rfl) ?_
      refine WPl.v rfl (o_fldp F25_2 rfl) ?_
      refine WPl.v rfl (o_ldpg G23 rfl rfl rfl) ?_
      refine WPl.v rfl (o_ldpa G23 rfl rfl rfl) ?_
      refine WPl.v rfl (o_move rfl) ?_
      refine WPl.cs 11 rfl rfl rfl rfl (o_sig 11 (ren [(0, 0), (1, 1), (2, 10)]) (c96 f f.shop.tl f.shop.th f.shop.al f.shop.ah (loTo f.nights night.toNat) (hiTo f.nights night.toNat) (plus before (nth (f.addsL before (loTo f.nights night.toNat)) (i : Int))) hs (by exact bnd_mono hpb2 (by omega)) (by rw [hpl2]; exact Nat.le_refl _) (by omega) (by omega) (by omega)) e96 rfl rfl rfl w96 ⟨(lx rfl), (lx rfl), (lx rfl), trivial⟩ r96) ?_
      refine WPl.v rfl (o_not rfl) ?_
      refine WPl.nil ?_
      refine EX.then ?_
      refine WP.cond rfl (fun hc3 => ?_) (fun hc3 => ?_)
      · try simp only [decide_eq_true_eq, decide_eq_false_iff_not, Bool.and_eq_true, Bool.or_eq_true, Bool.and_eq_false_iff, Bool.or_eq_false_iff, Bool.not_eq_true', Bool.not_eq_false', ne_eq, Decidable.not_not] at hc3
        have hsf : f.safeOn f.shop.tl f.shop.th f.shop.al f.shop.ah (loTo f.nights night.toNat) (hiTo f.nights night.toNat) (plus before (nth (f.addsL before (loTo f.nights night.toNat)) (i : Int))) = false := by simpa using hc3
        refine WP.exit ?_
        refine EX.exit_then ?_
        refine EX.exit_blk ?_
        refine EX.then ?_
        refine WP.region ?_
        refine WPl.v rfl (o_move rfl) ?_
        refine WPl.v rfl (o_add rfl rfl (by first | omega | (simp; omega)) (by first | omega | (simp; omega))) ?_
        refine WPl.v rfl (o_assign rfl) ?_
        refine WPl.nil ?_
        refine EX.again (i + 1) id (by first | omega | (constructor <;> omega)) (by omega) (LeR.of ⟨rfl, rfl, rfl, rfl, rfl, rfl, rfl, rfl, trivial⟩ ⟨(lx rfl), (lx rfl), (lx rfl), (lx rfl), trivial⟩ ⟨rfl, (congrArg (fun z => some (Ent.own 32 (EP.sl (EP.sl EP.int)).size (List.length z) (RP (EP.sl (EP.sl EP.int)) z))) (show (f.plansTo m night before i) = ((fun i => f.plansTo m night before i) (i + 1)) from by show _ = flatTo _ (i + 1); rw [flatTo, if_neg (by rw [hsf]; simp), List.append_nil]; rfl)), rfl, trivial⟩ rfl rfl rfl rfl rfl)
      · try simp only [decide_eq_true_eq, decide_eq_false_iff_not, Bool.and_eq_true, Bool.or_eq_true, Bool.and_eq_false_iff, Bool.or_eq_false_iff, Bool.not_eq_true', Bool.not_eq_false', ne_eq, Decidable.not_not] at hc3
        have hsf : f.safeOn f.shop.tl f.shop.th f.shop.al f.shop.ah (loTo f.nights night.toNat) (hiTo f.nights night.toNat) (plus before (nth (f.addsL before (loTo f.nights night.toNat)) (i : Int))) = true := by simpa using hc3
        refine WP.skip ?_
        refine EX.then ?_
        refine WP.seq ?_
        refine WP.region ?_
        refine WPl.v rfl (o_ldpa G31 rfl rfl rfl) ?_
        refine WPl.v rfl (o_move rfl) ?_
        refine WPl.v rfl (o_add rfl rfl (by first | omega | (simp; omega)) (by first | omega | (simp; omega))) ?_
        refine WPl.v rfl (o_move rfl) ?_
        refine WPl.cs 12 rfl rfl rfl rfl (o_sig 11 (ren [(0, 0), (1, 1), (2, 10)]) (c143 f (night + 1) (plus before (nth (f.addsL before (loTo f.nights night.toNat)) (i : Int))) m hf (by omega) (by omega) (by exact hpb2) (by exact hpl2)) e143 rfl rfl rfl w143 ⟨(lx rfl), (lx rfl), (lx rfl), trivial⟩ r143) ?_
        refine WPl.v rfl (o_assign rfl) ?_
        refine WPl.nil ?_
        refine EX.then ?_
        refine WP.seq ?_
        refine WP.region ?_
        refine WPl.v rfl (o_assign rfl) ?_
        refine WPl.nil ?_
        refine EX.then ?_
        refine WP.block ?_
        refine WP.loop (Gh := Nat) (fun k => ⟨12, [(1, .i (night)), (2, .e (.a (.q 2))), (3, .e (.a (.p 3 (0)))), (6, .e (.a (.v (.slice none 0 0)))), (7, .e (.a (.q 4))), (8, .e (.a (.p 5 (0)))), (9, .e (.a (.q 7))), (10, .i ((i : Int))), (28, .i ((i : Int))), (29, .e (.a (.q 7))), (30, .i (((f.addsL before (loTo f.nights night.toNat)).length : Int))), (31, .b (decide ((i : Int) < ((f.addsL before (loTo f.nights night.toNat)).length : Int)))), (34, .e (.a (.q 2))), (35, .e (.a (.q 7))), (36, .i ((i : Int))), (37, .e (.a (.q 8))), (38, .e (.a (.q 9))), (39, .e (.a (.q 10))), (11, .e (.a (.q 10))), (40, .e (.g [ai (f.shop.pounds), ai (f.shop.tl), ai (f.shop.th), ai (f.shop.al), ai (f.shop.ah), ai (f.shop.room), ai (f.shop.tpl), ai (f.shop.tph), ai (f.shop.apl), ai (f.shop.aph), .q 0, .q 1])), (41, .e (.a (.p 3 (0)))), (42, .e (.a (.p 3 (0)))), (43, .e (.a (.p 3 (1)))), (44, .e (.g [ai (f.shop.tl), ai (f.shop.th)])), (45, .e (.a (.p 3 (0)))), (46, .e (.a (.p 3 (0)))), (47, .e (.a (.p 3 (3)))), (48, .e (.g [ai (f.shop.al), ai (f.shop.ah)])), (49, .e (.g [ai (loTo f.nights night.toNat), ai (hiTo f.nights night.toNat)])), (50, .e (.a (.q 10))), (51, .b (f.safeOn f.shop.tl f.shop.th f.shop.al f.shop.ah (loTo f.nights night.toNat) (hiTo f.nights night.toNat) (plus before (nth (f.addsL before (loTo f.nights night.toNat)) (i : Int))))), (52, .b (!(f.safeOn f.shop.tl f.shop.th f.shop.al f.shop.ah (loTo f.nights night.toNat) (hiTo f.nights night.toNat) (plus before (nth (f.addsL before (loTo f.nights night.toNat)) (i : Int)))))), (53, .e (.g [ai (f.shop.pounds), ai (f.shop.tl), ai (f.shop.th), ai (f.shop.al), ai (f.shop.ah), ai (f.shop.room), ai (f.shop.tpl), ai (f.shop.tph), ai (f.shop.apl), ai (f.shop.aph), .q 0, .q 1])), (54, .i (night)), (55, .i (night + 1)), (56, .e (.a (.q 10))), (57, .e (.a (.q 11))), (12, .e (.a (.q 11))), (13, .i ((k : Int)))], [(0, PL EPig (f.shop.pigs)), (1, PL ENight (f.nights)), (2, PL EP.int (before)), (7, PL (EP.sl EP.int) (f.addsL before (loTo f.nights night.toNat))), (8, PP (EP.sl EP.int) (nth (f.addsL before (loTo f.nights night.toNat)) (i : Int))), (9, PL EP.int (nth (f.addsL before (loTo f.nights night.toNat)) (i : Int))), (10, PL EP.int (plus before (nth (f.addsL before (loTo f.nights night.toNat)) (i : Int)))), (11, PL (EP.sl (EP.sl EP.int)) (f.plansR m (night + 1) (plus before (nth (f.addsL before (loTo f.nights night.toNat)) (i : Int)))))], [(3, .blk [ai (f.shop.pounds), ai (f.shop.tl), ai (f.shop.th), ai (f.shop.al), ai (f.shop.ah), ai (f.shop.room), ai (f.shop.tpl), ai (f.shop.tph), ai (f.shop.apl), ai (f.shop.aph), .q 0, .q 1] 31), (4, .own 32 (EP.sl (EP.sl EP.int)).size (f.plansTo m night before i ++ f.plansRow m night before (nth (f.addsL before (loTo f.nights (night.toNat))) (i : Int)) k).length (RP (EP.sl (EP.sl EP.int)) (f.plansTo m night before i ++ f.plansRow m night before (nth (f.addsL before (loTo f.nights (night.toNat))) (i : Int)) k))), (5, .blk [ai (loTo f.nights night.toNat), ai (hiTo f.nights night.toNat)] 23)], [], []⟩) (fun k => k ≤ (f.plansR m (night + 1) (plus before (nth (f.addsL before (loTo f.nights night.toNat)) (i : Int)))).length) (fun k => (f.plansR m (night + 1) (plus before (nth (f.addsL before (loTo f.nights night.toNat)) (i : Int)))).length - k) (0) id ?_ (LeR.of ⟨rfl, rfl, rfl, rfl, rfl, rfl, rfl, rfl, rfl, rfl, rfl, rfl, rfl, rfl, rfl, rfl, rfl, rfl, rfl, rfl, rfl, rfl, rfl, rfl, rfl, rfl, rfl, rfl, rfl, rfl, rfl, rfl, rfl, rfl, rfl, rfl, rfl, rfl, rfl, trivial⟩ ⟨(lx rfl), (lx rfl), (lx rfl), (lx rfl), (lx rfl), (lx rfl), (lx rfl), (lx rfl), trivial⟩ ⟨rfl, (congrArg (fun z => some (Ent.own 32 (EP.sl (EP.sl EP.int)).size (List.length z) (RP (EP.sl (EP.sl EP.int)) z))) (show (f.plansTo m night before i) = ((fun k => f.plansTo m night before i ++ f.plansRow m night before (nth (f.addsL before (loTo f.nights (night.toNat))) (i : Int)) k) 0) from by simp [Fnd.plansRow, flatTo])), rfl, trivial⟩ rfl rfl rfl rfl rfl) ?_
        · first | trivial | omega | (constructor <;> omega) | simp
        intro k hφ
        have hk : k ≤ (f.plansR m (night + 1) (plus before (nth (f.addsL before (loTo f.nights night.toNat)) (i : Int)))).length := hφ
        refine WP.seq ?_
        refine WP.seq ?_
        refine WP.region ?_
        refine WPl.v rfl (o_move rfl) ?_
        refine WPl.v rfl (o_move rfl) ?_
        refine WPl.v rfl (o_lenq L127 rfl (lx rfl)) ?_
        refine WPl.v rfl (o_lss rfl rfl) ?_
        refine WPl.nil ?_
        refine EX.then ?_
        refine WP.cond rfl (fun hc4 => ?_) (fun hc4 => ?_)
        · try simp only [decide_eq_true_eq, decide_eq_false_iff_not, Bool.and_eq_true, Bool.or_eq_true, Bool.and_eq_false_iff, Bool.or_eq_false_iff, Bool.not_eq_true', Bool.not_eq_false', ne_eq, Decidable.not_not] at hc4
          refine WP.skip ?_
          refine EX.then ?_
          refine WP.seq ?_
          refine WP.block ?_
          refine WP.draw (nf := 20) [⟨[65, 66, 67, 68, 69, 70, 71, 72, 73, 74, 75], [12, 13, 14, 15, 16, 17, 18], [], [], []⟩, ⟨[64, 66, 70, 71, 72, 73], [15, 16], [], [], []⟩, ⟨[64, 65, 70, 71, 72, 73], [15, 16], [], [], []⟩, ⟨[64, 70, 71, 72, 73], [15, 16], [12], [12], [1, 2]⟩, ⟨[64, 70, 71, 72, 73], [15, 16], [13], [13], [1, 2, 3]⟩, ⟨[64, 70, 71, 72, 73], [15, 16], [14], [14], [1, 2, 3, 4]⟩, ⟨[64, 65, 66, 67, 68, 69, 71], [12, 13, 14], [], [], []⟩, ⟨[64, 65, 66, 67, 68, 69, 70], [12, 13, 14], [], [], []⟩, ⟨[64, 65, 66, 67, 68, 69], [12, 13, 14], [15], [15], [6, 7]⟩, ⟨[64, 65, 66, 67, 68, 69], [12, 13, 14], [16], [16], [6, 7, 8]⟩, ⟨[64], [], [17], [17, 14], [1, 2, 3, 4, 5, 6, 7, 8, 9]⟩, ⟨[64], [], [18], [18], [1, 2, 3, 4, 5, 6, 7, 8, 9, 10]⟩, ⟨[], [], [19], [19, 4], [0, 1, 2, 3, 4, 5, 6, 7, 8, 9, 10, 11]⟩, ⟨[], [], [], [], [0, 1, 2, 3, 4, 5, 6, 7, 8, 9, 10, 11, 12]⟩] (by kernel_rfl) (by kernel_rfl) ?_
          refine DRQ.v rfl rfl rfl (o_move rfl) ?_
          refine DRQ.v rfl rfl rfl (o_move rfl) ?_
          refine DRQ.v rfl rfl rfl (o_move rfl) ?_
          refine DRQ.x 12 rfl rfl rfl rfl (o_idx L32 rfl (lx rfl) rfl (by first | omega | (simp; omega)) (by first | omega | (simp; omega))) ?_
          refine DRQ.x 13 rfl rfl rfl rfl (o_ldqx S44 rfl (lx rfl) slx) ?_
          refine DRQ.l 14 rfl rfl rfl rfl (o_bsl (E := (EP.sl EP.int)) (l := [nth (f.addsL before (loTo f.nights night.toNat)) (i : Int)]) R32 rfl rfl (.cons ((.inl ⟨_, (lx rfl), PL.one⟩)) rfl (eok_sl (lx rfl)) (.nil)) rfl rfl) ?_
          refine DRQ.v rfl rfl rfl (o_move rfl) ?_
          refine DRQ.v rfl rfl rfl (o_move rfl) ?_
          refine DRQ.x 15 rfl rfl rfl rfl (o_idx L127 rfl (lx rfl) rfl (by first | omega | (simp; omega)) (by first | omega | (simp; omega))) ?_
          refine DRQ.x 16 rfl rfl rfl rfl (o_ldqx S32 rfl (lx rfl) slx) ?_
          refine DRQ.u1 17 rfl rfl rfl (OpG.settle1 (.inl rfl) rfl (o_apps R32 EP.sl_one rfl rfl rfl (lx rfl) (by have := (plansRow_len hpg (n := m) (night := night) (before := before) (l := nth (f.addsL before (loTo f.nights (night.toNat))) (i : Int)) hpl2 hpb2 k (by omega)); simp; omega) (by have := (plansRow_len hpg (n := m) (night := night) (before := before) (l := nth (f.addsL before (loTo f.nights (night.toNat))) (i : Int)) hpl2 hpb2 k (by omega)); simp; omega))) rfl ?_
          refine DRQ.l 18 rfl rfl rfl rfl (o_bsl (E := (EP.sl (EP.sl EP.int))) (l := [[nth (f.addsL before (loTo f.nights night.toNat)) (i : Int)] ++ (nth (f.plansR m (night + 1) (plus before (nth (f.addsL before (loTo f.nights night.toNat)) (i : Int)))) (k : Int))]) R127 rfl rfl (.cons ((.inl ⟨_, (lx rfl), PL.one⟩)) rfl (eok_sl (lx rfl)) (.nil)) rfl rfl) ?_
          refine DRQ.l2 19 4 rfl rfl rfl rfl (o_appo R127 EP.sl_one rfl rfl rfl rfl (by have := plansTo_len hpg (n := m) (night := night) hl hb (i := i) (by omega); have := plansR_len hpg m (night + 1) _ hpl2 hpb2; simp [flatTo_one, Fnd.plansRow]; omega) (by have := plansTo_len hpg (n := m) (night := night) hl hb (i := i) (by omega); have := plansR_len hpg m (night + 1) _ hpl2 hpb2; simp [flatTo_one, Fnd.plansRow]; omega)) ?_
          refine DRQ.v rfl rfl rfl (o_assign rfl) ?_
          refine DRQ.nil' ?_
          refine EX.blk ?_
          refine EX.then ?_
          refine WP.region ?_
          refine WPl.v rfl (o_move rfl) ?_
          refine WPl.v rfl (o_add rfl rfl (by first | omega | (simp; omega)) (by first | omega | (simp; omega))) ?_
          refine WPl.v rfl (o_assign rfl) ?_
          refine WPl.nil ?_
          refine EX.again (k + 1) (ren [(4, 19)]) (by first | omega | (constructor <;> omega)) (by omega) (LeR.of ⟨rfl, rfl, rfl, rfl, rfl, rfl, rfl, rfl, rfl, rfl, rfl, rfl, rfl, rfl, rfl, rfl, rfl, rfl, rfl, rfl, rfl, rfl, rfl, rfl, rfl, rfl, rfl, rfl, rfl, rfl, rfl, rfl, rfl, rfl, rfl, rfl, rfl, rfl, rfl, trivial⟩ ⟨(lx rfl), (lx rfl), (lx rfl), (lx rfl), (lx rfl), (lx rfl), (lx rfl), (lx rfl), trivial⟩ ⟨rfl, (congrArg (fun z => some (Ent.own 32 (EP.sl (EP.sl EP.int)).size (List.length z) (RP (EP.sl (EP.sl EP.int)) z))) (show ((f.plansTo m night before i ++ f.plansRow m night before (nth (f.addsL before (loTo f.nights (night.toNat))) (i : Int)) k) ++ [[nth (f.addsL before (loTo f.nights night.toNat)) (i : Int)] ++ (nth (f.plansR m (night + 1) (plus before (nth (f.addsL before (loTo f.nights night.toNat)) (i : Int)))) (k : Int))]) = ((fun k => f.plansTo m night before i ++ f.plansRow m night before (nth (f.addsL before (loTo f.nights (night.toNat))) (i : Int)) k) (k + 1)) from by simp [Fnd.plansRow, flatTo])), rfl, trivial⟩ rfl rfl rfl rfl rfl)
        · try simp only [decide_eq_true_eq, decide_eq_false_iff_not, Bool.and_eq_true, Bool.or_eq_true, Bool.and_eq_false_iff, Bool.or_eq_false_iff, Bool.not_eq_true', Bool.not_eq_false', ne_eq, Decidable.not_not] at hc4
          refine WP.exit ?_
          refine EX.exit_then ?_
          refine EX.exit_then ?_
          refine EX.exit_blk ?_
          refine EX.blk ?_
          refine EX.then ?_
          refine WP.region ?_
          refine WPl.v rfl (o_move rfl) ?_
          refine WPl.v rfl (o_add rfl rfl (by first | omega | (simp; omega)) (by first | omega | (simp; omega))) ?_
          refine WPl.v rfl (o_assign rfl) ?_
          refine WPl.nil ?_
          refine EX.again (i + 1) id (by first | omega | (constructor <;> omega)) (by omega) (LeR.of ⟨rfl, rfl, rfl, rfl, rfl, rfl, rfl, rfl, trivial⟩ ⟨(lx rfl), (lx rfl), (lx rfl), (lx rfl), trivial⟩ ⟨rfl, (congrArg (fun z => some (Ent.own 32 (EP.sl (EP.sl EP.int)).size (List.length z) (RP (EP.sl (EP.sl EP.int)) z))) (show (f.plansTo m night before i ++ f.plansRow m night before (nth (f.addsL before (loTo f.nights (night.toNat))) (i : Int)) k) = ((fun i => f.plansTo m night before i) (i + 1)) from by rw [show k = (f.plansR m (night + 1) (plus before (nth (f.addsL before (loTo f.nights (night.toNat))) (i : Int)))).length by omega]; show _ = flatTo _ (i + 1); rw [flatTo, if_pos hsf]; rfl)), rfl, trivial⟩ rfl rfl rfl rfl rfl)
    · try simp only [decide_eq_true_eq, decide_eq_false_iff_not, Bool.and_eq_true, Bool.or_eq_true, Bool.and_eq_false_iff, Bool.or_eq_false_iff, Bool.not_eq_true', Bool.not_eq_false', ne_eq, Decidable.not_not] at hc2
      refine WP.exit ?_
      refine EX.exit_then ?_
      refine EX.exit_then ?_
      refine EX.exit_blk ?_
      refine EX.then ?_
      refine WP.seq ?_
      refine WP.region ?_
      refine WPl.v rfl (o_move rfl) ?_
      refine WPl.v rfl (o_assign rfl) ?_
      refine WPl.nil ?_
      refine EX.then ?_
      refine WP.ret ?_
      refine EX.imp (Imp.frz (E := (EP.sl (EP.sl EP.int))) (l := f.plansTo m night before i) 4 rfl rfl) ?_
      have he : i = (f.addsL before (loTo f.nights (night.toNat))).length := by omega
      subst he
      rw [plansR_to]
      exact EX.fin (ren [(0, 4)]) (.inl rfl) rfl (.tmp rfl .nil) rfl (by simp [SV.res, El.res, At.res, keys]) ⟨(lx rfl), trivial⟩ (by simp) (by simp)
termination_by n
decreasing_by all_goals omega
end Go.Flong
