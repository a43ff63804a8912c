/- Walks (printed by gen.py off the specs). Walks (printed by gen.py off the specs). -/
import Derived.Test.YtglbnodjcngefaaHW1
import Derived.Test.YtglbnodjcngefaaBase2
import Derived.Test.YtglbnodjcngefaaProg
set_option linter.unusedSimpArgs false
set_option linter.unusedVariables false
namespace Go.Flong
open Go Go.Eng Go.Proofs
theorem w109 {l : List Int} : ∀ x ∈ ([.e (.a (.q 0))] : List SV), x.res (keys (α := Pred) [(0, PL EP.int (l))]) := by simp [SV.res, El.res, At.res, keys]
theorem r109 {l : List Int} : SV.res (keys (α := Pred) []) (.i (sumI l l.length)) := by simp [SV.res, El.res, At.res, keys]
set_option maxHeartbeats 4000000 in
theorem c109 (l : List Int) (hb : bnd l 1000) (hl : l.length ≤ 40) : Sig Try.prog 109 [.e (.a (.q 0))] [(0, PL EP.int (l))] (.i (sumI l l.length)) [] := by
  have hsb := sumI_bnd hb
  refine Sig.intro Try.func109 rfl 1 [(0, .e (.a (.q 0)))] rfl w109 rfl rfl fun I w => ?_
  refine WP.seq ?_
  refine WP.region ?_
  refine WPl.v rfl (o_assign rfl) ?_
  refine WPl.nil ?_
  refine EX.then ?_
  refine WP.seq ?_
  refine WP.region ?_
  refine WPl.v rfl (o_assign rfl) ?_
  refine WPl.nil ?_
  refine EX.then ?_
  refine WP.seq ?_
  refine WP.seq ?_
  refine WP.region ?_
  refine WPl.v rfl (o_assign rfl) ?_
  refine WPl.nil ?_
  refine EX.then ?_
  refine WP.block ?_
  refine WP.loop (Gh := Nat) (fun i => ⟨1, [(0, .e (.a (.q 0))), (2, .i (0)), (3, .i (sumI l i)), (4, .i ((i : Int)))], [(0, PL EP.int (l))], [], [], []⟩) (fun i => i ≤ l.length) (fun i => l.length - i) (0) id ?_ (LeR.of ⟨rfl, rfl, rfl, rfl, trivial⟩ ⟨(lx rfl), trivial⟩ trivial rfl rfl rfl rfl rfl) ?_
  · first | trivial | omega | (constructor <;> omega) | simp
  intro i hφ
  have h1 := hsb i hφ
  refine WP.seq ?_
  refine WP.seq ?_
  refine WP.region ?_
  refine WPl.v rfl (o_move rfl) ?_
  refine WPl.v rfl (o_move rfl) ?_
  refine WPl.v rfl (o_lenq L44 rfl (lx rfl)) ?_
  refine WPl.v rfl (o_lss rfl rfl) ?_
  refine WPl.nil ?_
  refine EX.then ?_
  refine WP.cond rfl (fun hc1 => ?_) (fun hc1 => ?_)
  · try simp only [decide_eq_true_eq, decide_eq_false_iff_not, Bool.and_eq_true, Bool.or_eq_true, Bool.and_eq_false_iff, Bool.or_eq_false_iff, Bool.not_eq_true', Bool.not_eq_false', ne_eq, Decidable.not_not] at hc1
    refine WP.skip ?_
    refine EX.then ?_
    refine WP.seq ?_
    refine WP.block ?_
    refine WP.region ?_
    refine WPl.v rfl (o_move rfl) ?_
    refine WPl.v rfl (o_move rfl) ?_
    refine WPl.v rfl (o_move rfl) ?_
    refine WPl.x 1 2 rfl rfl rfl (o_idx L44 rfl (lx rfl) rfl (by first | omega | (simp; omega)) (by first | omega | (simp; omega))) ?_
    refine WPl.v rfl (o_ldq S3 rfl (lx rfl) intc) ?_
    have h2 := hb i (by omega)
    refine WPl.v rfl (o_add rfl rfl (by first | omega | (simp; omega)) (by first | omega | (simp; omega))) ?_
    refine WPl.v rfl (o_assign rfl) ?_
    refine WPl.nil ?_
    refine EX.blk ?_
    refine EX.then ?_
    refine WP.region ?_
    refine WPl.v rfl (o_move rfl) ?_
    refine WPl.v rfl (o_add rfl rfl (by first | omega | (simp; omega)) (by first | omega | (simp; omega))) ?_
    refine WPl.v rfl (o_assign rfl) ?_
    refine WPl.nil ?_
    refine EX.again (i + 1) id (by first | omega | (constructor <;> omega)) (by omega) (LeR.of ⟨rfl, rfl, rfl, rfl, trivial⟩ ⟨(lx rfl), trivial⟩ trivial rfl rfl rfl rfl rfl)
  · try simp only [decide_eq_true_eq, decide_eq_false_iff_not, Bool.and_eq_true, Bool.or_eq_true, Bool.and_eq_false_iff, Bool.or_eq_false_iff, Bool.not_eq_true', Bool.not_eq_false', ne_eq, Decidable.not_not] at hc1
    refine WP.exit ?_
    refine EX.exit_then ?_
    refine EX.exit_then ?_
    refine EX.exit_blk ?_
    refine EX.then ?_
    refine WP.seq ?_
    refine WP.region ?_
    refine WPl.v rfl (o_move rfl) ?_
    refine WPl.v rfl (o_assign rfl) ?_
    refine WPl.nil ?_
    refine EX.then ?_
    refine WP.ret ?_
    have hi2 : i = l.length := by omega
    subst hi2
    exact EX.fin id (.inl rfl) rfl (.tmp rfl .nil) rfl (by simp [SV.res, El.res, At.res, keys]) trivial (by simp) (by simp)
end Go.Flong
namespace Go.Flong
open Go Go.Eng Go.Proofs
theorem e109 : Enters' Try.prog 109 := Try.call109
theorem e108 : Enters' Try.prog 108 := Try.call108
theorem w52 {p : List (List Int)} : ∀ x ∈ ([.e (.a (.q 0))] : List SV), x.res (keys (α := Pred) [(0, PL (EP.sl EP.int) (p))]) := by simp [SV.res, El.res, At.res, keys]
theorem r52 {p : List (List Int)} : SV.res (keys (α := Pred) []) (.i (addsTo p p.length)) := by simp [SV.res, El.res, At.res, keys]
set_option maxHeartbeats 4000000 in
theorem c52 (p : List (List Int)) (np : Nat) (hp : RowsB np p) (hnp : np ≤ 40) : Sig Try.prog 52 [.e (.a (.q 0))] [(0, PL (EP.sl EP.int) (p))] (.i (addsTo p p.length)) [] := by
  have hb := addsTo_bnd p
  have hp1 := hp.1
  refine Sig.intro Try.func52 rfl 1 [(0, .e (.a (.q 0)))] rfl w52 rfl rfl fun I w => ?_
  refine WP.seq ?_
  refine WP.region ?_
  refine WPl.v rfl (o_assign rfl) ?_
  refine WPl.nil ?_
  refine EX.then ?_
  refine WP.seq ?_
  refine WP.region ?_
  refine WPl.v rfl (o_assign rfl) ?_
  refine WPl.nil ?_
  refine EX.then ?_
  refine WP.seq ?_
  refine WP.seq ?_
  refine WP.region ?_
  refine WPl.v rfl (o_assign rfl) ?_
  refine WPl.nil ?_
  refine EX.then ?_
  refine WP.block ?_
  refine WP.loop (Gh := Nat) (fun i => ⟨1, [(0, .e (.a (.q 0))), (2, .i (0)), (3, .i (addsTo p i)), (4, .i ((i : Int)))], [(0, PL (EP.sl EP.int) (p))], [], [], []⟩) (fun i => i ≤ p.length) (fun i => p.length - i) (0) id ?_ (LeR.of ⟨rfl, rfl, rfl, rfl, trivial⟩ ⟨(lx rfl), trivial⟩ trivial rfl rfl rfl rfl rfl) ?_
  · first | trivial | omega | (constructor <;> omega) | simp
  intro i hφ
  have hi : i ≤ p.length := hφ
  have h1 := hb i
  refine WP.seq ?_
  refine WP.seq ?_
  refine WP.region ?_
  refine WPl.v rfl (o_move rfl) ?_
  refine WPl.v rfl (o_move rfl) ?_
  refine WPl.v rfl (o_lenq L32 rfl (lx rfl)) ?_
  refine WPl.v rfl (o_lss rfl rfl) ?_
  refine WPl.nil ?_
  refine EX.then ?_
  refine WP.cond rfl (fun hc1 => ?_) (fun hc1 => ?_)
  · try simp only [decide_eq_true_eq, decide_eq_false_iff_not, Bool.and_eq_true, Bool.or_eq_true, Bool.and_eq_false_iff, Bool.or_eq_false_iff, Bool.not_eq_true', Bool.not_eq_false', ne_eq, Decidable.not_not] at hc1
    refine WP.skip ?_
    refine EX.then ?_
    refine WP.seq ?_
    refine WP.block ?_
    refine WP.seq ?_
    refine WP.region ?_
    refine WPl.v rfl (o_move rfl) ?_
    refine WPl.v rfl (o_move rfl) ?_
    refine WPl.x 1 2 rfl rfl rfl (o_idx L32 rfl (lx rfl) rfl (by first | omega | (simp; omega)) (by first | omega | (simp; omega))) ?_
    refine WPl.x 2 3 rfl rfl rfl (o_ldqx S44 rfl (lx rfl) slx) ?_
    refine WPl.cs 3 rfl rfl rfl rfl (o_sig 3 (ren [(0, 2)]) (c109 (nth p (i : Int)) (hp.2 i (by omega)).2 (by have := (hp.2 i (by omega)).1; omega)) e109 rfl rfl rfl w109 ⟨(lx rfl), trivial⟩ r109) ?_
    refine WPl.v rfl (o_gtr rfl rfl) ?_
    refine WPl.nil ?_
    refine EX.then ?_
    refine WP.cond rfl (fun hc2 => ?_) (fun hc2 => ?_)
    · try simp only [decide_eq_true_eq, decide_eq_false_iff_not, Bool.and_eq_true, Bool.or_eq_true, Bool.and_eq_false_iff, Bool.or_eq_false_iff, Bool.not_eq_true', Bool.not_eq_false', ne_eq, Decidable.not_not] at hc2
      refine WP.region ?_
      refine WPl.v rfl (o_move rfl) ?_
      refine WPl.v rfl (o_add rfl rfl (by first | omega | (simp; omega)) (by first | omega | (simp; omega))) ?_
      refine WPl.v rfl (o_assign rfl) ?_
      refine WPl.nil ?_
      refine EX.blk ?_
      refine EX.then ?_
      refine WP.region ?_
      refine WPl.v rfl (o_move rfl) ?_
      refine WPl.v rfl (o_add rfl rfl (by first | omega | (simp; omega)) (by first | omega | (simp; omega))) ?_
      refine WPl.v rfl (o_assign rfl) ?_
      refine WPl.nil ?_
      refine EX.again (i + 1) id (by first | omega | (constructor <;> omega)) (by omega) (LeR.of ⟨rfl, rfl, (congrArg (fun z => some (SV.i z)) (show ((addsTo p i) + 1) = ((fun i => addsTo p i) (i + 1)) from by simp [addsTo, hc2]; try omega)), rfl, trivial⟩ ⟨(lx rfl), trivial⟩ trivial rfl rfl rfl rfl rfl)
    · try simp only [decide_eq_true_eq, decide_eq_false_iff_not, Bool.and_eq_true, Bool.or_eq_true, Bool.and_eq_false_iff, Bool.or_eq_false_iff, Bool.not_eq_true', Bool.not_eq_false', ne_eq, Decidable.not_not] at hc2
      refine WP.skip ?_
      refine EX.blk ?_
      refine EX.then ?_
      refine WP.region ?_
      refine WPl.v rfl (o_move rfl) ?_
      refine WPl.v rfl (o_add rfl rfl (by first | omega | (simp; omega)) (by first | omega | (simp; omega))) ?_
      refine WPl.v rfl (o_assign rfl) ?_
      refine WPl.nil ?_
      refine EX.again (i + 1) id (by first | omega | (constructor <;> omega)) (by omega) (LeR.of ⟨rfl, rfl, (congrArg (fun z => some (SV.i z)) (show (addsTo p i) = ((fun i => addsTo p i) (i + 1)) from by simp [addsTo, hc2]; try omega)), rfl, trivial⟩ ⟨(lx rfl), trivial⟩ trivial rfl rfl rfl rfl rfl)
  · try simp only [decide_eq_true_eq, decide_eq_false_iff_not, Bool.and_eq_true, Bool.or_eq_true, Bool.and_eq_false_iff, Bool.or_eq_false_iff, Bool.not_eq_true', Bool.not_eq_false', ne_eq, Decidable.not_not] at hc1
    refine WP.exit ?_
    refine EX.exit_then ?_
    refine EX.exit_then ?_
    refine EX.exit_blk ?_
    refine EX.then ?_
    refine WP.seq ?_
    refine WP.region ?_
    refine WPl.v rfl (o_move rfl) ?_
    refine WPl.v rfl (o_assign rfl) ?_
    refine WPl.nil ?_
    refine EX.then ?_
    refine WP.ret ?_
    have he : i = p.length := by omega
    subst he
    exact EX.fin id (.inl rfl) rfl (.tmp rfl .nil) rfl (by simp [SV.res, El.res, At.res, keys]) trivial (by simp) (by simp)
theorem w51 {f : Fnd} {p : List (List Int)} : ∀ x ∈ ([.e (.g [ai (f.shop.pounds), ai (f.shop.tl), ai (f.shop.th), ai (f.shop.al), ai (f.shop.ah), ai (f.shop.room), ai (f.shop.tpl), ai (f.shop.tph), ai (f.shop.apl), ai (f.shop.aph), .q 0, .q 1]), .e (.a (.q 2))] : List SV), x.res (keys (α := Pred) [(0, PL EPig (f.shop.pigs)), (1, PL ENight (f.nights)), (2, PL (EP.sl EP.int) (p))]) := by simp [SV.res, El.res, At.res, keys]
theorem r51 {f : Fnd} {p : List (List Int)} : SV.res (keys (α := Pred) []) (.i (f.shop.cost p)) := by simp [SV.res, El.res, At.res, keys]
set_option maxHeartbeats 4000000 in
theorem c51 (f : Fnd) (p : List (List Int)) (hs : PigsOK f.shop.pigs) (hp : RowsB f.shop.pigs.length p) : Sig Try.prog 51 [.e (.g [ai (f.shop.pounds), ai (f.shop.tl), ai (f.shop.th), ai (f.shop.al), ai (f.shop.ah), ai (f.shop.room), ai (f.shop.tpl), ai (f.shop.tph), ai (f.shop.apl), ai (f.shop.aph), .q 0, .q 1]), .e (.a (.q 2))] [(0, PL EPig (f.shop.pigs)), (1, PL ENight (f.nights)), (2, PL (EP.sl EP.int) (p))] (.i (f.shop.cost p)) [] := by
  have hp1 := hp.1
  have hc := costTo_bnd hs hp
  refine Sig.intro Try.func51 rfl 3 [(0, .e (.g [ai (f.shop.pounds), ai (f.shop.tl), ai (f.shop.th), ai (f.shop.al), ai (f.shop.ah), ai (f.shop.room), ai (f.shop.tpl), ai (f.shop.tph), ai (f.shop.apl), ai (f.shop.aph), .q 0, .q 1])), (1, .e (.a (.q 2)))] rfl w51 rfl rfl fun I w => ?_
  refine WP.seq ?_
  refine WP.region ?_
  refine WPl.l 3 4 rfl rfl rfl (o_boxg rfl) ?_
  refine WPl.v rfl (o_assign rfl) ?_
  refine WPl.nil ?_
  refine EX.then ?_
  refine WP.seq ?_
  refine WP.region ?_
  refine WPl.v rfl (o_assign rfl) ?_
  refine WPl.nil ?_
  refine EX.then ?_
  refine WP.seq ?_
  refine WP.seq ?_
  refine WP.region ?_
  refine WPl.v rfl (o_assign rfl) ?_
  refine WPl.nil ?_
  refine EX.then ?_
  refine WP.block ?_
  refine WP.loop (Gh := Nat) (fun i => ⟨4, [(1, .e (.a (.q 2))), (2, .e (.a (.p 3 (0)))), (4, .i (0)), (5, .i (f.shop.costTo p i)), (6, .i ((i : Int)))], [(0, PL EPig (f.shop.pigs)), (1, PL ENight (f.nights)), (2, PL (EP.sl EP.int) (p))], [(3, .blk [ai (f.shop.pounds), ai (f.shop.tl), ai (f.shop.th), ai (f.shop.al), ai (f.shop.ah), ai (f.shop.room), ai (f.shop.tpl), ai (f.shop.tph), ai (f.shop.apl), ai (f.shop.aph), .q 0, .q 1] 31)], [], []⟩) (fun i => i ≤ p.length) (fun i => p.length - i) (0) id ?_ (LeR.of ⟨rfl, rfl, rfl, rfl, rfl, trivial⟩ ⟨(lx rfl), (lx rfl), (lx rfl), trivial⟩ ⟨rfl, trivial⟩ rfl rfl rfl rfl rfl) ?_
  · first | trivial | omega | (constructor <;> omega) | simp
  intro i hφ
  have hi : i ≤ p.length := hφ
  refine WP.seq ?_
  refine WP.seq ?_
  refine WP.region ?_
  refine WPl.v rfl (o_move rfl) ?_
  refine WPl.v rfl (o_move rfl) ?_
  refine WPl.v rfl (o_lenq L32 rfl (lx rfl)) ?_
  refine WPl.v rfl (o_lss rfl rfl) ?_
  refine WPl.nil ?_
  refine EX.then ?_
  refine WP.cond rfl (fun hc1 => ?_) (fun hc1 => ?_)
  · try simp only [decide_eq_true_eq, decide_eq_false_iff_not, Bool.and_eq_true, Bool.or_eq_true, Bool.and_eq_false_iff, Bool.or_eq_false_iff, Bool.not_eq_true', Bool.not_eq_false', ne_eq, Decidable.not_not] at hc1
    refine WP.skip ?_
    refine EX.then ?_
    refine WP.seq ?_
    refine WP.block ?_
    refine WP.draw (nf := 6) [⟨[14, 15, 16, 17, 18, 19, 20], [4, 5], [], [], []⟩, ⟨[13, 16, 17, 18, 19], [4, 5], [], [], []⟩, ⟨[13, 16, 17, 18, 19], [4, 5], [], [], [1]⟩, ⟨[13, 14, 15, 17], [], [], [], []⟩, ⟨[13, 14, 15, 16], [], [], [], []⟩, ⟨[13, 14, 15], [], [4], [4], [3, 4]⟩, ⟨[13, 14, 15], [], [5], [5], [3, 4, 5]⟩, ⟨[13], [], [], [], [1, 2, 3, 4, 5, 6]⟩, ⟨[], [], [], [], [0, 1, 2, 3, 4, 5, 6, 7]⟩, ⟨[], [], [], [], [0, 1, 2, 3, 4, 5, 6, 7, 8]⟩] (by kernel_rfl) (by kernel_rfl) ?_
    refine DRQ.v rfl rfl rfl (o_move rfl) ?_
    refine DRQ.v rfl rfl rfl (o_fldp F31_0 rfl) ?_
    refine DRQ.v rfl rfl rfl (o_ldpg G28 rfl rfl rfl) ?_
    refine DRQ.v rfl rfl rfl (o_move rfl) ?_
    refine DRQ.v rfl rfl rfl (o_move rfl) ?_
    refine DRQ.x 4 rfl rfl rfl rfl (o_idx L32 rfl (lx rfl) rfl (by first | omega | (simp; omega)) (by first | omega | (simp; omega))) ?_
    refine DRQ.x 5 rfl rfl rfl rfl (o_ldqx S44 rfl (lx rfl) slx) ?_
    have h1 := hc i (by omega)
    have h2 := hp.2 i (by omega)
    have h3 := sumOf_bnd (f := Pig.pence) hs (by rw [h2.1]; exact Nat.le_refl _) h2.2 (fun p h => by have := Pig.bnds h; omega)
    refine DRQ.cs rfl rfl rfl rfl (o_sig 6 (ren [(0, 0), (1, 5)]) (c108 f.shop (nth p (i : Int)) hs (hp.2 i (by omega)).2 (by rw [(hp.2 i (by omega)).1]; exact Nat.le_refl _)) e108 rfl rfl rfl w108 ⟨(lx rfl), (lx rfl), trivial⟩ r108) ?_
    refine DRQ.v rfl rfl rfl (o_add rfl rfl (by first | omega | (simp; omega)) (by first | omega | (simp; omega))) ?_
    refine DRQ.v rfl rfl rfl (o_assign rfl) ?_
    refine DRQ.nil' ?_
    refine EX.blk ?_
    refine EX.then ?_
    refine WP.region ?_
    refine WPl.v rfl (o_move rfl) ?_
    refine WPl.v rfl (o_add rfl rfl (by first | omega | (simp; omega)) (by first | omega | (simp; omega))) ?_
    refine WPl.v rfl (o_assign rfl) ?_
    refine WPl.nil ?_
    refine EX.again (i + 1) id (by first | omega | (constructor <;> omega)) (by omega) (LeR.of ⟨rfl, rfl, rfl, rfl, rfl, trivial⟩ ⟨(lx rfl), (lx rfl), (lx rfl), trivial⟩ ⟨rfl, trivial⟩ rfl rfl rfl rfl rfl)
  · try simp only [decide_eq_true_eq, decide_eq_false_iff_not, Bool.and_eq_true, Bool.or_eq_true, Bool.and_eq_false_iff, Bool.or_eq_false_iff, Bool.not_eq_true', Bool.not_eq_false', ne_eq, Decidable.not_not] at hc1
    refine WP.exit ?_
    refine EX.exit_then ?_
    refine EX.exit_then ?_
    refine EX.exit_blk ?_
    refine EX.then ?_
    refine WP.seq ?_
    refine WP.region ?_
    refine WPl.v rfl (o_move rfl) ?_
    refine WPl.v rfl (o_assign rfl) ?_
    refine WPl.nil ?_
    refine EX.then ?_
    refine WP.ret ?_
    have he : i = p.length := by omega
    subst he
    rw [show f.shop.cost p = f.shop.costTo p p.length from rfl]
    exact EX.fin id (.inl rfl) rfl (.tmp rfl .nil) rfl (by simp [SV.res, El.res, At.res, keys]) trivial (by simp) (by simp)
end Go.Flong
