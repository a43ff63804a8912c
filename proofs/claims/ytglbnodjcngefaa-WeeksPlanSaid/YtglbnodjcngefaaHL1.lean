/- Walks (printed by gen.py off the specs). -/
import Derived.Test.YtglbnodjcngefaaHP7
import Derived.Test.YtglbnodjcngefaaBase8
import Derived.Test.YtglbnodjcngefaaEngY
import Derived.Test.YtglbnodjcngefaaProg
set_option linter.unusedSimpArgs false
set_option linter.unusedVariables false
namespace Go.Flong
open Go Go.Eng Go.Proofs
theorem e126 : Enters' Try.prog 126 := Try.call126
theorem e27 : Enters' Try.prog 27 := Try.call27
theorem e74 : Enters' Try.prog 74 := Try.call74
theorem e22 : Enters' Try.prog 22 := Try.call22
theorem B25 : BldT Try.prog 25 [(0, 1), (1, 2), (3, 2)] [.int .i64 0, .int .i64 0, .int .i64 0, .int .i64 0, .int .i64 0] := BldT.mk (ns := [1, 2, 2]) Try.underlying25 ⟨Try.sizeOf3, Try.sizeOf23, Try.sizeOf23, trivial⟩ rfl Try.zeroValue25 rfl
theorem B78 : BldT Try.prog 78 [(0, 1), (1, 1), (2, 1), (3, 1), (4, 1)] [.int .i64 0, .int .i64 0, .int .i64 0, .int .i64 0, .int .i64 0] := BldT.mk (ns := [1, 1, 1, 1, 1]) Try.underlying78 ⟨Try.sizeOf3, Try.sizeOf3, Try.sizeOf3, Try.sizeOf3, Try.sizeOf3, trivial⟩ rfl Try.zeroValue78 rfl
theorem B28 : BldT Try.prog 28 [(0, 5), (5, 1), (6, 2), (8, 2), (10, 1)] [.int .i64 0, .int .i64 0, .int .i64 0, .int .i64 0, .int .i64 0, .int .i64 0, .int .i64 0, .int .i64 0, .int .i64 0, .int .i64 0, .slice none 0 0] := BldT.mk (ns := [5, 1, 2, 2, 1]) Try.underlying28 ⟨Try.sizeOf25, Try.sizeOf3, Try.sizeOf23, Try.sizeOf23, Try.sizeOf26, trivial⟩ rfl Try.zeroValue28 rfl
theorem B75 : BldT Try.prog 75 [(0, 2), (2, 1)] [.int .i64 0, .int .i64 0, .int .i64 0] := BldT.mk (ns := [2, 1]) Try.underlying75 ⟨Try.sizeOf23, Try.sizeOf3, trivial⟩ rfl Try.zeroValue75 rfl
theorem e64 : Enters' Try.prog 64 := Try.call64
theorem e75 : Enters' Try.prog 75 := Try.call75
theorem e25 : Enters' Try.prog 25 := Try.call25
theorem e28 : Enters' Try.prog 28 := Try.call28
theorem e45 : Enters' Try.prog 45 := Try.call45
theorem e57 : Enters' Try.prog 57 := Try.call57
theorem e43 : Enters' Try.prog 43 := Try.call43
theorem e23 : Enters' Try.prog 23 := Try.call23
theorem e31 : Enters' Try.prog 31 := Try.call31
theorem w126 {s : Shop} : ∀ x ∈ ([.e (.g [ai (s.pounds), ai (s.tl), ai (s.th), ai (s.al), ai (s.ah), ai (s.room), ai (s.tpl), ai (s.tph), ai (s.apl), ai (s.aph), .q 0])] : List SV), x.res (keys (α := Pred) [(0, PL EPig (s.pigs))]) := by simp [SV.res, El.res, At.res, keys]
theorem r126 {s : Shop} : SV.res (keys (α := Pred) []) (.b (hugeS s)) := by simp [SV.res, El.res, At.res, keys]
set_option maxHeartbeats 4000000 in
theorem c126 (s : Shop)  : Sig Try.prog 126 [.e (.g [ai (s.pounds), ai (s.tl), ai (s.th), ai (s.al), ai (s.ah), ai (s.room), ai (s.tpl), ai (s.tph), ai (s.apl), ai (s.aph), .q 0])] [(0, PL EPig (s.pigs))] (.b (hugeS s)) [] := by
  refine Sig.intro Try.func126 rfl 1 [(0, .e (.g [ai (s.pounds), ai (s.tl), ai (s.th), ai (s.al), ai (s.ah), ai (s.room), ai (s.tpl), ai (s.tph), ai (s.apl), ai (s.aph), .q 0]))] rfl w126 rfl rfl fun I w => ?_
  refine WP.seq ?_
  refine WP.region ?_
  refine WPl.l 1 2 rfl rfl rfl (o_boxg rfl) ?_
  refine WPl.v rfl (o_assign rfl) ?_
  refine WPl.nil ?_
  refine EX.then ?_
  refine WP.seq ?_
  refine WP.region ?_
  refine WPl.v rfl (o_fldp F28_4 rfl) ?_
  refine WPl.v rfl (o_ldp S26 rfl rfl rfl) ?_
  refine WPl.v rfl (o_lenq L26 rfl (lx rfl)) ?_
  refine WPl.v rfl (o_gtr rfl rfl) ?_
  refine WPl.v rfl (o_assign rfl) ?_
  refine WPl.nil ?_
  refine EX.then ?_
  refine WP.ret ?_
  exact EX.fin id (.inl rfl) rfl (.tmp rfl .nil) rfl r126 trivial (by simp) (by simp)
theorem w74 {f : Fnd} : ∀ x ∈ ([.e (.g [ai (f.shop.pounds), ai (f.shop.tl), ai (f.shop.th), ai (f.shop.al), ai (f.shop.ah), ai (f.shop.room), ai (f.shop.tpl), ai (f.shop.tph), ai (f.shop.apl), ai (f.shop.aph), .q 0, .q 1])] : List SV), x.res (keys (α := Pred) [(0, PL EPig (f.shop.pigs)), (1, PL ENight (f.nights))]) := by simp [SV.res, El.res, At.res, keys]
theorem r74 {f : Fnd} : SV.res (keys (α := Pred) []) (.b (f.huge)) := by simp [SV.res, El.res, At.res, keys]
set_option maxHeartbeats 4000000 in
theorem c74 (f : Fnd)  : Sig Try.prog 74 [.e (.g [ai (f.shop.pounds), ai (f.shop.tl), ai (f.shop.th), ai (f.shop.al), ai (f.shop.ah), ai (f.shop.room), ai (f.shop.tpl), ai (f.shop.tph), ai (f.shop.apl), ai (f.shop.aph), .q 0, .q 1])] [(0, PL EPig (f.shop.pigs)), (1, PL ENight (f.nights))] (.b (f.huge)) [] := by
  refine Sig.intro Try.func74 rfl 2 [(0, .e (.g [ai (f.shop.pounds), ai (f.shop.tl), ai (f.shop.th), ai (f.shop.al), ai (f.shop.ah), ai (f.shop.room), ai (f.shop.tpl), ai (f.shop.tph), ai (f.shop.apl), ai (f.shop.aph), .q 0, .q 1]))] rfl w74 rfl rfl fun I w => ?_
  refine WP.seq ?_
  refine WP.region ?_
  refine WPl.l 2 3 rfl rfl rfl (o_boxg rfl) ?_
  refine WPl.v rfl (o_assign rfl) ?_
  refine WPl.nil ?_
  refine EX.then ?_
  refine WP.seq ?_
  refine WP.region ?_
  refine WPl.v rfl (o_fldp F31_0 rfl) ?_
  refine WPl.v rfl (o_ldpg G28 rfl rfl rfl) ?_
  refine WPl.cs 3 rfl rfl rfl rfl (o_sig 3 (ren [(0, 0)]) (c126 f.shop) e126 rfl rfl rfl w126 ⟨(lx rfl), trivial⟩ r126) ?_
  refine WPl.v rfl (o_move rfl) ?_
  refine WPl.bit 3 4 (!(hugeS f.shop)) rfl rfl ?_
  refine WPl.gv 3 rfl rfl (.plain rfl (by simp) rfl) (fun hb => o_fldp F31_1 rfl) ?_
  refine WPl.gv 3 rfl rfl (.plain rfl (by simp) rfl) (fun hb => o_ldp S29 rfl rfl rfl) ?_
  refine WPl.gv 3 rfl rfl (.plain rfl (by simp) rfl) (fun hb => o_lenq L29 rfl (lx rfl)) ?_
  refine WPl.gv 3 rfl rfl (.plain rfl (by simp) rfl) (fun hb => o_gtr rfl rfl) ?_
  refine WPl.v rfl (o_or rfl rfl rfl (by first | (simp; done) | simp_all)) ?_
  refine WPl.v rfl (o_assign rfl) ?_
  refine WPl.nil ?_
  refine EX.then ?_
  refine WP.ret ?_
  exact EX.fin id (.inl rfl) rfl (.tmp rfl .nil) rfl r74 trivial (by simp) (by simp)
theorem w31 {l : List (List Int)} : ∀ x ∈ ([.e (.a (.q 0)), .e (.a (.q 1))] : List SV), x.res (keys (α := Pred) [(0, PL (EP.sl EP.int) (l)), (1, PL (EP.sl EP.int) (l))]) := by simp [SV.res, El.res, At.res, keys]
theorem r31  : SV.res (keys (α := Pred) []) (.b (true)) := by simp [SV.res, El.res, At.res, keys]
set_option maxHeartbeats 4000000 in
theorem c31 (l : List (List Int)) (hl : l.length ≤ 1000) (hr : ∀ i : Nat, i < l.length → (nth l i).length ≤ 1000) : Sig Try.prog 31 [.e (.a (.q 0)), .e (.a (.q 1))] [(0, PL (EP.sl EP.int) (l)), (1, PL (EP.sl EP.int) (l))] (.b (true)) [] := by
  refine Sig.intro Try.func31 rfl 2 [(0, .e (.a (.q 0))), (1, .e (.a (.q 1)))] rfl w31 rfl rfl fun I w => ?_
  refine WP.seq ?_
  refine WP.region ?_
  refine WPl.v rfl (o_assign rfl) ?_
  refine WPl.nil ?_
  refine EX.then ?_
  refine WP.seq ?_
  refine WP.seq ?_
  refine WP.region ?_
  refine WPl.v rfl (o_move rfl) ?_
  refine WPl.v rfl (o_lenq L32 rfl (lx rfl)) ?_
  refine WPl.v rfl (o_move rfl) ?_
  refine WPl.v rfl (o_lenq L32 rfl (lx rfl)) ?_
  refine WPl.v rfl (o_neq rfl rfl) ?_
  refine WPl.nil ?_
  refine EX.then ?_
  refine WP.cond rfl (fun hc1 => ?_) (fun hc1 => ?_)
  · try simp only [decide_eq_true_eq, decide_eq_false_iff_not, Bool.and_eq_true, Bool.or_eq_true, Bool.and_eq_false_iff, Bool.or_eq_false_iff, Bool.not_eq_true', Bool.not_eq_false', ne_eq, Decidable.not_not] at hc1
    simp at hc1
  · try simp only [decide_eq_true_eq, decide_eq_false_iff_not, Bool.and_eq_true, Bool.or_eq_true, Bool.and_eq_false_iff, Bool.or_eq_false_iff, Bool.not_eq_true', Bool.not_eq_false', ne_eq, Decidable.not_not] at hc1
    refine WP.skip ?_
    refine EX.then ?_
    refine WP.seq ?_
    refine WP.seq ?_
    refine WP.region ?_
    refine WPl.v rfl (o_assign rfl) ?_
    refine WPl.nil ?_
    refine EX.then ?_
    refine WP.block ?_
    refine WP.loop (Gh := Nat) (fun i => ⟨2, [(0, .e (.a (.q 0))), (1, .e (.a (.q 1))), (4, .b (false)), (5, .i ((i : Int)))], [(0, PL (EP.sl EP.int) (l)), (1, PL (EP.sl EP.int) (l))], [], [], []⟩) (fun i => i ≤ l.length) (fun i => l.length - i) (0) id ?_ (LeR.of ⟨rfl, rfl, rfl, rfl, trivial⟩ ⟨(lx rfl), (lx rfl), trivial⟩ trivial rfl rfl rfl rfl rfl) ?_
    · first | trivial | omega | (constructor <;> omega) | simp
    intro i hφ
    have hi : i ≤ l.length := hφ
    refine WP.seq ?_
    refine WP.seq ?_
    refine WP.region ?_
    refine WPl.v rfl (o_move rfl) ?_
    refine WPl.v rfl (o_move rfl) ?_
    refine WPl.v rfl (o_lenq L32 rfl (lx rfl)) ?_
    refine WPl.v rfl (o_lss rfl rfl) ?_
    refine WPl.nil ?_
    refine EX.then ?_
    refine WP.cond rfl (fun hc2 => ?_) (fun hc2 => ?_)
    · try simp only [decide_eq_true_eq, decide_eq_false_iff_not, Bool.and_eq_true, Bool.or_eq_true, Bool.and_eq_false_iff, Bool.or_eq_false_iff, Bool.not_eq_true', Bool.not_eq_false', ne_eq, Decidable.not_not] at hc2
      refine WP.skip ?_
      refine EX.then ?_
      refine WP.seq ?_
      refine WP.block ?_
      refine WP.seq ?_
      refine WP.draw (nf := 6) [⟨[18, 21, 22, 23, 24], [4, 5], [], [], []⟩, ⟨[17, 21, 22, 23, 24], [4, 5], [], [], []⟩, ⟨[21, 22, 23, 24], [4, 5], [2], [2], [0, 1]⟩, ⟨[21, 22, 23, 24], [4, 5], [3], [3], [0, 1, 2]⟩, ⟨[17, 18, 19, 20, 22], [2, 3], [], [], []⟩, ⟨[17, 18, 19, 20, 21], [2, 3], [], [], []⟩, ⟨[17, 18, 19, 20], [2, 3], [4], [4], [4, 5]⟩, ⟨[17, 18, 19, 20], [2, 3], [5], [5], [4, 5, 6]⟩, ⟨[], [], [], [], [0, 1, 2, 3, 4, 5, 6, 7]⟩, ⟨[], [], [], [], [0, 1, 2, 3, 4, 5, 6, 7, 8]⟩] (by kernel_rfl) (by kernel_rfl) ?_
      refine DRQ.v rfl rfl rfl (o_move rfl) ?_
      refine DRQ.v rfl rfl rfl (o_move rfl) ?_
      refine DRQ.x 2 rfl rfl rfl rfl (o_idx L32 rfl (lx rfl) rfl (by first | omega | (simp; omega)) (by first | omega | (simp; omega))) ?_
      refine DRQ.x 3 rfl rfl rfl rfl (o_ldqx S44 rfl (lx rfl) slx) ?_
      refine DRQ.v rfl rfl rfl (o_move rfl) ?_
      refine DRQ.v rfl rfl rfl (o_move rfl) ?_
      refine DRQ.x 4 rfl rfl rfl rfl (o_idx L32 rfl (lx rfl) rfl (by first | omega | (simp; omega)) (by first | omega | (simp; omega))) ?_
      refine DRQ.x 5 rfl rfl rfl rfl (o_ldqx S44 rfl (lx rfl) slx) ?_
      refine DRQ.cs rfl rfl rfl rfl (o_sig 6 (ren [(0, 3), (1, 5)]) (c27 (nth l (i : Int)) (nth l (i : Int)) (by have := hr i (by omega); omega)) e27 rfl rfl rfl w27 ⟨(lx rfl), (lx rfl), trivial⟩ r27) ?_
      refine DRQ.v rfl rfl rfl (o_not rfl) ?_
      refine DRQ.nil' ?_
      refine EX.then ?_
      refine WP.cond rfl (fun hc3 => ?_) (fun hc3 => ?_)
      · try simp only [decide_eq_true_eq, decide_eq_false_iff_not, Bool.and_eq_true, Bool.or_eq_true, Bool.and_eq_false_iff, Bool.or_eq_false_iff, Bool.not_eq_true', Bool.not_eq_false', ne_eq, Decidable.not_not] at hc3
        rw [sameInts_refl] at hc3; cases hc3
      · try simp only [decide_eq_true_eq, decide_eq_false_iff_not, Bool.and_eq_true, Bool.or_eq_true, Bool.and_eq_false_iff, Bool.or_eq_false_iff, Bool.not_eq_true', Bool.not_eq_false', ne_eq, Decidable.not_not] at hc3
        refine WP.skip ?_
        refine EX.blk ?_
        refine EX.then ?_
        refine WP.region ?_
        refine WPl.v rfl (o_move rfl) ?_
        refine WPl.v rfl (o_add rfl rfl (by first | omega | (simp; omega)) (by first | omega | (simp; omega))) ?_
        refine WPl.v rfl (o_assign rfl) ?_
        refine WPl.nil ?_
        refine EX.again (i + 1) id (by first | omega | (constructor <;> omega)) (by omega) (LeR.of ⟨rfl, rfl, rfl, rfl, trivial⟩ ⟨(lx rfl), (lx rfl), trivial⟩ trivial rfl rfl rfl rfl rfl)
    · try simp only [decide_eq_true_eq, decide_eq_false_iff_not, Bool.and_eq_true, Bool.or_eq_true, Bool.and_eq_false_iff, Bool.or_eq_false_iff, Bool.not_eq_true', Bool.not_eq_false', ne_eq, Decidable.not_not] at hc2
      refine WP.exit ?_
      refine EX.exit_then ?_
      refine EX.exit_then ?_
      refine EX.exit_blk ?_
      refine EX.then ?_
      refine WP.seq ?_
      refine WP.region ?_
      refine WPl.v rfl (o_assign rfl) ?_
      refine WPl.nil ?_
      refine EX.then ?_
      refine WP.ret ?_
      exact EX.fin id (.inl rfl) rfl (.tmp rfl .nil) rfl r31 trivial (by simp) (by simp)
theorem w15 {l : List (List Int)} : ∀ x ∈ ([.e (.a (.q 0))] : List SV), x.res (keys (α := Pred) [(0, PL (EP.sl EP.int) (l))]) := by simp [SV.res, El.res, At.res, keys]
theorem r15 {l : List (List Int)} : SV.res (keys (α := Pred) []) (.b (longP l)) := by simp [SV.res, El.res, At.res, keys]
set_option maxHeartbeats 4000000 in
theorem c15 (l : List (List Int))  : Sig Try.prog 15 [.e (.a (.q 0))] [(0, PL (EP.sl EP.int) (l))] (.b (longP l)) [] := by
  refine Sig.intro Try.func15 rfl 1 [(0, .e (.a (.q 0)))] rfl w15 rfl rfl fun I w => ?_
  refine WP.seq ?_
  refine WP.region ?_
  refine WPl.v rfl (o_assign rfl) ?_
  refine WPl.nil ?_
  refine EX.then ?_
  refine WP.seq ?_
  refine WP.seq ?_
  refine WP.region ?_
  refine WPl.v rfl (o_move rfl) ?_
  refine WPl.v rfl (o_lenq L32 rfl (lx rfl)) ?_
  refine WPl.v rfl (o_gtr rfl rfl) ?_
  refine WPl.nil ?_
  refine EX.then ?_
  refine WP.cond rfl (fun hc1 => ?_) (fun hc1 => ?_)
  · try simp only [decide_eq_true_eq, decide_eq_false_iff_not, Bool.and_eq_true, Bool.or_eq_true, Bool.and_eq_false_iff, Bool.or_eq_false_iff, Bool.not_eq_true', Bool.not_eq_false', ne_eq, Decidable.not_not] at hc1
    refine WP.seq ?_
    refine WP.region ?_
    refine WPl.v rfl (o_assign rfl) ?_
    refine WPl.nil ?_
    refine EX.then ?_
    refine WP.ret ?_
    refine EX.ret_then ?_
    rw [show longP l = true from by simp only [longP, Bool.or_eq_true, decide_eq_true_eq]; exact .inl (by omega)]
    exact EX.fin id (.inl rfl) rfl (.tmp rfl .nil) rfl (by simp [SV.res, El.res, At.res, keys]) trivial (by simp) (by simp)
  · try simp only [decide_eq_true_eq, decide_eq_false_iff_not, Bool.and_eq_true, Bool.or_eq_true, Bool.and_eq_false_iff, Bool.or_eq_false_iff, Bool.not_eq_true', Bool.not_eq_false', ne_eq, Decidable.not_not] at hc1
    refine WP.skip ?_
    refine EX.then ?_
    refine WP.seq ?_
    refine WP.seq ?_
    refine WP.region ?_
    refine WPl.v rfl (o_assign rfl) ?_
    refine WPl.nil ?_
    refine EX.then ?_
    refine WP.block ?_
    refine WP.loop (Gh := Nat) (fun i => ⟨1, [(0, .e (.a (.q 0))), (2, .b (false)), (3, .i ((i : Int)))], [(0, PL (EP.sl EP.int) (l))], [], [], []⟩) (fun i => i ≤ l.length ∧ allI (fun i => !decide (40 < ((nth l i).length : Int))) i = true) (fun i => l.length - i) (0) id ?_ (LeR.of ⟨rfl, rfl, rfl, trivial⟩ ⟨(lx rfl), trivial⟩ trivial rfl rfl rfl rfl rfl) ?_
    · exact ⟨by omega, rfl⟩
    intro i hφ
    have hi : i ≤ l.length := hφ.1
    have hall := hφ.2
    refine WP.seq ?_
    refine WP.seq ?_
    refine WP.region ?_
    refine WPl.v rfl (o_move rfl) ?_
    refine WPl.v rfl (o_move rfl) ?_
    refine WPl.v rfl (o_lenq L32 rfl (lx rfl)) ?_
    refine WPl.v rfl (o_lss rfl rfl) ?_
    refine WPl.nil ?_
    refine EX.then ?_
    refine WP.cond rfl (fun hc2 => ?_) (fun hc2 => ?_)
    · try simp only [decide_eq_true_eq, decide_eq_false_iff_not, Bool.and_eq_true, Bool.or_eq_true, Bool.and_eq_false_iff, Bool.or_eq_false_iff, Bool.not_eq_true', Bool.not_eq_false', ne_eq, Decidable.not_not] at hc2
      refine WP.skip ?_
      refine EX.then ?_
      refine WP.seq ?_
      refine WP.block ?_
      refine WP.seq ?_
      refine WP.region ?_
      refine WPl.v rfl (o_move rfl) ?_
      refine WPl.v rfl (o_move rfl) ?_
      refine WPl.x 1 2 rfl rfl rfl (o_idx L32 rfl (lx rfl) rfl (by first | omega | (simp; omega)) (by first | omega | (simp; omega))) ?_
      refine WPl.x 2 3 rfl rfl rfl (o_ldqx S44 rfl (lx rfl) slx) ?_
      refine WPl.v rfl (o_lenq L44 rfl (lx rfl)) ?_
      refine WPl.v rfl (o_gtr rfl rfl) ?_
      refine WPl.nil ?_
      refine EX.then ?_
      refine WP.cond rfl (fun hc3 => ?_) (fun hc3 => ?_)
      · try simp only [decide_eq_true_eq, decide_eq_false_iff_not, Bool.and_eq_true, Bool.or_eq_true, Bool.and_eq_false_iff, Bool.or_eq_false_iff, Bool.not_eq_true', Bool.not_eq_false', ne_eq, Decidable.not_not] at hc3
        refine WP.seq ?_
        refine WP.region ?_
        refine WPl.v rfl (o_assign rfl) ?_
        refine WPl.nil ?_
        refine EX.then ?_
        refine WP.ret ?_
        refine EX.ret_blk ?_
        refine EX.ret_then ?_
        refine EX.ret_then ?_
        refine EX.ret_blk ?_
        refine EX.ret_then ?_
        rw [show longP l = true from by simp only [longP, Bool.or_eq_true, Bool.not_eq_true']; exact .inr (not_allI (show i < l.length by omega) (by simpa using hc3))]
        exact EX.fin id (.inl rfl) rfl (.tmp rfl .nil) rfl (by simp [SV.res, El.res, At.res, keys]) trivial (by simp) (by simp)
      · try simp only [decide_eq_true_eq, decide_eq_false_iff_not, Bool.and_eq_true, Bool.or_eq_true, Bool.and_eq_false_iff, Bool.or_eq_false_iff, Bool.not_eq_true', Bool.not_eq_false', ne_eq, Decidable.not_not] at hc3
        refine WP.skip ?_
        refine EX.blk ?_
        refine EX.then ?_
        refine WP.region ?_
        refine WPl.v rfl (o_move rfl) ?_
        refine WPl.v rfl (o_add rfl rfl (by first | omega | (simp; omega)) (by first | omega | (simp; omega))) ?_
        refine WPl.v rfl (o_assign rfl) ?_
        refine WPl.nil ?_
        refine EX.again (i + 1) id (by exact ⟨by omega, by simp only [allI, hall, Bool.true_and]; simpa using hc3⟩) (by omega) (LeR.of ⟨rfl, rfl, rfl, trivial⟩ ⟨(lx rfl), trivial⟩ trivial rfl rfl rfl rfl rfl)
    · try simp only [decide_eq_true_eq, decide_eq_false_iff_not, Bool.and_eq_true, Bool.or_eq_true, Bool.and_eq_false_iff, Bool.or_eq_false_iff, Bool.not_eq_true', Bool.not_eq_false', ne_eq, Decidable.not_not] at hc2
      refine WP.exit ?_
      refine EX.exit_then ?_
      refine EX.exit_then ?_
      refine EX.exit_blk ?_
      refine EX.then ?_
      refine WP.seq ?_
      refine WP.region ?_
      refine WPl.v rfl (o_assign rfl) ?_
      refine WPl.nil ?_
      refine EX.then ?_
      refine WP.ret ?_
      have he : i = l.length := by omega
      subst he
      rw [show longP l = false from by simp only [longP, hall, Bool.not_true, Bool.or_false, decide_eq_false_iff_not]; omega]
      exact EX.fin id (.inl rfl) rfl (.tmp rfl .nil) rfl (by simp [SV.res, El.res, At.res, keys]) trivial (by simp) (by simp)
theorem w18 {l : List (List Int)} : ∀ x ∈ ([.e (.a (.q 0))] : List SV), x.res (keys (α := Pred) [(0, PL (EP.sl EP.int) (l))]) := by simp [SV.res, El.res, At.res, keys]
theorem r18 {l : List (List Int)} : SV.res (keys (α := Pred) [(0, PL (EP.sl EP.int) (l))]) (.e (.a (.q 0))) := by simp [SV.res, El.res, At.res, keys]
set_option maxHeartbeats 4000000 in
theorem c18 (l : List (List Int)) (hl : l.length ≤ 40) (hr : ∀ i : Nat, i < l.length → (nth l i).length ≤ 40) : Sig Try.prog 18 [.e (.a (.q 0))] [(0, PL (EP.sl EP.int) (l))] (.e (.a (.q 0))) [(0, PL (EP.sl EP.int) (l))] := by
  refine Sig.intro Try.func18 rfl 1 [(0, .e (.a (.q 0)))] rfl w18 rfl rfl fun I w => ?_
  refine WP.seq ?_
  refine WP.region ?_
  refine WPl.v rfl (o_assign rfl) ?_
  refine WPl.nil ?_
  refine EX.then ?_
  refine WP.seq ?_
  refine WP.region ?_
  refine WPl.v rfl (o_assign rfl) ?_
  refine WPl.imp (Imp.namo (EP.sl EP.int) 1 2 44 rfl rfl) ?_
  refine WPl.imp (Imp.swF 3 1 rfl (lx rfl)) ?_
  refine WPl.nil ?_
  refine EX.then ?_
  refine WP.seq ?_
  refine WP.seq ?_
  refine WP.region ?_
  refine WPl.v rfl (o_assign rfl) ?_
  refine WPl.nil ?_
  refine EX.then ?_
  refine WP.block ?_
  refine WP.loop (Gh := Nat) (fun i => ⟨2, [(0, .e (.a (.q 0))), (2, .e (.a (.v (.slice none 0 0)))), (3, .e (.a (.q 1))), (4, .i ((i : Int)))], [(0, PL (EP.sl EP.int) (l))], [(1, .own 44 (EP.sl EP.int).size (l.take i).length (RP (EP.sl EP.int) (l.take i)))], [], []⟩) (fun i => i ≤ l.length) (fun i => l.length - i) (0) id ?_ (LeR.of ⟨rfl, rfl, rfl, rfl, trivial⟩ ⟨(lx rfl), trivial⟩ ⟨(congrArg (fun z => some (Ent.own 44 (EP.sl EP.int).size (List.length z) (RP (EP.sl EP.int) z))) (show ([]) = ((fun i => l.take i) 0) from by simp)), trivial⟩ rfl rfl rfl rfl rfl) ?_
  · first | trivial | omega | (constructor <;> omega) | simp
  intro i hφ
  have hi : i ≤ l.length := hφ
  refine WP.seq ?_
  refine WP.seq ?_
  refine WP.region ?_
  refine WPl.v rfl (o_move rfl) ?_
  refine WPl.v rfl (o_move rfl) ?_
  refine WPl.v rfl (o_lenq L32 rfl (lx rfl)) ?_
  refine WPl.v rfl (o_lss rfl rfl) ?_
  refine WPl.nil ?_
  refine EX.then ?_
  refine WP.cond rfl (fun hc1 => ?_) (fun hc1 => ?_)
  · try simp only [decide_eq_true_eq, decide_eq_false_iff_not, Bool.and_eq_true, Bool.or_eq_true, Bool.and_eq_false_iff, Bool.or_eq_false_iff, Bool.not_eq_true', Bool.not_eq_false', ne_eq, Decidable.not_not] at hc1
    refine WP.skip ?_
    refine EX.then ?_
    refine WP.seq ?_
    refine WP.block ?_
    refine WP.region ?_
    refine WPl.v rfl (o_move rfl) ?_
    refine WPl.l 2 3 rfl rfl rfl (o_bsl (E := EP.int) (l := []) R44 rfl rfl (.nil) rfl rfl) ?_
    refine WPl.v rfl (o_move rfl) ?_
    refine WPl.v rfl (o_move rfl) ?_
    refine WPl.x 3 4 rfl rfl rfl (o_idx L32 rfl (lx rfl) rfl (by first | omega | (simp; omega)) (by first | omega | (simp; omega))) ?_
    refine WPl.x 4 5 rfl rfl rfl (o_ldqx S44 rfl (lx rfl) slx) ?_
    have hri := hr i (by omega)
    refine WPl.u1 (k := 5) (m := 6) rfl rfl rfl (OpG.settle1 (.inl rfl) rfl (o_apps R44 EP.int_one rfl rfl rfl (lx rfl) (by first | omega | (simp; omega) | (simp at *; omega)) (by first | omega | (simp; omega) | (simp at *; omega)))) ?_
    refine WPl.l 6 7 rfl rfl rfl (o_bsl (E := (EP.sl EP.int)) (l := [[] ++ (nth l (i : Int))]) R32 rfl rfl (.cons ((.inl ⟨_, (lx rfl), PL.one⟩)) rfl (eok_sl (lx rfl)) (.nil)) rfl rfl) ?_
    refine WPl.u1 (k := 7) (m := 8) rfl rfl rfl (o_appo R32 EP.sl_one rfl rfl rfl rfl (by simp; omega) (by simp; omega)) ?_
    refine WPl.v rfl (o_assign rfl) ?_
    refine WPl.nil ?_
    refine EX.blk ?_
    refine EX.then ?_
    refine WP.region ?_
    refine WPl.v rfl (o_move rfl) ?_
    refine WPl.v rfl (o_add rfl rfl (by first | omega | (simp; omega)) (by first | omega | (simp; omega))) ?_
    refine WPl.v rfl (o_assign rfl) ?_
    refine WPl.nil ?_
    refine EX.again (i + 1) (ren [(1, 7)]) (by first | omega | (constructor <;> omega)) (by omega) (LeR.of ⟨rfl, rfl, rfl, rfl, trivial⟩ ⟨(lx rfl), trivial⟩ ⟨(congrArg (fun z => some (Ent.own 44 (EP.sl EP.int).size (List.length z) (RP (EP.sl EP.int) z))) (show ((l.take i) ++ [[] ++ (nth l (i : Int))]) = ((fun i => l.take i) (i + 1)) from by simp only [List.nil_append]; exact (take_nth_succ (by omega)).symm)), trivial⟩ rfl rfl rfl rfl rfl)
  · try simp only [decide_eq_true_eq, decide_eq_false_iff_not, Bool.and_eq_true, Bool.or_eq_true, Bool.and_eq_false_iff, Bool.or_eq_false_iff, Bool.not_eq_true', Bool.not_eq_false', ne_eq, Decidable.not_not] at hc1
    refine WP.exit ?_
    refine EX.exit_then ?_
    refine EX.exit_then ?_
    refine EX.exit_blk ?_
    refine EX.then ?_
    refine WP.seq ?_
    refine WP.region ?_
    refine WPl.v rfl (o_move rfl) ?_
    refine WPl.v rfl (o_assign rfl) ?_
    refine WPl.nil ?_
    refine EX.then ?_
    refine WP.ret ?_
    refine EX.imp (Imp.frz (E := (EP.sl EP.int)) (l := l.take i) 1 rfl rfl) ?_
    have he : i = l.length := by omega
    subst he
    rw [show PL EP.int.sl l = PL EP.int.sl (l.take l.length) from by rw [List.take_length]]
    exact EX.fin (ren [(0, 1)]) (.inl rfl) rfl (.tmp rfl .nil) rfl (by simp [SV.res, El.res, At.res, keys]) ⟨(lx rfl), trivial⟩ (by simp) (by simp)
theorem w14 {f : Fnd} : ∀ x ∈ ([.e (.g [ai (f.shop.pounds), ai (f.shop.tl), ai (f.shop.th), ai (f.shop.al), ai (f.shop.ah), ai (f.shop.room), ai (f.shop.tpl), ai (f.shop.tph), ai (f.shop.apl), ai (f.shop.aph), .q 0, .q 1])] : List SV), x.res (keys (α := Pred) [(0, PL EPig (f.shop.pigs)), (1, PL ENight (f.nights))]) := by simp [SV.res, El.res, At.res, keys]
theorem r14 {f : Fnd} : SV.res (keys (α := Pred) []) (.b (f.far)) := by simp [SV.res, El.res, At.res, keys]
set_option maxHeartbeats 4000000 in
theorem c14 (f : Fnd)  : Sig Try.prog 14 [.e (.g [ai (f.shop.pounds), ai (f.shop.tl), ai (f.shop.th), ai (f.shop.al), ai (f.shop.ah), ai (f.shop.room), ai (f.shop.tpl), ai (f.shop.tph), ai (f.shop.apl), ai (f.shop.aph), .q 0, .q 1])] [(0, PL EPig (f.shop.pigs)), (1, PL ENight (f.nights))] (.b (f.far)) [] := by
  refine Sig.intro Try.func14 rfl 2 [(0, .e (.g [ai (f.shop.pounds), ai (f.shop.tl), ai (f.shop.th), ai (f.shop.al), ai (f.shop.ah), ai (f.shop.room), ai (f.shop.tpl), ai (f.shop.tph), ai (f.shop.apl), ai (f.shop.aph), .q 0, .q 1]))] rfl w14 rfl rfl fun I w => ?_
  refine WP.seq ?_
  refine WP.region ?_
  refine WPl.l 2 3 rfl rfl rfl (o_boxg rfl) ?_
  refine WPl.v rfl (o_assign rfl) ?_
  refine WPl.nil ?_
  refine EX.then ?_
  refine WP.seq ?_
  refine WP.seq ?_
  refine WP.region ?_
  refine WPl.v rfl (o_ldpa G31 rfl rfl rfl) ?_
  refine WPl.cs 3 rfl rfl rfl rfl (o_sig 3 (ren [(0, 0), (1, 1)]) (c74 f) e74 rfl rfl rfl w74 ⟨(lx rfl), (lx rfl), trivial⟩ r74) ?_
  refine WPl.nil ?_
  refine EX.then ?_
  refine WP.cond rfl (fun hc1 => ?_) (fun hc1 => ?_)
  · try simp only [decide_eq_true_eq, decide_eq_false_iff_not, Bool.and_eq_true, Bool.or_eq_true, Bool.and_eq_false_iff, Bool.or_eq_false_iff, Bool.not_eq_true', Bool.not_eq_false', ne_eq, Decidable.not_not] at hc1
    refine WP.seq ?_
    refine WP.region ?_
    refine WPl.v rfl (o_assign rfl) ?_
    refine WPl.nil ?_
    refine EX.then ?_
    refine WP.ret ?_
    refine EX.ret_then ?_
    rw [show f.far = true from by simp [Fnd.far, hc1]]
    exact EX.fin id (.inl rfl) rfl (.tmp rfl .nil) rfl (by simp [SV.res, El.res, At.res, keys]) trivial (by simp) (by simp)
  · try simp only [decide_eq_true_eq, decide_eq_false_iff_not, Bool.and_eq_true, Bool.or_eq_true, Bool.and_eq_false_iff, Bool.or_eq_false_iff, Bool.not_eq_true', Bool.not_eq_false', ne_eq, Decidable.not_not] at hc1
    refine WP.skip ?_
    refine EX.then ?_
    refine WP.seq ?_
    refine WP.seq ?_
    refine WP.region ?_
    refine WPl.v rfl (o_ldpa G31 rfl rfl rfl) ?_
    refine WPl.cs 3 rfl rfl rfl rfl (o_sig 3 (ren [(0, 0), (1, 1)]) (c22 f) e22 rfl rfl rfl w22 ⟨(lx rfl), (lx rfl), trivial⟩ r22) ?_
    refine WPl.v rfl (o_neq rfl rfl) ?_
    refine WPl.nil ?_
    refine EX.then ?_
    refine WP.cond rfl (fun hc2 => ?_) (fun hc2 => ?_)
    · try simp only [decide_eq_true_eq, decide_eq_false_iff_not, Bool.and_eq_true, Bool.or_eq_true, Bool.and_eq_false_iff, Bool.or_eq_false_iff, Bool.not_eq_true', Bool.not_eq_false', ne_eq, Decidable.not_not] at hc2
      refine WP.seq ?_
      refine WP.region ?_
      refine WPl.v rfl (o_assign rfl) ?_
      refine WPl.nil ?_
      refine EX.then ?_
      refine WP.ret ?_
      refine EX.ret_then ?_
      rw [show f.far = false from by simp [Fnd.far, show f.huge = false from hc1, show f.chk = false from by (cases hch : f.chk; rfl; simp [errW, hch] at hc2)]]
      exact EX.fin id (.inl rfl) rfl (.tmp rfl .nil) rfl (by simp [SV.res, El.res, At.res, keys]) trivial (by simp) (by simp)
    · try simp only [decide_eq_true_eq, decide_eq_false_iff_not, Bool.and_eq_true, Bool.or_eq_true, Bool.and_eq_false_iff, Bool.or_eq_false_iff, Bool.not_eq_true', Bool.not_eq_false', ne_eq, Decidable.not_not] at hc2
      have hf : f.chk = true := by simpa [errW_eq] using hc2
      have hnh : f.huge = false := hc1
      have hcb := Fnd.chkB hf
      have hpg := Shop.pigsOK (Fnd.shopOK hf)
      have hn := Fnd.nightsOK hf
      have htb := tl_bnd (Fnd.shopOK hf)
      have hab := fun i hi => farA_bnd hf i hi
      have hp10 : ∀ i : Nat, i ≤ 4 → (10 : Int) ^ i ≤ 10000 := fun i hi => by (rcases (show i = 0 ∨ i = 1 ∨ i = 2 ∨ i = 3 ∨ i = 4 by omega) with rfl | rfl | rfl | rfl | rfl) <;> decide
      have hp9 : ∀ i : Nat, i ≤ 4 → (9 : Int) ^ i ≤ 6561 := fun i hi => by (rcases (show i = 0 ∨ i = 1 ∨ i = 2 ∨ i = 3 ∨ i = 4 by omega) with rfl | rfl | rfl | rfl | rfl) <;> decide
      have hm0 := mulb (a := f.shop.th - f.shop.tl + 1) (A := 401) (b := f.shop.ah - f.shop.al + 1) (B := 401) (by omega) (by omega) (by omega) (by omega)
      refine WP.skip ?_
      refine EX.then ?_
      refine WP.seq ?_
      refine WP.region ?_
      refine WPl.v rfl (o_fldp F31_0 rfl) ?_
      refine WPl.v rfl (o_fldp F28_0 rfl) ?_
      refine WPl.v rfl (o_fldp F25_1 rfl) ?_
      refine WPl.v rfl (o_fldp F23_1 rfl) ?_
      refine WPl.v rfl (o_ldp S3 rfl rfl rfl) ?_
      refine WPl.v rfl (o_fldp F31_0 rfl) ?_
      refine WPl.v rfl (o_fldp F28_0 rfl) ?_
      refine WPl.v rfl (o_fldp F25_1 rfl) ?_
      refine WPl.v rfl (o_fldp F23_0 rfl) ?_
      refine WPl.v rfl (o_ldp S3 rfl rfl rfl) ?_
      refine WPl.v rfl (o_sub rfl rfl (by first | omega | (simp; omega)) (by first | omega | (simp; omega))) ?_
      refine WPl.v rfl (o_add rfl rfl (by first | omega | (simp; omega)) (by first | omega | (simp; omega))) ?_
      refine WPl.v rfl (o_fldp F31_0 rfl) ?_
      refine WPl.v rfl (o_fldp F28_0 rfl) ?_
      refine WPl.v rfl (o_fldp F25_2 rfl) ?_
      refine WPl.v rfl (o_fldp F23_1 rfl) ?_
      refine WPl.v rfl (o_ldp S3 rfl rfl rfl) ?_
      refine WPl.v rfl (o_fldp F31_0 rfl) ?_
      refine WPl.v rfl (o_fldp F28_0 rfl) ?_
      refine WPl.v rfl (o_fldp F25_2 rfl) ?_
      refine WPl.v rfl (o_fldp F23_0 rfl) ?_
      refine WPl.v rfl (o_ldp S3 rfl rfl rfl) ?_
      refine WPl.v rfl (o_sub rfl rfl (by first | omega | (simp; omega)) (by first | omega | (simp; omega))) ?_
      refine WPl.v rfl (o_add rfl rfl (by first | omega | (simp; omega)) (by first | omega | (simp; omega))) ?_
      refine WPl.v rfl (o_mul rfl rfl (by first | omega | (simp; omega)) (by first | omega | (simp; omega))) ?_
      refine WPl.v rfl (o_assign rfl) ?_
      refine WPl.nil ?_
      refine EX.then ?_
      refine WP.seq ?_
      refine WP.seq ?_
      refine WP.region ?_
      refine WPl.v rfl (o_assign rfl) ?_
      refine WPl.nil ?_
      refine EX.then ?_
      refine WP.block ?_
      refine WP.loop (Gh := Nat) (fun i => ⟨3, [(1, .e (.a (.p 2 (0)))), (2, .b (false)), (3, .i (f.farA i)), (4, .i ((i : Int)))], [(0, PL EPig (f.shop.pigs)), (1, PL ENight (f.nights))], [(2, .blk [ai (f.shop.pounds), ai (f.shop.tl), ai (f.shop.th), ai (f.shop.al), ai (f.shop.ah), ai (f.shop.room), ai (f.shop.tpl), ai (f.shop.tph), ai (f.shop.apl), ai (f.shop.aph), .q 0, .q 1] 31)], [], []⟩) (fun i => i ≤ f.nights.length) (fun i => f.nights.length - i) (0) id ?_ (LeR.of ⟨rfl, rfl, rfl, rfl, trivial⟩ ⟨(lx rfl), (lx rfl), trivial⟩ ⟨rfl, trivial⟩ rfl rfl rfl rfl rfl) ?_
      · first | trivial | omega | (constructor <;> omega) | simp
      intro i hφ
      have hi : i ≤ f.nights.length := hφ
      have hai := hab i (by omega)
      have hpi := hp10 i (by omega)
      refine WP.seq ?_
      refine WP.seq ?_
      refine WP.region ?_
      refine WPl.v rfl (o_move rfl) ?_
      refine WPl.v rfl (o_fldp F31_1 rfl) ?_
      refine WPl.v rfl (o_ldp S29 rfl rfl rfl) ?_
      refine WPl.v rfl (o_lenq L29 rfl (lx rfl)) ?_
      refine WPl.v rfl (o_lss rfl rfl) ?_
      refine WPl.nil ?_
      refine EX.then ?_
      refine WP.cond rfl (fun hc3 => ?_) (fun hc3 => ?_)
      · try simp only [decide_eq_true_eq, decide_eq_false_iff_not, Bool.and_eq_true, Bool.or_eq_true, Bool.and_eq_false_iff, Bool.or_eq_false_iff, Bool.not_eq_true', Bool.not_eq_false', ne_eq, Decidable.not_not] at hc3
        refine WP.skip ?_
        refine EX.then ?_
        refine WP.seq ?_
        refine WP.block ?_
        refine WP.draw (nf := 5) [⟨[45, 46, 47, 48, 49, 50, 51, 52, 53, 54, 55, 56, 57, 58, 59, 60], [3, 4], [], [], []⟩, ⟨[44, 47, 52, 53, 54, 55, 56, 57, 58], [4], [], [], []⟩, ⟨[44, 47, 52, 53, 54, 55, 56, 57, 58], [4], [], [], [1]⟩, ⟨[44, 45, 46, 52, 53, 54, 55, 56, 57, 58], [4], [], [], []⟩, ⟨[44, 52, 53, 54, 55, 56, 57, 58], [4], [3], [3], [1, 2, 3]⟩, ⟨[44, 52, 53, 54, 55, 56, 57, 58], [4], [], [], [1, 2, 3, 4]⟩, ⟨[44, 52, 53, 54, 55, 56, 57, 58], [4], [], [], [1, 2, 3, 4, 5]⟩, ⟨[44, 52, 53, 54, 55, 56, 57, 58], [4], [], [], [1, 2, 3, 4, 5, 6]⟩, ⟨[44, 45, 46, 47, 48, 49, 50, 51, 54], [3], [], [], []⟩, ⟨[44, 45, 46, 47, 48, 49, 50, 51, 54], [3], [], [], [8]⟩, ⟨[44, 45, 46, 47, 48, 49, 50, 51, 52, 53], [3], [], [], []⟩, ⟨[44, 45, 46, 47, 48, 49, 50, 51], [3], [4], [4], [8, 9, 10]⟩, ⟨[44, 45, 46, 47, 48, 49, 50, 51], [3], [], [], [8, 9, 10, 11]⟩, ⟨[44, 45, 46, 47, 48, 49, 50, 51], [3], [], [], [8, 9, 10, 11, 12]⟩, ⟨[44, 45, 46, 47, 48, 49, 50, 51], [3], [], [], [8, 9, 10, 11, 12, 13]⟩, ⟨[44], [], [], [], [1, 2, 3, 4, 5, 6, 7, 8, 9, 10, 11, 12, 13, 14]⟩, ⟨[44], [], [], [], [1, 2, 3, 4, 5, 6, 7, 8, 9, 10, 11, 12, 13, 14, 15]⟩, ⟨[], [], [], [], [0, 1, 2, 3, 4, 5, 6, 7, 8, 9, 10, 11, 12, 13, 14, 15, 16]⟩, ⟨[], [], [], [], [0, 1, 2, 3, 4, 5, 6, 7, 8, 9, 10, 11, 12, 13, 14, 15, 16, 17]⟩] (by kernel_rfl) (by kernel_rfl) ?_
        refine DRQ.v rfl rfl rfl (o_move rfl) ?_
        refine DRQ.v rfl rfl rfl (o_fldp F31_1 rfl) ?_
        refine DRQ.v rfl rfl rfl (o_ldp S29 rfl rfl rfl) ?_
        refine DRQ.v rfl rfl rfl (o_move rfl) ?_
        refine DRQ.x 3 rfl rfl rfl rfl (o_idx L29 rfl (lx rfl) rfl (by first | omega | (simp; omega)) (by first | omega | (simp; omega))) ?_
        refine DRQ.v rfl rfl rfl (o_fldq F75_0 rfl (lx rfl)) ?_
        refine DRQ.v rfl rfl rfl (o_flde F23_1 rfl (lx rfl)) ?_
        refine DRQ.v rfl rfl rfl (o_lde S3 rfl (lx rfl) (strI rfl)) ?_
        refine DRQ.v rfl rfl rfl (o_fldp F31_1 rfl) ?_
        refine DRQ.v rfl rfl rfl (o_ldp S29 rfl rfl rfl) ?_
        refine DRQ.v rfl rfl rfl (o_move rfl) ?_
        refine DRQ.x 4 rfl rfl rfl rfl (o_idx L29 rfl (lx rfl) rfl (by first | omega | (simp; omega)) (by first | omega | (simp; omega))) ?_
        refine DRQ.v rfl rfl rfl (o_fldq F75_0 rfl (lx rfl)) ?_
        refine DRQ.v rfl rfl rfl (o_flde F23_0 rfl (lx rfl)) ?_
        refine DRQ.v rfl rfl rfl (o_lde S3 rfl (lx rfl) (strI rfl)) ?_
        have hnb := Night.bnds (hn.at (show i < f.nights.length by omega))
        have hms := hab (i + 1) (by omega)
        have hpi1 := hp10 (i + 1) (by omega)
        simp only [Fnd.farA] at hms
        refine DRQ.v rfl rfl rfl (o_sub rfl rfl (by first | omega | (simp; omega)) (by first | omega | (simp; omega))) ?_
        refine DRQ.v rfl rfl rfl (o_add rfl rfl (by first | omega | (simp; omega)) (by first | omega | (simp; omega))) ?_
        refine DRQ.v rfl rfl rfl (o_mul rfl rfl (by first | omega | (simp; omega)) (by first | omega | (simp; omega))) ?_
        refine DRQ.v rfl rfl rfl (o_assign rfl) ?_
        refine DRQ.nil' ?_
        refine EX.blk ?_
        refine EX.then ?_
        refine WP.region ?_
        refine WPl.v rfl (o_move rfl) ?_
        refine WPl.v rfl (o_add rfl rfl (by first | omega | (simp; omega)) (by first | omega | (simp; omega))) ?_
        refine WPl.v rfl (o_assign rfl) ?_
        refine WPl.nil ?_
        refine EX.again (i + 1) id (by first | omega | (constructor <;> omega)) (by omega) (LeR.of ⟨rfl, rfl, rfl, rfl, trivial⟩ ⟨(lx rfl), (lx rfl), trivial⟩ ⟨rfl, trivial⟩ rfl rfl rfl rfl rfl)
      · try simp only [decide_eq_true_eq, decide_eq_false_iff_not, Bool.and_eq_true, Bool.or_eq_true, Bool.and_eq_false_iff, Bool.or_eq_false_iff, Bool.not_eq_true', Bool.not_eq_false', ne_eq, Decidable.not_not] at hc3
        refine WP.exit ?_
        refine EX.exit_then ?_
        refine EX.exit_then ?_
        refine EX.exit_blk ?_
        refine EX.then ?_
        refine WP.seq ?_
        refine WP.seq ?_
        refine WP.region ?_
        refine WPl.v rfl (o_assign rfl) ?_
        refine WPl.nil ?_
        refine EX.then ?_
        refine WP.block ?_
        refine WP.loop (Gh := Nat) (fun k => ⟨3, [(1, .e (.a (.p 2 (0)))), (2, .b (false)), (3, .i (f.farK k)), (5, .i ((k : Int)))], [(0, PL EPig (f.shop.pigs)), (1, PL ENight (f.nights))], [(2, .blk [ai (f.shop.pounds), ai (f.shop.tl), ai (f.shop.th), ai (f.shop.al), ai (f.shop.ah), ai (f.shop.room), ai (f.shop.tpl), ai (f.shop.tph), ai (f.shop.apl), ai (f.shop.aph), .q 0, .q 1] 31)], [], []⟩) (fun k => k ≤ f.shop.pigs.length) (fun k => f.shop.pigs.length - k) (0) id ?_ (LeR.of ⟨rfl, rfl, (congrArg (fun z => some (SV.i z)) (show (f.farA i) = ((fun k => f.farK k) 0) from by rw [show i = f.nights.length by omega]; rfl)), rfl, trivial⟩ ⟨(lx rfl), (lx rfl), trivial⟩ ⟨rfl, trivial⟩ rfl rfl rfl rfl rfl) ?_
        · first | trivial | omega | (constructor <;> omega) | simp
        intro k hφ
        have hk : k ≤ f.shop.pigs.length := hφ
        refine WP.seq ?_
        refine WP.seq ?_
        refine WP.region ?_
        refine WPl.v rfl (o_move rfl) ?_
        refine WPl.v rfl (o_fldp F31_0 rfl) ?_
        refine WPl.v rfl (o_fldp F28_4 rfl) ?_
        refine WPl.v rfl (o_ldp S26 rfl rfl rfl) ?_
        refine WPl.v rfl (o_lenq L26 rfl (lx rfl)) ?_
        refine WPl.v rfl (o_lss rfl rfl) ?_
        refine WPl.v rfl (o_move rfl) ?_
        refine WPl.bit 3 4 (decide ((k : Int) < (f.shop.pigs.length : Int))) rfl rfl ?_
        refine WPl.gv 3 rfl rfl (.plain rfl Iff.rfl rfl) (fun hb => o_move rfl) ?_
        refine WPl.gv 3 rfl rfl (.plain rfl Iff.rfl rfl) (fun hb => o_leq rfl rfl) ?_
        refine WPl.v rfl (o_and rfl rfl rfl id) ?_
        refine WPl.nil ?_
        refine EX.then ?_
        refine WP.cond rfl (fun hc4 => ?_) (fun hc4 => ?_)
        · try simp only [decide_eq_true_eq, decide_eq_false_iff_not, Bool.and_eq_true, Bool.or_eq_true, Bool.and_eq_false_iff, Bool.or_eq_false_iff, Bool.not_eq_true', Bool.not_eq_false', ne_eq, Decidable.not_not] at hc4
          refine WP.skip ?_
          refine EX.then ?_
          refine WP.seq ?_
          refine WP.block ?_
          refine WP.seq ?_
          refine WP.region ?_
          refine WPl.v rfl (o_assign rfl) ?_
          refine WPl.nil ?_
          refine EX.then ?_
          refine WP.block ?_
          refine WP.loop (Gh := Nat) (fun j => ⟨4, [(1, .e (.a (.p 2 (0)))), (2, .b (false)), (3, .i (farI (nth f.shop.pigs k).many (f.farK k) j)), (5, .i ((k : Int))), (62, .i ((k : Int))), (63, .e (.a (.p 2 (0)))), (64, .e (.a (.p 2 (10)))), (65, .e (.a (.q 0))), (66, .i ((f.shop.pigs.length : Int))), (67, .b (decide ((k : Int) < (f.shop.pigs.length : Int)))), (68, .b (decide ((k : Int) < (f.shop.pigs.length : Int)))), (71, .b ((decide ((k : Int) < (f.shop.pigs.length : Int))) && (decide ((f.farK k) ≤ 3000)))), (6, .i ((j : Int) + 1))], [(0, PL EPig (f.shop.pigs)), (1, PL ENight (f.nights))], [(2, .blk [ai (f.shop.pounds), ai (f.shop.tl), ai (f.shop.th), ai (f.shop.al), ai (f.shop.ah), ai (f.shop.room), ai (f.shop.tpl), ai (f.shop.tph), ai (f.shop.apl), ai (f.shop.aph), .q 0, .q 1] 31)], [], []⟩) (fun j => j ≤ f.nights.length) (fun j => f.nights.length - j) (0) id ?_ (LeR.of ⟨rfl, rfl, rfl, rfl, rfl, rfl, rfl, rfl, rfl, rfl, rfl, rfl, (congrArg (fun z => some (SV.i z)) (show (1) = ((fun j => (j : Int) + 1) 0) from by simp)), trivial⟩ ⟨(lx rfl), (lx rfl), trivial⟩ ⟨rfl, trivial⟩ rfl rfl rfl rfl rfl) ?_
          · first | trivial | omega | (constructor <;> omega) | simp
          intro j hφ
          have hj : j ≤ f.nights.length := hφ
          refine WP.seq ?_
          refine WP.seq ?_
          refine WP.region ?_
          refine WPl.v rfl (o_move rfl) ?_
          refine WPl.v rfl (o_fldp F31_1 rfl) ?_
          refine WPl.v rfl (o_ldp S29 rfl rfl rfl) ?_
          refine WPl.v rfl (o_lenq L29 rfl (lx rfl)) ?_
          refine WPl.v rfl (o_leq rfl rfl) ?_
          refine WPl.nil ?_
          refine EX.then ?_
          refine WP.cond rfl (fun hc5 => ?_) (fun hc5 => ?_)
          · try simp only [decide_eq_true_eq, decide_eq_false_iff_not, Bool.and_eq_true, Bool.or_eq_true, Bool.and_eq_false_iff, Bool.or_eq_false_iff, Bool.not_eq_true', Bool.not_eq_false', ne_eq, Decidable.not_not] at hc5
            refine WP.skip ?_
            refine EX.then ?_
            refine WP.seq ?_
            refine WP.block ?_
            refine WP.region ?_
            refine WPl.v rfl (o_move rfl) ?_
            refine WPl.v rfl (o_fldp F31_0 rfl) ?_
            refine WPl.v rfl (o_fldp F28_4 rfl) ?_
            refine WPl.v rfl (o_ldp S26 rfl rfl rfl) ?_
            refine WPl.v rfl (o_move rfl) ?_
            refine WPl.x 4 5 rfl rfl rfl (o_idx L26 rfl (lx rfl) rfl (by first | omega | (simp; omega)) (by first | omega | (simp; omega))) ?_
            refine WPl.v rfl (o_fldq F78_4 rfl (lx rfl)) ?_
            have hkb := Pig.bnds (hpg.at (show k < f.shop.pigs.length by omega))
            have hk0 : 0 ≤ f.farK k := farK_nonneg hf (by omega)
            have hij := farI_bnd (many := (nth f.shop.pigs k).many) (n := f.farK k) (by omega) (by omega) hk0 (by omega) j (by omega)
            have hp9j := hp9 j (by omega)
            have hmm := mulb (a := farI (nth f.shop.pigs k).many (f.farK k) j) (A := 20000000) (b := (nth f.shop.pigs k).many + ((j : Int) + 1)) (B := 10) (by omega) (by omega) (by omega) (by omega)
            have hq0 := Int.tdiv_nonneg hmm.1 (show (0 : Int) ≤ (j : Int) + 1 by omega)
            have hq1 := Int.tdiv_le_self ((j : Int) + 1) hmm.1
            refine WPl.v rfl (o_lde S3 rfl (lx rfl) (strI rfl)) ?_
            refine WPl.v rfl (o_move rfl) ?_
            refine WPl.v rfl (o_add rfl rfl (by first | omega | (simp; omega)) (by first | omega | (simp; omega))) ?_
            refine WPl.v rfl (o_mul rfl rfl (by first | omega | (simp; omega)) (by first | omega | (simp; omega))) ?_
            refine WPl.v rfl (o_move rfl) ?_
            refine WPl.v rfl (o_quo rfl rfl (by first | omega | (simp; omega)) (by first | omega | (simp; omega)) (by first | omega | (simp; omega))) ?_
            refine WPl.v rfl (o_assign rfl) ?_
            refine WPl.nil ?_
            refine EX.blk ?_
            refine EX.then ?_
            refine WP.region ?_
            refine WPl.v rfl (o_move rfl) ?_
            refine WPl.v rfl (o_add rfl rfl (by first | omega | (simp; omega)) (by first | omega | (simp; omega))) ?_
            refine WPl.v rfl (o_assign rfl) ?_
            refine WPl.nil ?_
            refine EX.again (j + 1) id (by first | omega | (constructor <;> omega)) (by omega) (LeR.of ⟨rfl, rfl, rfl, rfl, rfl, rfl, rfl, rfl, rfl, rfl, rfl, rfl, (congrArg (fun z => some (SV.i z)) (show (((j : Int) + 1) + 1) = ((fun j => (j : Int) + 1) (j + 1)) from by show (j : Int) + 1 + 1 = ((j + 1 : Nat) : Int) + 1; omega)), trivial⟩ ⟨(lx rfl), (lx rfl), trivial⟩ ⟨rfl, trivial⟩ rfl rfl rfl rfl rfl)
          · try simp only [decide_eq_true_eq, decide_eq_false_iff_not, Bool.and_eq_true, Bool.or_eq_true, Bool.and_eq_false_iff, Bool.or_eq_false_iff, Bool.not_eq_true', Bool.not_eq_false', ne_eq, Decidable.not_not] at hc5
            refine WP.exit ?_
            refine EX.exit_then ?_
            refine EX.exit_then ?_
            refine EX.exit_blk ?_
            refine EX.blk ?_
            refine EX.then ?_
            refine WP.region ?_
            refine WPl.v rfl (o_move rfl) ?_
            refine WPl.v rfl (o_add rfl rfl (by first | omega | (simp; omega)) (by first | omega | (simp; omega))) ?_
            refine WPl.v rfl (o_assign rfl) ?_
            refine WPl.nil ?_
            refine EX.again (k + 1) id (by first | omega | (constructor <;> omega)) (by omega) (LeR.of ⟨rfl, rfl, (congrArg (fun z => some (SV.i z)) (show (farI (nth f.shop.pigs k).many (f.farK k) j) = ((fun k => f.farK k) (k + 1)) from by rw [show j = f.nights.length by omega]; simp only [Fnd.farK]; rw [if_pos (by omega)])), rfl, trivial⟩ ⟨(lx rfl), (lx rfl), trivial⟩ ⟨rfl, trivial⟩ rfl rfl rfl rfl rfl)
        · try simp only [decide_eq_true_eq, decide_eq_false_iff_not, Bool.and_eq_true, Bool.or_eq_true, Bool.and_eq_false_iff, Bool.or_eq_false_iff, Bool.not_eq_true', Bool.not_eq_false', ne_eq, Decidable.not_not] at hc4
          refine WP.exit ?_
          refine EX.exit_then ?_
          refine EX.exit_then ?_
          refine EX.exit_blk ?_
          refine EX.then ?_
          refine WP.seq ?_
          refine WP.region ?_
          refine WPl.v rfl (o_move rfl) ?_
          refine WPl.v rfl (o_gtr rfl rfl) ?_
          refine WPl.v rfl (o_assign rfl) ?_
          refine WPl.nil ?_
          refine EX.then ?_
          refine WP.ret ?_
          rw [show f.far = decide (3000 < f.farK k) from by simp only [Fnd.far, hnh, hf, Bool.false_or, Bool.true_and]; rw [farK_stop hf (k := k) (by omega) (by omega)]]
          exact EX.fin id (.inl rfl) rfl (.tmp rfl .nil) rfl (by simp [SV.res, El.res, At.res, keys]) trivial (by simp) (by simp)
theorem w75  : ∀ x ∈ ([] : List SV), x.res (keys (α := Pred) []) := by simp [SV.res, El.res, At.res, keys]
theorem r75  : SV.res (keys (α := Pred) [(0, PL EPig (exW.shop.pigs)), (1, PL ENight (exW.nights)), (2, PL EPig (exU.shop.pigs)), (3, PL ENight (exU.nights)), (4, PL EPig (exV.shop.pigs)), (5, PL ENight (exV.nights))]) (.t [.g [ai (exW.shop.pounds), ai (exW.shop.tl), ai (exW.shop.th), ai (exW.shop.al), ai (exW.shop.ah), ai (exW.shop.room), ai (exW.shop.tpl), ai (exW.shop.tph), ai (exW.shop.apl), ai (exW.shop.aph), .q 0, .q 1], .g [ai (exU.shop.pounds), ai (exU.shop.tl), ai (exU.shop.th), ai (exU.shop.al), ai (exU.shop.ah), ai (exU.shop.room), ai (exU.shop.tpl), ai (exU.shop.tph), ai (exU.shop.apl), ai (exU.shop.aph), .q 2, .q 3], .g [ai (exV.shop.pounds), ai (exV.shop.tl), ai (exV.shop.th), ai (exV.shop.al), ai (exV.shop.ah), ai (exV.shop.room), ai (exV.shop.tpl), ai (exV.shop.tph), ai (exV.shop.apl), ai (exV.shop.aph), .q 4, .q 5]]) := by simp [SV.res, El.res, At.res, keys]
set_option maxHeartbeats 4000000 in
theorem c75   : Sig Try.prog 75 [] [] (.t [.g [ai (exW.shop.pounds), ai (exW.shop.tl), ai (exW.shop.th), ai (exW.shop.al), ai (exW.shop.ah), ai (exW.shop.room), ai (exW.shop.tpl), ai (exW.shop.tph), ai (exW.shop.apl), ai (exW.shop.aph), .q 0, .q 1], .g [ai (exU.shop.pounds), ai (exU.shop.tl), ai (exU.shop.th), ai (exU.shop.al), ai (exU.shop.ah), ai (exU.shop.room), ai (exU.shop.tpl), ai (exU.shop.tph), ai (exU.shop.apl), ai (exU.shop.aph), .q 2, .q 3], .g [ai (exV.shop.pounds), ai (exV.shop.tl), ai (exV.shop.th), ai (exV.shop.al), ai (exV.shop.ah), ai (exV.shop.room), ai (exV.shop.tpl), ai (exV.shop.tph), ai (exV.shop.apl), ai (exV.shop.aph), .q 4, .q 5]]) [(0, PL EPig (exW.shop.pigs)), (1, PL ENight (exW.nights)), (2, PL EPig (exU.shop.pigs)), (3, PL ENight (exU.nights)), (4, PL EPig (exV.shop.pigs)), (5, PL ENight (exV.nights))] := by
  refine Sig.intro Try.func75 rfl 0 [] rfl w75 rfl rfl fun I w => ?_
  refine WP.seq ?_
  refine WP.region ?_
  refine WPl.l 0 1 rfl rfl rfl (o_alloc Z31) ?_
  refine WPl.l 1 2 rfl rfl rfl (o_alloc Z31) ?_
  refine WPl.l 2 3 rfl rfl rfl (o_alloc Z31) ?_
  refine WPl.nil ?_
  refine EX.then ?_
  refine WP.seq ?_
  refine WP.region ?_
  refine WPl.v rfl (o_build B23 rfl ⟨rfl, rfl, trivial⟩ rfl rfl) ?_
  refine WPl.v rfl (o_build B23 rfl ⟨rfl, rfl, trivial⟩ rfl rfl) ?_
  refine WPl.v rfl (o_build B25 rfl ⟨rfl, trivial⟩ rfl rfl) ?_
  refine WPl.v rfl (o_build B23 rfl ⟨rfl, rfl, trivial⟩ rfl rfl) ?_
  refine WPl.v rfl (o_build B23 rfl ⟨rfl, rfl, trivial⟩ rfl rfl) ?_
  refine WPl.v rfl (o_build B78 rfl ⟨rfl, rfl, rfl, rfl, rfl, trivial⟩ rfl rfl) ?_
  refine WPl.x 3 4 rfl rfl rfl (OpG.settle0 (o_bsl (E := EPig) (l := [(⟨10, 3, 1, 20, 2⟩ : Pig)]) R26 rfl rfl (.cons (⟨rfl, rfl, rfl, rfl, rfl, trivial⟩) rfl (eok_str ⟨rfl, rfl, rfl, rfl, rfl, trivial⟩) (.nil)) rfl rfl)) ?_
  refine WPl.v rfl (o_build B28 rfl ⟨rfl, (.inl ⟨_, (lx rfl), PL.one⟩), trivial⟩ rfl rfl) ?_
  refine WPl.v rfl (o_build B23 rfl ⟨rfl, rfl, trivial⟩ rfl rfl) ?_
  refine WPl.v rfl (o_build B75 rfl trivial rfl rfl) ?_
  refine WPl.v rfl (o_build B23 rfl ⟨rfl, rfl, trivial⟩ rfl rfl) ?_
  refine WPl.v rfl (o_build B75 rfl trivial rfl rfl) ?_
  refine WPl.v rfl (o_build B23 rfl ⟨rfl, rfl, trivial⟩ rfl rfl) ?_
  refine WPl.v rfl (o_build B75 rfl trivial rfl rfl) ?_
  refine WPl.x 4 5 rfl rfl rfl (OpG.settle0 (o_bsl (E := ENight) (l := [(⟨1, 2, 0⟩ : Night), (⟨1, 1, 0⟩ : Night), (⟨1, 2, 0⟩ : Night)]) R29 rfl rfl (.cons (⟨rfl, rfl, rfl, trivial⟩) rfl (eok_str ⟨rfl, rfl, rfl, trivial⟩) (.cons (⟨rfl, rfl, rfl, trivial⟩) rfl (eok_str ⟨rfl, rfl, rfl, trivial⟩) (.cons (⟨rfl, rfl, rfl, trivial⟩) rfl (eok_str ⟨rfl, rfl, rfl, trivial⟩) (.nil)))) rfl rfl)) ?_
  refine WPl.v rfl (o_build B31 rfl ⟨(.inl ⟨_, (lx rfl), PL.one⟩), trivial⟩ rfl rfl) ?_
  refine WPl.s1 (o_stag G31 rfl rfl rfl ⟨rfl, rfl, rfl, rfl, rfl, rfl, rfl, rfl, rfl, rfl, (.inl ⟨_, (lx rfl), PL.one⟩), (.inl ⟨_, (lx rfl), PL.one⟩), trivial⟩ rfl rfl) ?_
  refine WPl.nil ?_
  refine EX.then ?_
  refine WP.seq ?_
  refine WP.region ?_
  refine WPl.v rfl (o_ldpa G31 rfl rfl rfl) ?_
  refine WPl.cs 7 rfl rfl rfl rfl (o_sig 5 (ren [(0, 3), (1, 4)]) (c17 exW (by decide) (by decide)) e17 rfl rfl rfl w17 ⟨(lx rfl), (lx rfl), trivial⟩ r17) ?_
  refine WPl.s1 (o_stag G31 rfl rfl rfl ⟨rfl, rfl, rfl, rfl, rfl, rfl, rfl, rfl, rfl, rfl, (.inl ⟨_, (lx rfl), PL.one⟩), (.inl ⟨_, (lx rfl), PL.one⟩), trivial⟩ rfl rfl) ?_
  refine WPl.nil ?_
  refine EX.then ?_
  refine WP.seq ?_
  refine WP.region ?_
  refine WPl.v rfl (o_fldp F31_0 rfl) ?_
  refine WPl.v rfl (o_fldp F28_2 rfl) ?_
  refine WPl.v rfl (o_fldp F23_1 rfl) ?_
  refine WPl.s1 (o_sta S3 rfl rfl rfl rfl rfl) ?_
  refine WPl.nil ?_
  refine EX.then ?_
  refine WP.seq ?_
  refine WP.draw (nf := 9) [⟨[25, 26, 27], [7, 8], [], [], []⟩, ⟨[24, 26, 27], [0, 7, 8], [], [], []⟩, ⟨[24, 25], [], [], [], []⟩, ⟨[24, 25], [], [7, 8], [7, 8], [2]⟩, ⟨[25], [], [], [0], [0, 2, 3]⟩, ⟨[], [], [], [1], [0, 1, 2, 3, 4]⟩, ⟨[], [], [], [2], [0, 1, 2, 3, 4, 5]⟩] (by kernel_rfl) (by kernel_rfl) ?_
  refine DRQ.v rfl rfl rfl (o_ldpa G31 rfl rfl rfl) ?_
  refine DRQ.v rfl rfl rfl (o_ldpa G31 rfl rfl rfl) ?_
  refine DRQ.v rfl rfl rfl (o_ldpa G31 rfl rfl rfl) ?_
  refine DRQ.cs rfl rfl rfl rfl (o_sig 7 (ren [(0, 5), (1, 6)]) (c64 exU 2 ex_chk.2.1 (by decide)) e64 rfl rfl rfl w64 ⟨(lx rfl), (lx rfl), trivial⟩ r64) ?_
  refine DRQ.s 0 rfl rfl rfl (o_stag G31 rfl rfl rfl ⟨rfl, rfl, rfl, rfl, rfl, rfl, rfl, rfl, rfl, rfl, (.inl ⟨_, (lx rfl), PL.one⟩), (.inl ⟨_, (lx rfl), PL.one⟩), trivial⟩ rfl rfl) ?_
  refine DRQ.s 1 rfl rfl rfl (o_stag G31 rfl rfl rfl ⟨rfl, rfl, rfl, rfl, rfl, rfl, rfl, rfl, rfl, rfl, (.inl ⟨_, (lx rfl), PL.one⟩), (.inl ⟨_, (lx rfl), PL.one⟩), trivial⟩ rfl rfl) ?_
  refine DRQ.s 2 rfl rfl rfl (o_stag G31 rfl rfl rfl ⟨rfl, rfl, rfl, rfl, rfl, rfl, rfl, rfl, rfl, rfl, (.inl ⟨_, (lx rfl), PL.one⟩), (.inl ⟨_, (lx rfl), PL.one⟩), trivial⟩ rfl rfl) ?_
  refine DRQ.nil' ?_
  refine EX.then ?_
  refine WP.ret ?_
  exact EX.fin (ren [(0, 3), (1, 4), (2, 5), (3, 6), (4, 7), (5, 8)]) (.inl rfl) rfl (.cellg G31 rfl rfl rfl (.cellg G31 rfl rfl rfl (.cellg G31 rfl rfl rfl (.nil)))) rfl r75 ⟨(lx rfl), (lx rfl), (lx rfl), (lx rfl), (lx rfl), (lx rfl), trivial⟩ (by simp) (by simp)
theorem w16  : ∀ x ∈ ([] : List SV), x.res (keys (α := Pred) []) := by simp [SV.res, El.res, At.res, keys]
theorem r16  : SV.res (keys (α := Pred) []) (.b (true)) := by simp [SV.res, El.res, At.res, keys]
set_option maxHeartbeats 4000000 in
theorem c16   : Sig Try.prog 16 [] [] (.b (true)) [] := by
  refine Sig.intro Try.func16 rfl 0 [] rfl w16 rfl rfl fun I w => ?_
  refine WP.seq ?_
  refine WP.region ?_
  refine WPl.v rfl (o_assign rfl) ?_
  refine WPl.nil ?_
  refine EX.then ?_
  refine WP.seq ?_
  refine WP.region ?_
  refine WPl.cs 6 rfl rfl rfl rfl (o_sig 0 id c75 e75 rfl rfl rfl w75 trivial r75) ?_
  refine WPl.v rfl (o_move rfl) ?_
  refine WPl.v rfl (o_extract rfl rfl) ?_
  refine WPl.v rfl (o_extract rfl rfl) ?_
  refine WPl.v rfl (o_extract rfl rfl) ?_
  refine WPl.l 6 7 rfl rfl rfl (o_alloc Z31) ?_
  refine WPl.l 7 8 rfl rfl rfl (o_alloc Z31) ?_
  refine WPl.l 8 9 rfl rfl rfl (o_alloc Z31) ?_
  refine WPl.s1 (o_stag G31 rfl rfl rfl ⟨rfl, rfl, rfl, rfl, rfl, rfl, rfl, rfl, rfl, rfl, (.inl ⟨_, (lx rfl), PL.one⟩), (.inl ⟨_, (lx rfl), PL.one⟩), trivial⟩ rfl rfl) ?_
  refine WPl.s1 (o_stag G31 rfl rfl rfl ⟨rfl, rfl, rfl, rfl, rfl, rfl, rfl, rfl, rfl, rfl, (.inl ⟨_, (lx rfl), PL.one⟩), (.inl ⟨_, (lx rfl), PL.one⟩), trivial⟩ rfl rfl) ?_
  refine WPl.s1 (o_stag G31 rfl rfl rfl ⟨rfl, rfl, rfl, rfl, rfl, rfl, rfl, rfl, rfl, rfl, (.inl ⟨_, (lx rfl), PL.one⟩), (.inl ⟨_, (lx rfl), PL.one⟩), trivial⟩ rfl rfl) ?_
  refine WPl.nil ?_
  refine EX.then ?_
  refine WP.seq ?_
  refine WP.region ?_
  refine WPl.v rfl (o_ldpa G31 rfl rfl rfl) ?_
  refine WPl.x 9 10 rfl rfl rfl (OpG.settle0 (o_bsl (E := EP.int) (l := [1]) R44 rfl rfl (.cons (rfl) rfl (eok_int) (.nil)) rfl rfl)) ?_
  refine WPl.x 10 11 rfl rfl rfl (OpG.settle0 (o_bsl (E := EP.int) (l := [0]) R44 rfl rfl (.cons (rfl) rfl (eok_int) (.nil)) rfl rfl)) ?_
  refine WPl.x 11 12 rfl rfl rfl (OpG.settle0 (o_bsl (E := EP.int) (l := [0]) R44 rfl rfl (.cons (rfl) rfl (eok_int) (.nil)) rfl rfl)) ?_
  refine WPl.x 12 13 rfl rfl rfl (OpG.settle0 (o_bsl (E := (EP.sl EP.int)) (l := [[1], [0], [0]]) R32 rfl rfl (.cons ((.inl ⟨_, (lx rfl), PL.one⟩)) rfl (eok_sl (lx rfl)) (.cons ((.inl ⟨_, (lx rfl), PL.one⟩)) rfl (eok_sl (lx rfl)) (.cons ((.inl ⟨_, (lx rfl), PL.one⟩)) rfl (eok_sl (lx rfl)) (.nil)))) rfl rfl)) ?_
  refine WPl.cs 14 rfl rfl rfl rfl (o_sig 13 (ren [(0, 0), (1, 1), (2, 12)]) (c25 exW [[1], [0], [0]] (by decide)) e25 rfl rfl rfl w25 ⟨(lx rfl), (lx rfl), (lx rfl), trivial⟩ r25) ?_
  refine WPl.v rfl (o_move rfl) ?_
  refine WPl.v rfl (o_extract rfl rfl) ?_
  refine WPl.v rfl (o_extract rfl rfl) ?_
  refine WPl.v rfl (o_assign rfl) ?_
  refine WPl.v rfl (o_assign rfl) ?_
  refine WPl.nil ?_
  refine EX.then ?_
  refine WP.seq ?_
  refine WP.region ?_
  refine WPl.v rfl (o_ldpa G31 rfl rfl rfl) ?_
  refine WPl.cs 14 rfl rfl rfl rfl (o_sig 14 (ren [(0, 0), (1, 1)]) (c28 exW (by decide)) e28 rfl rfl rfl w28 ⟨(lx rfl), (lx rfl), trivial⟩ r28) ?_
  refine WPl.v rfl (o_move rfl) ?_
  refine WPl.v rfl (o_extract rfl rfl) ?_
  refine WPl.v rfl (o_extract rfl rfl) ?_
  refine WPl.v rfl (o_assign rfl) ?_
  refine WPl.v rfl (o_assign rfl) ?_
  refine WPl.nil ?_
  refine EX.then ?_
  refine WP.seq ?_
  refine WP.region ?_
  refine WPl.v rfl (o_ldpa G31 rfl rfl rfl) ?_
  refine WPl.cs 15 rfl rfl rfl rfl (o_sig 14 (ren [(0, 0), (1, 1)]) (c45 exW (by decide)) e45 rfl rfl rfl w45 ⟨(lx rfl), (lx rfl), trivial⟩ r45) ?_
  refine WPl.v rfl (o_move rfl) ?_
  refine WPl.v rfl (o_extract rfl rfl) ?_
  refine WPl.v rfl (o_extract rfl rfl) ?_
  refine WPl.v rfl (o_assign rfl) ?_
  refine WPl.v rfl (o_assign rfl) ?_
  refine WPl.nil ?_
  refine EX.then ?_
  refine WP.seq ?_
  refine WP.region ?_
  refine WPl.v rfl (o_ldpa G31 rfl rfl rfl) ?_
  refine WPl.cs 15 rfl rfl rfl rfl (o_sig 15 (ren [(0, 4), (1, 5)]) (c57 exV (by decide)) e57 rfl rfl rfl w57 ⟨(lx rfl), (lx rfl), trivial⟩ r57) ?_
  refine WPl.v rfl (o_move rfl) ?_
  refine WPl.v rfl (o_extract rfl rfl) ?_
  refine WPl.v rfl (o_extract rfl rfl) ?_
  refine WPl.v rfl (o_assign rfl) ?_
  refine WPl.v rfl (o_assign rfl) ?_
  refine WPl.nil ?_
  refine EX.then ?_
  refine WP.seq ?_
  refine WP.region ?_
  refine WPl.v rfl (o_ldpa G31 rfl rfl rfl) ?_
  refine WPl.cs 15 rfl rfl rfl rfl (o_sig 15 (ren [(0, 2), (1, 3)]) (c43 exU (by decide)) e43 rfl rfl rfl w43 ⟨(lx rfl), (lx rfl), trivial⟩ r43) ?_
  refine WPl.v rfl (o_move rfl) ?_
  refine WPl.v rfl (o_extract rfl rfl) ?_
  refine WPl.v rfl (o_extract rfl rfl) ?_
  refine WPl.v rfl (o_assign rfl) ?_
  refine WPl.v rfl (o_assign rfl) ?_
  refine WPl.nil ?_
  refine EX.then ?_
  refine WP.seq ?_
  refine WP.region ?_
  refine WPl.v rfl (o_ldpa G31 rfl rfl rfl) ?_
  refine WPl.x 15 16 rfl rfl rfl (OpG.settle0 (o_bsl (E := EP.int) (l := [0]) R44 rfl rfl (.cons (rfl) rfl (eok_int) (.nil)) rfl rfl)) ?_
  refine WPl.x 16 17 rfl rfl rfl (OpG.settle0 (o_bsl (E := EP.int) (l := [0]) R44 rfl rfl (.cons (rfl) rfl (eok_int) (.nil)) rfl rfl)) ?_
  refine WPl.x 17 18 rfl rfl rfl (OpG.settle0 (o_bsl (E := EP.int) (l := [0]) R44 rfl rfl (.cons (rfl) rfl (eok_int) (.nil)) rfl rfl)) ?_
  refine WPl.x 18 19 rfl rfl rfl (OpG.settle0 (o_bsl (E := (EP.sl EP.int)) (l := [[0], [0], [0]]) R32 rfl rfl (.cons ((.inl ⟨_, (lx rfl), PL.one⟩)) rfl (eok_sl (lx rfl)) (.cons ((.inl ⟨_, (lx rfl), PL.one⟩)) rfl (eok_sl (lx rfl)) (.cons ((.inl ⟨_, (lx rfl), PL.one⟩)) rfl (eok_sl (lx rfl)) (.nil)))) rfl rfl)) ?_
  refine WPl.cs 19 rfl rfl rfl rfl (o_sig 19 (ren [(0, 0), (1, 1), (2, 18)]) (c23 exW [[0], [0], [0]] (by decide)) e23 rfl rfl rfl w23 ⟨(lx rfl), (lx rfl), (lx rfl), trivial⟩ r23) ?_
  refine WPl.v rfl (o_move rfl) ?_
  refine WPl.v rfl (o_extract rfl rfl) ?_
  refine WPl.v rfl (o_extract rfl rfl) ?_
  refine WPl.v rfl (o_assign rfl) ?_
  refine WPl.v rfl (o_assign rfl) ?_
  refine WPl.nil ?_
  refine EX.then ?_
  refine WP.seq ?_
  refine WP.region ?_
  refine WPl.v rfl (o_move rfl) ?_
  refine WPl.v rfl (o_eql rfl rfl) ?_
  refine WPl.imp (Imp.bitF 60 (b' := true) rfl (decide_eq_true ex_fE)) ?_
  refine WPl.v rfl (o_move rfl) ?_
  refine WPl.on rfl ⟨_, _, rfl, rfl, rfl⟩ (o_move rfl) ?_
  refine WPl.on rfl ⟨_, _, rfl, rfl, rfl⟩ (o_eql rfl rfl) ?_
  refine WPl.v rfl (o_pickT rfl rfl) ?_
  refine WPl.v rfl (o_move rfl) ?_
  refine WPl.bit 19 20 (decide ((errW exW.chk) = 0)) rfl rfl ?_
  refine WPl.gv 19 rfl rfl (.plain rfl Iff.rfl rfl) (fun hb => o_move rfl) ?_
  refine WPl.gv 19 rfl rfl (.plain rfl Iff.rfl rfl) (fun hb => o_eql rfl rfl) ?_
  refine WPl.v rfl (o_and rfl rfl rfl id) ?_
  refine WPl.v rfl (o_move rfl) ?_
  refine WPl.bit 20 21 ((decide ((errW exW.chk) = 0)) && (decide ((exW.leastE costG) = 0))) rfl rfl ?_
  refine WPl.gv 20 rfl rfl (.plain rfl Iff.rfl rfl) (fun hb => o_move rfl) ?_
  refine WPl.gv 20 rfl rfl (.plain rfl Iff.rfl rfl) (fun hb => o_eql rfl rfl) ?_
  refine WPl.v rfl (o_and rfl rfl rfl id) ?_
  refine WPl.v rfl (o_move rfl) ?_
  refine WPl.bit 21 22 (((decide ((errW exW.chk) = 0)) && (decide ((exW.leastE costG) = 0))) && (decide (exV.wKnownE = 0))) rfl rfl ?_
  refine WPl.gv 21 rfl rfl (.plain rfl Iff.rfl rfl) (fun hb => o_move rfl) ?_
  refine WPl.gv 21 rfl rfl (.plain rfl Iff.rfl rfl) (fun hb => o_eql rfl rfl) ?_
  refine WPl.v rfl (o_and rfl rfl rfl id) ?_
  refine WPl.v rfl (o_move rfl) ?_
  refine WPl.bit 22 23 ((((decide ((errW exW.chk) = 0)) && (decide ((exW.leastE costG) = 0))) && (decide (exV.wKnownE = 0))) && (decide ((exU.leastE costG) = 3))) rfl rfl ?_
  refine WPl.gv 22 rfl rfl (.plain rfl Iff.rfl rfl) (fun hb => o_move rfl) ?_
  refine WPl.gv 22 rfl rfl (.plain rfl Iff.rfl rfl) (fun hb => o_eql rfl rfl) ?_
  refine WPl.v rfl (o_and rfl rfl rfl id) ?_
  refine WPl.v rfl (o_move rfl) ?_
  rw [ex_f]
  refine WPl.bit 23 24 (((((decide ((errW exW.chk) = 0)) && (decide ((exW.leastE costG) = 0))) && (decide (exV.wKnownE = 0))) && (decide ((exU.leastE costG) = 3))) && (decide ((exW.wOpen (exW.wPlan [[0], [0], [0]])) = 0))) rfl rfl ?_
  refine WPl.gv 23 rfl rfl (.plain rfl Iff.rfl rfl) (fun hb => o_move rfl) ?_
  refine WPl.gx 23 24 25 rfl rfl rfl rfl (.plain rfl Iff.rfl rfl) (fun hb => OpG.settle0 (o_bsl (E := EP.int) (l := [0, 1]) R44 rfl rfl (.cons (rfl) rfl (eok_int) (.cons (rfl) rfl (eok_int) (.nil))) rfl rfl)) ?_
  refine WPl.gc0 23 rfl rfl (.plain rfl Iff.rfl rfl) (fun hb => o_sig 25 (ren [(0, 13), (1, 24)]) (c27 [0, 1] [0, 1] (by decide)) e27 rfl rfl rfl w27 ⟨(lx rfl), (lxi hb rfl), trivial⟩ r27) ?_
  refine WPl.v rfl (o_and rfl rfl rfl id) ?_
  refine WPl.v rfl (o_move rfl) ?_
  refine WPl.bit 25 26 ((((((decide ((errW exW.chk) = 0)) && (decide ((exW.leastE costG) = 0))) && (decide (exV.wKnownE = 0))) && (decide ((exU.leastE costG) = 3))) && (decide ((exW.wOpen (exW.wPlan [[0], [0], [0]])) = 0))) && (sameInts [0, 1] [0, 1])) rfl rfl ?_
  refine WPl.gv 25 rfl rfl (.plain rfl Iff.rfl rfl) (fun hb => o_move rfl) ?_
  refine WPl.gv 25 rfl rfl (.plain rfl Iff.rfl rfl) (fun hb => o_eql rfl rfl) ?_
  refine WPl.v rfl (o_and rfl rfl rfl id) ?_
  refine WPl.v rfl (o_move rfl) ?_
  rw [ex_plan]
  refine WPl.bit 26 27 (((((((decide ((errW exW.chk) = 0)) && (decide ((exW.leastE costG) = 0))) && (decide (exV.wKnownE = 0))) && (decide ((exU.leastE costG) = 3))) && (decide ((exW.wOpen (exW.wPlan [[0], [0], [0]])) = 0))) && (sameInts [0, 1] [0, 1])) && (decide (exW.wLastV = 2))) rfl rfl ?_
  refine WPl.gv 26 rfl rfl (.plain rfl Iff.rfl rfl) (fun hb => o_move rfl) ?_
  refine WPl.gx 26 27 28 rfl rfl rfl rfl (.plain rfl Iff.rfl rfl) (fun hb => OpG.settle0 (o_bsl (E := EP.int) (l := [0]) R44 rfl rfl (.cons (rfl) rfl (eok_int) (.nil)) rfl rfl)) ?_
  refine WPl.gx 26 28 29 rfl rfl rfl rfl (.plain rfl Iff.rfl rfl) (fun hb => OpG.settle0 (o_bsl (E := EP.int) (l := [0]) R44 rfl rfl (.cons (rfl) rfl (eok_int) (.nil)) rfl rfl)) ?_
  refine WPl.gx 26 29 30 rfl rfl rfl rfl (.plain rfl Iff.rfl rfl) (fun hb => OpG.settle0 (o_bsl (E := EP.int) (l := [1]) R44 rfl rfl (.cons (rfl) rfl (eok_int) (.nil)) rfl rfl)) ?_
  refine WPl.gx 26 30 31 rfl rfl rfl rfl (.plain rfl Iff.rfl rfl) (fun hb => OpG.settle0 (o_bsl (E := (EP.sl EP.int)) (l := [[0], [0], [1]]) R32 rfl rfl (.cons ((.inl ⟨_, (lxi hb rfl), PL.one⟩)) rfl (eok_sl (lxi hb rfl)) (.cons ((.inl ⟨_, (lxi hb rfl), PL.one⟩)) rfl (eok_sl (lxi hb rfl)) (.cons ((.inl ⟨_, (lxi hb rfl), PL.one⟩)) rfl (eok_sl (lxi hb rfl)) (.nil)))) rfl rfl)) ?_
  refine WPl.gc0 26 rfl rfl (.plain rfl Iff.rfl rfl) (fun hb => o_sig 31 (ren [(0, 14), (1, 30)]) (c31 [[0], [0], [1]] (by decide) (by decide)) e31 rfl rfl rfl w31 ⟨(lx rfl), (lxi hb rfl), trivial⟩ r31) ?_
  refine WPl.v rfl (o_and rfl rfl rfl id) ?_
  refine WPl.v rfl (o_move rfl) ?_
  refine WPl.bit 31 32 ((((((((decide ((errW exW.chk) = 0)) && (decide ((exW.leastE costG) = 0))) && (decide (exV.wKnownE = 0))) && (decide ((exU.leastE costG) = 3))) && (decide ((exW.wOpen (exW.wPlan [[0], [0], [0]])) = 0))) && (sameInts [0, 1] [0, 1])) && (decide (exW.wLastV = 2))) && true) rfl rfl ?_
  refine WPl.gv 31 rfl rfl (.plain rfl Iff.rfl rfl) (fun hb => o_move rfl) ?_
  refine WPl.gv 31 rfl rfl (.plain rfl Iff.rfl rfl) (fun hb => o_eql rfl rfl) ?_
  refine WPl.v rfl (o_and rfl rfl rfl id) ?_
  refine WPl.v rfl (o_move rfl) ?_
  refine WPl.bit 32 33 (((((((((decide ((errW exW.chk) = 0)) && (decide ((exW.leastE costG) = 0))) && (decide (exV.wKnownE = 0))) && (decide ((exU.leastE costG) = 3))) && (decide ((exW.wOpen (exW.wPlan [[0], [0], [0]])) = 0))) && (sameInts [0, 1] [0, 1])) && (decide (exW.wLastV = 2))) && true) && (decide (exV.wKnownV = 20))) rfl rfl ?_
  refine WPl.gv 32 rfl rfl (.plain rfl Iff.rfl rfl) (fun hb => o_move rfl) ?_
  refine WPl.gv 32 rfl rfl (.plain rfl Iff.rfl rfl) (fun hb => o_eql rfl rfl) ?_
  refine WPl.v rfl (o_and rfl rfl rfl id) ?_
  refine WPl.v rfl (o_assign rfl) ?_
  refine WPl.nil ?_
  refine EX.then ?_
  refine WP.ret ?_
  exact EX.fin id (.inl rfl) rfl (.tmp rfl .nil) rfl r16 trivial (by simp) (by simp)
end Go.Flong
