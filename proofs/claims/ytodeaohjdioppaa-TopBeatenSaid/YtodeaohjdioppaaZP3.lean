/- Part 3 of the texts behind the claim: B1 B2 EngTo EngTq EngTp PB2 B3 B4 EngTr PB3. -/
import Derived.Test.YtodeaohjdioppaaZP2
set_option linter.unusedSimpArgs false
set_option linter.unusedVariables false
namespace Go.Flong
open Go Go.Eng Go.Proofs
theorem e24 : Enters' Try.prog 24 := Try.call24
theorem F28_1 : Fld Try.prog 28 1 1 := .mk Try.underlying28 rfl rfl rfl Try.sizeOf3 rfl
theorem S3 : TyS Try.prog 3 := ⟨Try.isAgg3, Try.sizeOf3⟩
theorem F28_0 : Fld Try.prog 28 0 0 := .mk Try.underlying28 rfl rfl rfl Try.sizeOf3 rfl
theorem Z47 : Zero Try.prog 47 [ai (0), ai (0), ai (0)] := .mk Try.zeroValue47 rfl rfl
theorem B47 : BldT Try.prog 47 [(0, 1), (1, 1), (2, 1)] [.int .i64 0, .int .i64 0, .int .i64 0] := BldT.mk (ns := [1, 1, 1]) Try.underlying47 ⟨Try.sizeOf3, Try.sizeOf3, Try.sizeOf3, trivial⟩ rfl Try.zeroValue47 rfl
theorem G47 : TyG Try.prog 47 3 := ⟨Try.isAgg47, Try.sizeOf47⟩
theorem F26_0 : Fld Try.prog 26 0 0 := .mk Try.underlying26 rfl rfl rfl Try.sizeOf22 rfl
theorem S22 : TyS Try.prog 22 := ⟨Try.isAgg22, Try.sizeOf22⟩
theorem L22 : IsSl Try.prog 22 47 3 := ⟨Try.underlying22, Try.sizeOf47⟩
theorem F26_1 : Fld Try.prog 26 1 1 := .mk Try.underlying26 rfl rfl rfl Try.sizeOf23 rfl
theorem S23 : TyS Try.prog 23 := ⟨Try.isAgg23, Try.sizeOf23⟩
theorem L23 : IsSl Try.prog 23 24 1 := ⟨Try.underlying23, Try.sizeOf24⟩
theorem F26_2 : Fld Try.prog 26 2 2 := .mk Try.underlying26 rfl rfl rfl Try.sizeOf24 rfl
theorem S24 : TyS Try.prog 24 := ⟨Try.isAgg24, Try.sizeOf24⟩
theorem L24 : IsSl Try.prog 24 3 1 := ⟨Try.underlying24, Try.sizeOf3⟩
theorem e13 : Enters' Try.prog 13 := Try.call13
theorem F26_3 : Fld Try.prog 26 3 3 := .mk Try.underlying26 rfl rfl rfl Try.sizeOf3 rfl
theorem G26 : TyG Try.prog 26 4 := ⟨Try.isAgg26, Try.sizeOf26⟩
theorem F47_0 : Fld Try.prog 47 0 0 := .mk Try.underlying47 rfl rfl rfl Try.sizeOf3 rfl
theorem e11 : Enters' Try.prog 11 := Try.call11
theorem F47_1 : Fld Try.prog 47 1 1 := .mk Try.underlying47 rfl rfl rfl Try.sizeOf3 rfl
theorem F47_2 : Fld Try.prog 47 2 2 := .mk Try.underlying47 rfl rfl rfl Try.sizeOf3 rfl
theorem F37_0 : Fld Try.prog 37 0 0 := .mk Try.underlying37 rfl rfl rfl Try.sizeOf35 rfl
theorem S35 : TyS Try.prog 35 := ⟨Try.isAgg35, Try.sizeOf35⟩
theorem L35 : IsSl Try.prog 35 30 6 := ⟨Try.underlying35, Try.sizeOf30⟩
theorem G30 : TyG Try.prog 30 6 := ⟨Try.isAgg30, Try.sizeOf30⟩
theorem Z30 : Zero Try.prog 30 [ai (0), ai (0), ai (0), ai (0), ai (0), ai (0)] := .mk Try.zeroValue30 rfl rfl
theorem F30_0 : Fld Try.prog 30 0 0 := .mk Try.underlying30 rfl rfl rfl Try.sizeOf3 rfl
theorem e14 : Enters' Try.prog 14 := Try.call14
theorem F30_2 : Fld Try.prog 30 2 3 := .mk Try.underlying30 rfl rfl rfl Try.sizeOf3 rfl
theorem F30_1 : Fld Try.prog 30 1 1 := .mk Try.underlying30 rfl rfl rfl Try.sizeOf28 rfl
theorem G28 : TyG Try.prog 28 2 := ⟨Try.isAgg28, Try.sizeOf28⟩
theorem e15 : Enters' Try.prog 15 := Try.call15
theorem F30_3 : Fld Try.prog 30 3 4 := .mk Try.underlying30 rfl rfl rfl Try.sizeOf3 rfl
theorem F30_4 : Fld Try.prog 30 4 5 := .mk Try.underlying30 rfl rfl rfl Try.sizeOf3 rfl
theorem w24 {n lo hi : Int} : ∀ x ∈ ([.i (n), .i (lo), .i (hi)] : List SV), x.res (keys (α := Pred) []) := by simp [SV.res, El.res, At.res, keys]
theorem r24 {n lo hi : Int} : SV.res (keys (α := Pred) []) (.b (within n lo hi)) := by simp [SV.res, El.res, At.res, keys]
set_option maxHeartbeats 4000000 in
theorem c24 (n lo hi : Int)  : Sig Try.prog 24 [.i (n), .i (lo), .i (hi)] [] (.b (within n lo hi)) [] := by
  refine Sig.intro Try.func24 rfl 0 [(0, .i (n)), (1, .i (lo)), (2, .i (hi))] rfl w24 rfl rfl fun I w => ?_
  refine WP.seq ?_
  refine WP.region ?_
  refine WPl.v rfl (o_assign rfl) ?_
  refine WPl.nil ?_
  refine EX.then ?_
  refine WP.seq ?_
  refine WP.region ?_
  refine WPl.v rfl (o_move rfl) ?_
  refine WPl.v rfl (o_move rfl) ?_
  refine WPl.v rfl (o_leq rfl rfl) ?_
  refine WPl.v rfl (o_move rfl) ?_
  refine WPl.bit 0 1 (decide (lo ≤ n)) rfl rfl ?_
  refine WPl.gv 0 rfl rfl (.plain rfl Iff.rfl rfl) (fun hb => o_move rfl) ?_
  refine WPl.gv 0 rfl rfl (.plain rfl Iff.rfl rfl) (fun hb => o_move rfl) ?_
  refine WPl.gv 0 rfl rfl (.plain rfl Iff.rfl rfl) (fun hb => o_leq rfl rfl) ?_
  refine WPl.v rfl (o_and rfl rfl rfl id) ?_
  refine WPl.v rfl (o_assign rfl) ?_
  refine WPl.nil ?_
  refine EX.then ?_
  refine WP.ret ?_
  exact EX.fin id (.inl rfl) rfl (.tmp rfl .nil) rfl r24 trivial (by simp) (by simp)
theorem w36 {n lo hi : Int} : ∀ x ∈ ([.i (n), .i (lo), .i (hi)] : List SV), x.res (keys (α := Pred) []) := by simp [SV.res, El.res, At.res, keys]
theorem r36 {n lo hi : Int} : SV.res (keys (α := Pred) []) (.b (within n lo hi)) := by simp [SV.res, El.res, At.res, keys]
set_option maxHeartbeats 4000000 in
theorem c36 (n lo hi : Int)  : Sig Try.prog 36 [.i (n), .i (lo), .i (hi)] [] (.b (within n lo hi)) [] := by
  refine Sig.intro Try.func36 rfl 0 [(0, .i (n)), (1, .i (lo)), (2, .i (hi))] rfl w36 rfl rfl fun I w => ?_
  refine WP.seq ?_
  refine WP.region ?_
  refine WPl.v rfl (o_assign rfl) ?_
  refine WPl.nil ?_
  refine EX.then ?_
  refine WP.seq ?_
  refine WP.region ?_
  refine WPl.v rfl (o_move rfl) ?_
  refine WPl.v rfl (o_move rfl) ?_
  refine WPl.v rfl (o_geq rfl rfl) ?_
  refine WPl.v rfl (o_move rfl) ?_
  refine WPl.bit 0 1 (decide (lo ≤ n)) rfl rfl ?_
  refine WPl.gv 0 rfl rfl (.plain rfl Iff.rfl rfl) (fun hb => o_move rfl) ?_
  refine WPl.gv 0 rfl rfl (.plain rfl Iff.rfl rfl) (fun hb => o_move rfl) ?_
  refine WPl.gv 0 rfl rfl (.plain rfl Iff.rfl rfl) (fun hb => o_leq rfl rfl) ?_
  refine WPl.v rfl (o_and rfl rfl rfl id) ?_
  refine WPl.v rfl (o_assign rfl) ?_
  refine WPl.nil ?_
  refine EX.then ?_
  refine WP.ret ?_
  exact EX.fin id (.inl rfl) rfl (.tmp rfl .nil) rfl r36 trivial (by simp) (by simp)
theorem w44 {n lo hi : Int} : ∀ x ∈ ([.i (n), .i (lo), .i (hi)] : List SV), x.res (keys (α := Pred) []) := by simp [SV.res, El.res, At.res, keys]
theorem r44 {n lo hi : Int} : SV.res (keys (α := Pred) []) (.b (within n lo hi)) := by simp [SV.res, El.res, At.res, keys]
set_option maxHeartbeats 4000000 in
theorem c44 (n lo hi : Int)  : Sig Try.prog 44 [.i (n), .i (lo), .i (hi)] [] (.b (within n lo hi)) [] := by
  refine Sig.intro Try.func44 rfl 0 [(0, .i (n)), (1, .i (lo)), (2, .i (hi))] rfl w44 rfl rfl fun I w => ?_
  refine WP.seq ?_
  refine WP.region ?_
  refine WPl.v rfl (o_assign rfl) ?_
  refine WPl.nil ?_
  refine EX.then ?_
  refine WP.seq ?_
  refine WP.region ?_
  refine WPl.v rfl (o_move rfl) ?_
  refine WPl.v rfl (o_move rfl) ?_
  refine WPl.v rfl (o_geq rfl rfl) ?_
  refine WPl.v rfl (o_move rfl) ?_
  refine WPl.bit 0 1 (decide (lo ≤ n)) rfl rfl ?_
  refine WPl.gv 0 rfl rfl (.plain rfl Iff.rfl rfl) (fun hb => o_move rfl) ?_
  refine WPl.gv 0 rfl rfl (.plain rfl Iff.rfl rfl) (fun hb => o_move rfl) ?_
  refine WPl.gv 0 rfl rfl (.plain rfl Iff.rfl rfl) (fun hb => o_leq rfl rfl) ?_
  refine WPl.v rfl (o_and rfl rfl rfl id) ?_
  refine WPl.v rfl (o_assign rfl) ?_
  refine WPl.nil ?_
  refine EX.then ?_
  refine WP.ret ?_
  exact EX.fin id (.inl rfl) rfl (.tmp rfl .nil) rfl r44 trivial (by simp) (by simp)
theorem w13 {n lo hi : Int} : ∀ x ∈ ([.i (n), .i (lo), .i (hi)] : List SV), x.res (keys (α := Pred) []) := by simp [SV.res, El.res, At.res, keys]
theorem r13 {n lo hi : Int} : SV.res (keys (α := Pred) []) (.b (within n lo hi)) := by simp [SV.res, El.res, At.res, keys]
set_option maxHeartbeats 4000000 in
theorem c13 (n lo hi : Int)  : Sig Try.prog 13 [.i (n), .i (lo), .i (hi)] [] (.b (within n lo hi)) [] := by
  refine Sig.intro Try.func13 rfl 0 [(0, .i (n)), (1, .i (lo)), (2, .i (hi))] rfl w13 rfl rfl fun I w => ?_
  refine WP.seq ?_
  refine WP.region ?_
  refine WPl.v rfl (o_assign rfl) ?_
  refine WPl.nil ?_
  refine EX.then ?_
  refine WP.seq ?_
  refine WP.region ?_
  refine WPl.v rfl (o_move rfl) ?_
  refine WPl.v rfl (o_move rfl) ?_
  refine WPl.v rfl (o_move rfl) ?_
  refine WPl.cs 0 rfl rfl rfl rfl (o_sig 0 id (c24 n lo hi) e24 rfl rfl rfl w24 trivial r24) ?_
  refine WPl.v rfl (o_assign rfl) ?_
  refine WPl.nil ?_
  refine EX.then ?_
  refine WP.ret ?_
  exact EX.fin id (.inl rfl) rfl (.tmp rfl .nil) rfl r13 trivial (by simp) (by simp)
theorem w14 {n lo hi : Int} : ∀ x ∈ ([.i (n), .i (lo), .i (hi)] : List SV), x.res (keys (α := Pred) []) := by simp [SV.res, El.res, At.res, keys]
theorem r14 {n lo hi : Int} : SV.res (keys (α := Pred) []) (.b (within n lo hi)) := by simp [SV.res, El.res, At.res, keys]
set_option maxHeartbeats 4000000 in
theorem c14 (n lo hi : Int)  : Sig Try.prog 14 [.i (n), .i (lo), .i (hi)] [] (.b (within n lo hi)) [] := by
  refine Sig.intro Try.func14 rfl 0 [(0, .i (n)), (1, .i (lo)), (2, .i (hi))] rfl w14 rfl rfl fun I w => ?_
  refine WP.seq ?_
  refine WP.region ?_
  refine WPl.v rfl (o_assign rfl) ?_
  refine WPl.nil ?_
  refine EX.then ?_
  refine WP.seq ?_
  refine WP.region ?_
  refine WPl.v rfl (o_move rfl) ?_
  refine WPl.v rfl (o_move rfl) ?_
  refine WPl.v rfl (o_move rfl) ?_
  refine WPl.cs 0 rfl rfl rfl rfl (o_sig 0 id (c24 n lo hi) e24 rfl rfl rfl w24 trivial r24) ?_
  refine WPl.v rfl (o_assign rfl) ?_
  refine WPl.nil ?_
  refine EX.then ?_
  refine WP.ret ?_
  exact EX.fin id (.inl rfl) rfl (.tmp rfl .nil) rfl r14 trivial (by simp) (by simp)
theorem w15 {lo hi most : Int} : ∀ x ∈ ([.e (.g [ai (lo), ai (hi)]), .i (most)] : List SV), x.res (keys (α := Pred) []) := by simp [SV.res, El.res, At.res, keys]
theorem r15 {lo hi most : Int} : SV.res (keys (α := Pred) []) (.b (isSpan lo hi most)) := by simp [SV.res, El.res, At.res, keys]
set_option maxHeartbeats 4000000 in
theorem c15 (lo hi most : Int)  : Sig Try.prog 15 [.e (.g [ai (lo), ai (hi)]), .i (most)] [] (.b (isSpan lo hi most)) [] := by
  refine Sig.intro Try.func15 rfl 0 [(0, .e (.g [ai (lo), ai (hi)])), (1, .i (most))] rfl w15 rfl rfl fun I w => ?_
  refine WP.seq ?_
  refine WP.region ?_
  refine WPl.l 0 1 rfl rfl rfl (o_boxg rfl) ?_
  refine WPl.v rfl (o_assign rfl) ?_
  refine WPl.nil ?_
  refine EX.then ?_
  refine WP.seq ?_
  refine WP.region ?_
  refine WPl.v rfl (o_fldp F28_1 rfl) ?_
  refine WPl.v rfl (o_ldp S3 rfl rfl rfl) ?_
  refine WPl.v rfl (o_move rfl) ?_
  refine WPl.cs 1 rfl rfl rfl rfl (o_sig 1 id (c24 hi 0 most) e24 rfl rfl rfl w24 trivial r24) ?_
  refine WPl.v rfl (o_move rfl) ?_
  refine WPl.bit 1 2 (within hi 0 most) rfl rfl ?_
  refine WPl.gv 1 rfl rfl (.plain rfl Iff.rfl rfl) (fun hb => o_fldp F28_0 rfl) ?_
  refine WPl.gv 1 rfl rfl (.plain rfl Iff.rfl rfl) (fun hb => o_ldp S3 rfl rfl rfl) ?_
  refine WPl.gv 1 rfl rfl (.plain rfl Iff.rfl rfl) (fun hb => o_fldp F28_1 rfl) ?_
  refine WPl.gv 1 rfl rfl (.plain rfl Iff.rfl rfl) (fun hb => o_ldp S3 rfl rfl rfl) ?_
  refine WPl.gc0 1 rfl rfl (.plain rfl Iff.rfl rfl) (fun hb => o_sig 2 id (c24 lo 0 hi) e24 rfl rfl rfl w24 trivial r24) ?_
  refine WPl.v rfl (o_and rfl rfl rfl id) ?_
  refine WPl.v rfl (o_assign rfl) ?_
  refine WPl.nil ?_
  refine EX.then ?_
  refine WP.ret ?_
  exact EX.fin id (.inl rfl) rfl (.tmp rfl .nil) rfl r15 trivial (by simp) (by simp)
theorem w25 {p u b : Int} : ∀ x ∈ ([.i (p), .i (u), .i (b)] : List SV), x.res (keys (α := Pred) []) := by simp [SV.res, El.res, At.res, keys]
theorem r25 {p u b : Int} : SV.res (keys (α := Pred) []) (.e (.g [ai (p), ai (u), ai (b)])) := by simp [SV.res, El.res, At.res, keys]
set_option maxHeartbeats 4000000 in
theorem c25 (p u b : Int)  : Sig Try.prog 25 [.i (p), .i (u), .i (b)] [] (.e (.g [ai (p), ai (u), ai (b)])) [] := by
  refine Sig.intro Try.func25 rfl 0 [(0, .i (p)), (1, .i (u)), (2, .i (b))] rfl w25 rfl rfl fun I w => ?_
  refine WP.seq ?_
  refine WP.region ?_
  refine WPl.l 0 1 rfl rfl rfl (o_alloc Z47) ?_
  refine WPl.nil ?_
  refine EX.then ?_
  refine WP.seq ?_
  refine WP.region ?_
  refine WPl.v rfl (o_move rfl) ?_
  refine WPl.v rfl (o_move rfl) ?_
  refine WPl.v rfl (o_move rfl) ?_
  refine WPl.v rfl (o_build B47 rfl ⟨rfl, rfl, rfl, trivial⟩ rfl rfl) ?_
  refine WPl.s1 (o_stag G47 rfl rfl rfl ⟨rfl, rfl, rfl, trivial⟩ rfl rfl) ?_
  refine WPl.nil ?_
  refine EX.then ?_
  refine WP.ret ?_
  exact EX.fin id (.inl rfl) rfl (.cellg G47 rfl rfl rfl (.nil)) rfl r25 trivial (by simp) (by simp)
theorem w4 {f : FSh} : ∀ x ∈ ([.e (.g [.q 0, .q 1, .q 2, ai (f.fresh)])] : List SV), x.res (keys (α := Pred) [(0, PL EMo (f.moulds)), (1, PL (EP.sl EP.int) (f.worlds)), (2, PL EP.int (f.wants))]) := by simp [SV.res, El.res, At.res, keys]
theorem r4 {f : FSh} : SV.res (keys (α := Pred) []) (.b (f.huge)) := by simp [SV.res, El.res, At.res, keys]
set_option maxHeartbeats 4000000 in
theorem c4 (f : FSh)  : Sig Try.prog 4 [.e (.g [.q 0, .q 1, .q 2, ai (f.fresh)])] [(0, PL EMo (f.moulds)), (1, PL (EP.sl EP.int) (f.worlds)), (2, PL EP.int (f.wants))] (.b (f.huge)) [] := by
  refine Sig.intro Try.func4 rfl 3 [(0, .e (.g [.q 0, .q 1, .q 2, ai (f.fresh)]))] rfl w4 rfl rfl fun I w => ?_
  refine WP.seq ?_
  refine WP.region ?_
  refine WPl.l 3 4 rfl rfl rfl (o_boxg rfl) ?_
  refine WPl.v rfl (o_assign rfl) ?_
  refine WPl.nil ?_
  refine EX.then ?_
  refine WP.seq ?_
  refine WP.seq ?_
  refine WP.region ?_
  refine WPl.v rfl (o_fldp F26_0 rfl) ?_
  refine WPl.v rfl (o_ldp S22 rfl rfl rfl) ?_
  refine WPl.v rfl (o_lenq L22 rfl (lx rfl)) ?_
  refine WPl.v rfl (o_gtr rfl rfl) ?_
  refine WPl.v rfl (o_move rfl) ?_
  refine WPl.bit 4 5 (!(decide (40 < (f.moulds.length : Int)))) rfl rfl ?_
  refine WPl.gv 4 rfl rfl (.plain rfl (by simp) rfl) (fun hb => o_fldp F26_1 rfl) ?_
  refine WPl.gv 4 rfl rfl (.plain rfl (by simp) rfl) (fun hb => o_ldp S23 rfl rfl rfl) ?_
  refine WPl.gv 4 rfl rfl (.plain rfl (by simp) rfl) (fun hb => o_lenq L23 rfl (lx rfl)) ?_
  refine WPl.gv 4 rfl rfl (.plain rfl (by simp) rfl) (fun hb => o_gtr rfl rfl) ?_
  refine WPl.v rfl (o_or rfl rfl rfl (by first | (simp; done) | simp_all)) ?_
  refine WPl.v rfl (o_move rfl) ?_
  refine WPl.bit 5 6 (!((decide (40 < (f.moulds.length : Int))) || (decide (40 < (f.worlds.length : Int))))) rfl rfl ?_
  refine WPl.gv 5 rfl rfl (.plain rfl (by simp) rfl) (fun hb => o_fldp F26_2 rfl) ?_
  refine WPl.gv 5 rfl rfl (.plain rfl (by simp) rfl) (fun hb => o_ldp S24 rfl rfl rfl) ?_
  refine WPl.gv 5 rfl rfl (.plain rfl (by simp) rfl) (fun hb => o_lenq L24 rfl (lx rfl)) ?_
  refine WPl.gv 5 rfl rfl (.plain rfl (by simp) rfl) (fun hb => o_gtr rfl rfl) ?_
  refine WPl.v rfl (o_or rfl rfl rfl (by first | (simp; done) | simp_all)) ?_
  refine WPl.nil ?_
  refine EX.then ?_
  refine WP.cond rfl (fun hc1 => ?_) (fun hc1 => ?_)
  · try simp only [decide_eq_true_eq, decide_eq_false_iff_not, Bool.and_eq_true, Bool.or_eq_true, Bool.and_eq_false_iff, Bool.or_eq_false_iff, Bool.not_eq_true', Bool.not_eq_false', ne_eq, Decidable.not_not] at hc1
    refine WP.seq ?_
    refine WP.region ?_
    refine WPl.v rfl (o_assign rfl) ?_
    refine WPl.nil ?_
    refine EX.then ?_
    refine WP.ret ?_
    refine EX.ret_then ?_
    rw [show f.huge = true from by unfold FSh.huge; rw [show (decide (40 < (f.moulds.length : Int)) || decide (40 < (f.worlds.length : Int)) || decide (40 < (f.wants.length : Int))) = true from by simp only [Bool.or_eq_true, decide_eq_true_eq]; omega]; rfl]
    exact EX.fin id (.inl rfl) rfl (.tmp rfl .nil) rfl (by simp [SV.res, El.res, At.res, keys]) trivial (by simp) (by simp)
  · try simp only [decide_eq_true_eq, decide_eq_false_iff_not, Bool.and_eq_true, Bool.or_eq_true, Bool.and_eq_false_iff, Bool.or_eq_false_iff, Bool.not_eq_true', Bool.not_eq_false', ne_eq, Decidable.not_not] at hc1
    have h3 : (decide (40 < (f.moulds.length : Int)) || decide (40 < (f.worlds.length : Int)) || decide (40 < (f.wants.length : Int))) = false := by simp only [Bool.or_eq_false_iff, decide_eq_false_iff_not]; omega
    refine WP.skip ?_
    refine EX.then ?_
    refine WP.seq ?_
    refine WP.seq ?_
    refine WP.region ?_
    refine WPl.v rfl (o_assign rfl) ?_
    refine WPl.nil ?_
    refine EX.then ?_
    refine WP.block ?_
    refine WP.loop (Gh := Nat) (fun i => ⟨6, [(1, .e (.a (.p 3 (0)))), (2, .b (false)), (3, .i ((i : Int)))], [(0, PL EMo (f.moulds)), (1, PL (EP.sl EP.int) (f.worlds)), (2, PL EP.int (f.wants))], [(3, .blk [.q 0, .q 1, .q 2, ai (f.fresh)] 26)], [], []⟩) (fun i => i ≤ f.worlds.length ∧ allI (longAt f) i = true) (fun i => f.worlds.length - i) (0) id ?_ (LeR.of ⟨rfl, rfl, rfl, trivial⟩ ⟨(lx rfl), (lx rfl), (lx rfl), trivial⟩ ⟨rfl, trivial⟩ rfl rfl rfl rfl rfl) ?_
    · exact ⟨by omega, rfl⟩
    intro i hφ
    have hi : i ≤ f.worlds.length := hφ.1
    have hall := hφ.2
    refine WP.seq ?_
    refine WP.seq ?_
    refine WP.region ?_
    refine WPl.v rfl (o_move rfl) ?_
    refine WPl.v rfl (o_fldp F26_1 rfl) ?_
    refine WPl.v rfl (o_ldp S23 rfl rfl rfl) ?_
    refine WPl.v rfl (o_lenq L23 rfl (lx rfl)) ?_
    refine WPl.v rfl (o_lss rfl rfl) ?_
    refine WPl.nil ?_
    refine EX.then ?_
    refine WP.cond rfl (fun hc2 => ?_) (fun hc2 => ?_)
    · try simp only [decide_eq_true_eq, decide_eq_false_iff_not, Bool.and_eq_true, Bool.or_eq_true, Bool.and_eq_false_iff, Bool.or_eq_false_iff, Bool.not_eq_true', Bool.not_eq_false', ne_eq, Decidable.not_not] at hc2
      refine WP.skip ?_
      refine EX.then ?_
      refine WP.seq ?_
      refine WP.block ?_
      refine WP.seq ?_
      refine WP.region ?_
      refine WPl.v rfl (o_fldp F26_1 rfl) ?_
      refine WPl.v rfl (o_ldp S23 rfl rfl rfl) ?_
      refine WPl.v rfl (o_move rfl) ?_
      refine WPl.x 6 7 rfl rfl rfl (o_idx L23 rfl (lx rfl) rfl (by first | omega | (simp; omega)) (by first | omega | (simp; omega))) ?_
      refine WPl.x 7 8 rfl rfl rfl (o_ldqx S24 rfl (lx rfl) slx) ?_
      refine WPl.v rfl (o_lenq L24 rfl (lx rfl)) ?_
      refine WPl.v rfl (o_gtr rfl rfl) ?_
      refine WPl.nil ?_
      refine EX.then ?_
      refine WP.cond rfl (fun hc3 => ?_) (fun hc3 => ?_)
      · try simp only [decide_eq_true_eq, decide_eq_false_iff_not, Bool.and_eq_true, Bool.or_eq_true, Bool.and_eq_false_iff, Bool.or_eq_false_iff, Bool.not_eq_true', Bool.not_eq_false', ne_eq, Decidable.not_not] at hc3
        refine WP.seq ?_
        refine WP.region ?_
        refine WPl.v rfl (o_assign rfl) ?_
        refine WPl.nil ?_
        refine EX.then ?_
        refine WP.ret ?_
        refine EX.ret_blk ?_
        refine EX.ret_then ?_
        refine EX.ret_then ?_
        refine EX.ret_blk ?_
        refine EX.ret_then ?_
        rw [show f.huge = true from by unfold FSh.huge; rw [h3, show allI (longAt f) f.worlds.length = false from not_allI (show i < f.worlds.length by omega) (by simp only [longAt, decide_eq_false_iff_not]; omega)]; rfl]
        exact EX.fin id (.inl rfl) rfl (.tmp rfl .nil) rfl (by simp [SV.res, El.res, At.res, keys]) trivial (by simp) (by simp)
      · try simp only [decide_eq_true_eq, decide_eq_false_iff_not, Bool.and_eq_true, Bool.or_eq_true, Bool.and_eq_false_iff, Bool.or_eq_false_iff, Bool.not_eq_true', Bool.not_eq_false', ne_eq, Decidable.not_not] at hc3
        refine WP.skip ?_
        refine EX.blk ?_
        refine EX.then ?_
        refine WP.region ?_
        refine WPl.v rfl (o_move rfl) ?_
        refine WPl.v rfl (o_add rfl rfl (by first | omega | (simp; omega)) (by first | omega | (simp; omega))) ?_
        refine WPl.v rfl (o_assign rfl) ?_
        refine WPl.nil ?_
        refine EX.again (i + 1) id (by exact ⟨by omega, by simp only [allI, hall, Bool.true_and]; simp only [longAt, decide_eq_true_eq]; omega⟩) (by omega) (LeR.of ⟨rfl, rfl, rfl, trivial⟩ ⟨(lx rfl), (lx rfl), (lx rfl), trivial⟩ ⟨rfl, trivial⟩ rfl rfl rfl rfl rfl)
    · try simp only [decide_eq_true_eq, decide_eq_false_iff_not, Bool.and_eq_true, Bool.or_eq_true, Bool.and_eq_false_iff, Bool.or_eq_false_iff, Bool.not_eq_true', Bool.not_eq_false', ne_eq, Decidable.not_not] at hc2
      refine WP.exit ?_
      refine EX.exit_then ?_
      refine EX.exit_then ?_
      refine EX.exit_blk ?_
      refine EX.then ?_
      refine WP.seq ?_
      refine WP.region ?_
      refine WPl.v rfl (o_assign rfl) ?_
      refine WPl.nil ?_
      refine EX.then ?_
      refine WP.ret ?_
      rw [show f.huge = false from by unfold FSh.huge; rw [h3, show f.worlds.length = i by omega, hall]; rfl]
      exact EX.fin id (.inl rfl) rfl (.tmp rfl .nil) rfl (by simp [SV.res, El.res, At.res, keys]) trivial (by simp) (by simp)
theorem w11 {f : FSh} {n : Int} : ∀ x ∈ ([.e (.g [.q 0, .q 1, .q 2, ai (f.fresh)]), .i (n)] : List SV), x.res (keys (α := Pred) [(0, PL EMo (f.moulds)), (1, PL (EP.sl EP.int) (f.worlds)), (2, PL EP.int (f.wants))]) := by simp [SV.res, El.res, At.res, keys]
theorem r11 {f : FSh} {n : Int} : SV.res (keys (α := Pred) []) (.b (within n 0 ((f.wants.length : Int) - 1))) := by simp [SV.res, El.res, At.res, keys]
set_option maxHeartbeats 4000000 in
theorem c11 (f : FSh) (n : Int) (hl : f.wants.length ≤ 1000) : Sig Try.prog 11 [.e (.g [.q 0, .q 1, .q 2, ai (f.fresh)]), .i (n)] [(0, PL EMo (f.moulds)), (1, PL (EP.sl EP.int) (f.worlds)), (2, PL EP.int (f.wants))] (.b (within n 0 ((f.wants.length : Int) - 1))) [] := by
  refine Sig.intro Try.func11 rfl 3 [(0, .e (.g [.q 0, .q 1, .q 2, ai (f.fresh)])), (1, .i (n))] rfl w11 rfl rfl fun I w => ?_
  refine WP.seq ?_
  refine WP.region ?_
  refine WPl.l 3 4 rfl rfl rfl (o_boxg rfl) ?_
  refine WPl.v rfl (o_assign rfl) ?_
  refine WPl.nil ?_
  refine EX.then ?_
  refine WP.seq ?_
  refine WP.region ?_
  refine WPl.v rfl (o_move rfl) ?_
  refine WPl.v rfl (o_fldp F26_2 rfl) ?_
  refine WPl.v rfl (o_ldp S24 rfl rfl rfl) ?_
  refine WPl.v rfl (o_lenq L24 rfl (lx rfl)) ?_
  refine WPl.v rfl (o_sub rfl rfl (by first | omega | (simp; omega)) (by first | omega | (simp; omega))) ?_
  refine WPl.cs 4 rfl rfl rfl rfl (o_sig 4 id (c13 n 0 ((f.wants.length : Int) - 1)) e13 rfl rfl rfl w13 trivial r13) ?_
  refine WPl.v rfl (o_assign rfl) ?_
  refine WPl.nil ?_
  refine EX.then ?_
  refine WP.ret ?_
  exact EX.fin id (.inl rfl) rfl (.tmp rfl .nil) rfl r11 trivial (by simp) (by simp)
theorem w5 {f : FSh} : ∀ x ∈ ([.e (.g [.q 0, .q 1, .q 2, ai (f.fresh)])] : List SV), x.res (keys (α := Pred) [(0, PL EMo (f.moulds)), (1, PL (EP.sl EP.int) (f.worlds)), (2, PL EP.int (f.wants))]) := by simp [SV.res, El.res, At.res, keys]
theorem r5 {f : FSh} : SV.res (keys (α := Pred) []) (.i (errF f.chk)) := by simp [SV.res, El.res, At.res, keys]
set_option maxHeartbeats 4000000 in
theorem c5 (f : FSh) (hm : f.Small) : Sig Try.prog 5 [.e (.g [.q 0, .q 1, .q 2, ai (f.fresh)])] [(0, PL EMo (f.moulds)), (1, PL (EP.sl EP.int) (f.worlds)), (2, PL EP.int (f.wants))] (.i (errF f.chk)) [] := by
  have hm1 := hm.m
  have hm2 := hm.w
  have hm3 := hm.p
  have hm4 := hm.l
  refine Sig.intro Try.func5 rfl 3 [(0, .e (.g [.q 0, .q 1, .q 2, ai (f.fresh)]))] rfl w5 rfl rfl fun I w => ?_
  refine WP.seq ?_
  refine WP.region ?_
  refine WPl.l 3 4 rfl rfl rfl (o_boxg rfl) ?_
  refine WPl.v rfl (o_assign rfl) ?_
  refine WPl.nil ?_
  refine EX.then ?_
  refine WP.seq ?_
  refine WP.seq ?_
  refine WP.region ?_
  refine WPl.v rfl (o_fldp F26_2 rfl) ?_
  refine WPl.v rfl (o_ldp S24 rfl rfl rfl) ?_
  refine WPl.v rfl (o_lenq L24 rfl (lx rfl)) ?_
  refine WPl.v rfl (o_gtr rfl rfl) ?_
  refine WPl.v rfl (o_move rfl) ?_
  refine WPl.bit 4 5 (!(decide (3 < (f.wants.length : Int)))) rfl rfl ?_
  refine WPl.gv 4 rfl rfl (.plain rfl (by first | (simp; done) | simp only [Bool.not_eq_true']) rfl) (fun hb => o_fldp F26_0 rfl) ?_
  refine WPl.gv 4 rfl rfl (.plain rfl (by first | (simp; done) | simp only [Bool.not_eq_true']) rfl) (fun hb => o_ldp S22 rfl rfl rfl) ?_
  refine WPl.gv 4 rfl rfl (.plain rfl (by first | (simp; done) | simp only [Bool.not_eq_true']) rfl) (fun hb => o_lenq L22 rfl (lx rfl)) ?_
  refine WPl.gv 4 rfl rfl (.plain rfl (by first | (simp; done) | simp only [Bool.not_eq_true']) rfl) (fun hb => o_gtr rfl rfl) ?_
  refine WPl.v rfl (o_or rfl rfl rfl (by first | (simp; done) | exact fun h => by rw [h]; rfl | exact fun h => Bool.and_eq_true_iff.2 ⟨hb, by rw [h]; rfl⟩ | simp_all)) ?_
  refine WPl.v rfl (o_move rfl) ?_
  refine WPl.bit 5 6 (!((decide (3 < (f.wants.length : Int))) || (decide (5 < (f.moulds.length : Int))))) rfl rfl ?_
  refine WPl.gv 5 rfl rfl (.plain rfl (by first | (simp; done) | simp only [Bool.not_eq_true']) rfl) (fun hb => o_fldp F26_1 rfl) ?_
  refine WPl.gv 5 rfl rfl (.plain rfl (by first | (simp; done) | simp only [Bool.not_eq_true']) rfl) (fun hb => o_ldp S23 rfl rfl rfl) ?_
  refine WPl.gv 5 rfl rfl (.plain rfl (by first | (simp; done) | simp only [Bool.not_eq_true']) rfl) (fun hb => o_lenq L23 rfl (lx rfl)) ?_
  refine WPl.gv 5 rfl rfl (.plain rfl (by first | (simp; done) | simp only [Bool.not_eq_true']) rfl) (fun hb => o_gtr rfl rfl) ?_
  refine WPl.v rfl (o_or rfl rfl rfl (by first | (simp; done) | exact fun h => by rw [h]; rfl | exact fun h => Bool.and_eq_true_iff.2 ⟨hb, by rw [h]; rfl⟩ | simp_all)) ?_
  refine WPl.v rfl (o_move rfl) ?_
  refine WPl.bit 6 7 (!(((decide (3 < (f.wants.length : Int))) || (decide (5 < (f.moulds.length : Int)))) || (decide (6 < (f.worlds.length : Int))))) rfl rfl ?_
  refine WPl.gv 6 rfl rfl (.plain rfl (by first | (simp; done) | simp only [Bool.not_eq_true']) rfl) (fun hb => o_fldp F26_3 rfl) ?_
  refine WPl.gv 6 rfl rfl (.plain rfl (by first | (simp; done) | simp only [Bool.not_eq_true']) rfl) (fun hb => o_ldp S3 rfl rfl rfl) ?_
  refine WPl.gc0 6 rfl rfl (.plain rfl (by first | (simp; done) | simp only [Bool.not_eq_true']) rfl) (fun hb => o_sig 7 id (c13 f.fresh 1 12) e13 rfl rfl rfl w13 trivial r13) ?_
  refine WPl.gv 6 rfl rfl (.plain rfl (by first | (simp; done) | simp only [Bool.not_eq_true']) rfl) (fun hb => o_not rfl) ?_
  refine WPl.v rfl (o_or rfl rfl rfl (by first | (simp; done) | exact fun h => by rw [h]; rfl | exact fun h => Bool.and_eq_true_iff.2 ⟨hb, by rw [h]; rfl⟩ | simp_all)) ?_
  refine WPl.nil ?_
  refine EX.then ?_
  refine WP.cond rfl (fun hc1 => ?_) (fun hc1 => ?_)
  · try simp only [decide_eq_true_eq, decide_eq_false_iff_not, Bool.and_eq_true, Bool.or_eq_true, Bool.and_eq_false_iff, Bool.or_eq_false_iff, Bool.not_eq_true', Bool.not_eq_false', ne_eq, Decidable.not_not] at hc1
    refine WP.seq ?_
    refine WP.region ?_
    refine WPl.v rfl (o_assign rfl) ?_
    refine WPl.nil ?_
    refine EX.then ?_
    refine WP.ret ?_
    refine EX.ret_then ?_
    rw [show errF f.chk = 20 from by rw [show f.chk = false from by unfold FSh.chk; rw [FSh.head_f hc1]; simp]; rfl]
    exact EX.fin id (.inl rfl) rfl (.tmp rfl .nil) rfl (by simp [SV.res, El.res, At.res, keys]) trivial (by simp) (by simp)
  · try simp only [decide_eq_true_eq, decide_eq_false_iff_not, Bool.and_eq_true, Bool.or_eq_true, Bool.and_eq_false_iff, Bool.or_eq_false_iff, Bool.not_eq_true', Bool.not_eq_false', ne_eq, Decidable.not_not] at hc1
    have hhd : f.head = true := FSh.head_t ⟨⟨⟨by omega, by omega⟩, by omega⟩, hc1.2⟩
    refine WP.skip ?_
    refine EX.then ?_
    refine WP.seq ?_
    refine WP.seq ?_
    refine WP.region ?_
    refine WPl.v rfl (o_assign rfl) ?_
    refine WPl.nil ?_
    refine EX.then ?_
    refine WP.block ?_
    refine WP.loop (Gh := Nat) (fun i => ⟨7, [(1, .e (.a (.p 3 (0)))), (2, .i (0)), (3, .i ((i : Int)))], [(0, PL EMo (f.moulds)), (1, PL (EP.sl EP.int) (f.worlds)), (2, PL EP.int (f.wants))], [(3, .blk [.q 0, .q 1, .q 2, ai (f.fresh)] 26)], [], []⟩) (fun i => i ≤ f.wants.length ∧ allI f.wanOK i = true) (fun i => f.wants.length - i) (0) id ?_ (LeR.of ⟨rfl, rfl, rfl, trivial⟩ ⟨(lx rfl), (lx rfl), (lx rfl), trivial⟩ ⟨rfl, trivial⟩ rfl rfl rfl rfl rfl) ?_
    · exact ⟨by omega, rfl⟩
    intro i hφ
    have hi : i ≤ f.wants.length := hφ.1
    have hall := hφ.2
    refine WP.seq ?_
    refine WP.seq ?_
    refine WP.region ?_
    refine WPl.v rfl (o_move rfl) ?_
    refine WPl.v rfl (o_fldp F26_2 rfl) ?_
    refine WPl.v rfl (o_ldp S24 rfl rfl rfl) ?_
    refine WPl.v rfl (o_lenq L24 rfl (lx rfl)) ?_
    refine WPl.v rfl (o_lss rfl rfl) ?_
    refine WPl.nil ?_
    refine EX.then ?_
    refine WP.cond rfl (fun hc2 => ?_) (fun hc2 => ?_)
    · try simp only [decide_eq_true_eq, decide_eq_false_iff_not, Bool.and_eq_true, Bool.or_eq_true, Bool.and_eq_false_iff, Bool.or_eq_false_iff, Bool.not_eq_true', Bool.not_eq_false', ne_eq, Decidable.not_not] at hc2
      refine WP.skip ?_
      refine EX.then ?_
      refine WP.seq ?_
      refine WP.block ?_
      refine WP.seq ?_
      refine WP.region ?_
      refine WPl.v rfl (o_fldp F26_2 rfl) ?_
      refine WPl.v rfl (o_ldp S24 rfl rfl rfl) ?_
      refine WPl.v rfl (o_move rfl) ?_
      refine WPl.x 7 8 rfl rfl rfl (o_idx L24 rfl (lx rfl) rfl (by first | omega | (simp; omega)) (by first | omega | (simp; omega))) ?_
      refine WPl.v rfl (o_ldq S3 rfl (lx rfl) intc) ?_
      refine WPl.cs 8 rfl rfl rfl rfl (o_sig 8 id (c13 (nth f.wants (i : Int)) 0 12) e13 rfl rfl rfl w13 trivial r13) ?_
      refine WPl.v rfl (o_not rfl) ?_
      refine WPl.nil ?_
      refine EX.then ?_
      refine WP.cond rfl (fun hc3 => ?_) (fun hc3 => ?_)
      · try simp only [decide_eq_true_eq, decide_eq_false_iff_not, Bool.and_eq_true, Bool.or_eq_true, Bool.and_eq_false_iff, Bool.or_eq_false_iff, Bool.not_eq_true', Bool.not_eq_false', ne_eq, Decidable.not_not] at hc3
        refine WP.seq ?_
        refine WP.region ?_
        refine WPl.v rfl (o_assign rfl) ?_
        refine WPl.nil ?_
        refine EX.then ?_
        refine WP.ret ?_
        refine EX.ret_blk ?_
        refine EX.ret_then ?_
        refine EX.ret_then ?_
        refine EX.ret_blk ?_
        refine EX.ret_then ?_
        rw [show errF f.chk = 20 from by rw [chk_want hhd (not_allI (show i < f.wants.length by omega) (by unfold FSh.wanOK; exact hc3))]; rfl]
        exact EX.fin id (.inl rfl) rfl (.tmp rfl .nil) rfl (by simp [SV.res, El.res, At.res, keys]) trivial (by simp) (by simp)
      · try simp only [decide_eq_true_eq, decide_eq_false_iff_not, Bool.and_eq_true, Bool.or_eq_true, Bool.and_eq_false_iff, Bool.or_eq_false_iff, Bool.not_eq_true', Bool.not_eq_false', ne_eq, Decidable.not_not] at hc3
        refine WP.skip ?_
        refine EX.blk ?_
        refine EX.then ?_
        refine WP.region ?_
        refine WPl.v rfl (o_move rfl) ?_
        refine WPl.v rfl (o_add rfl rfl (by first | omega | (simp; omega)) (by first | omega | (simp; omega))) ?_
        refine WPl.v rfl (o_assign rfl) ?_
        refine WPl.nil ?_
        refine EX.again (i + 1) id (by exact ⟨by omega, by simp only [allI, hall, Bool.true_and]; simpa [FSh.wanOK] using hc3⟩) (by omega) (LeR.of ⟨rfl, rfl, rfl, trivial⟩ ⟨(lx rfl), (lx rfl), (lx rfl), trivial⟩ ⟨rfl, trivial⟩ rfl rfl rfl rfl rfl)
    · try simp only [decide_eq_true_eq, decide_eq_false_iff_not, Bool.and_eq_true, Bool.or_eq_true, Bool.and_eq_false_iff, Bool.or_eq_false_iff, Bool.not_eq_true', Bool.not_eq_false', ne_eq, Decidable.not_not] at hc2
      have ha1 : allI f.wanOK f.wants.length = true := by rw [show f.wants.length = i by omega]; exact hall
      refine WP.exit ?_
      refine EX.exit_then ?_
      refine EX.exit_then ?_
      refine EX.exit_blk ?_
      refine EX.then ?_
      refine WP.seq ?_
      refine WP.seq ?_
      refine WP.region ?_
      refine WPl.v rfl (o_assign rfl) ?_
      refine WPl.nil ?_
      refine EX.then ?_
      refine WP.block ?_
      refine WP.loop (Gh := Nat) (fun i => ⟨7, [(1, .e (.a (.p 3 (0)))), (2, .i (0)), (4, .i ((i : Int)))], [(0, PL EMo (f.moulds)), (1, PL (EP.sl EP.int) (f.worlds)), (2, PL EP.int (f.wants))], [(3, .blk [.q 0, .q 1, .q 2, ai (f.fresh)] 26)], [], []⟩) (fun i => i ≤ f.moulds.length ∧ allI f.mouOK i = true) (fun i => f.moulds.length - i) (0) id ?_ (LeR.of ⟨rfl, rfl, rfl, trivial⟩ ⟨(lx rfl), (lx rfl), (lx rfl), trivial⟩ ⟨rfl, trivial⟩ rfl rfl rfl rfl rfl) ?_
      · exact ⟨by omega, rfl⟩
      intro i hφ
      have hi : i ≤ f.moulds.length := hφ.1
      have hall := hφ.2
      refine WP.seq ?_
      refine WP.seq ?_
      refine WP.region ?_
      refine WPl.v rfl (o_move rfl) ?_
      refine WPl.v rfl (o_fldp F26_0 rfl) ?_
      refine WPl.v rfl (o_ldp S22 rfl rfl rfl) ?_
      refine WPl.v rfl (o_lenq L22 rfl (lx rfl)) ?_
      refine WPl.v rfl (o_lss rfl rfl) ?_
      refine WPl.nil ?_
      refine EX.then ?_
      refine WP.cond rfl (fun hc4 => ?_) (fun hc4 => ?_)
      · try simp only [decide_eq_true_eq, decide_eq_false_iff_not, Bool.and_eq_true, Bool.or_eq_true, Bool.and_eq_false_iff, Bool.or_eq_false_iff, Bool.not_eq_true', Bool.not_eq_false', ne_eq, Decidable.not_not] at hc4
        refine WP.skip ?_
        refine EX.then ?_
        refine WP.seq ?_
        refine WP.block ?_
        refine WP.seq ?_
        refine WP.region ?_
        refine WPl.v rfl (o_fldp F26_0 rfl) ?_
        refine WPl.v rfl (o_ldp S22 rfl rfl rfl) ?_
        refine WPl.v rfl (o_move rfl) ?_
        refine WPl.x 7 8 rfl rfl rfl (o_idx L22 rfl (lx rfl) rfl (by first | omega | (simp; omega)) (by first | omega | (simp; omega))) ?_
        refine WPl.v rfl (o_ldqg G47 rfl (lx rfl) (strG rfl) rfl rfl) ?_
        refine WPl.l 8 9 rfl rfl rfl (o_alloc Z47) ?_
        refine WPl.s1 (o_stag G47 rfl rfl rfl ⟨rfl, rfl, rfl, trivial⟩ rfl rfl) ?_
        refine WPl.nil ?_
        refine EX.then ?_
        refine WP.seq ?_
        refine WP.region ?_
        refine WPl.v rfl (o_ldpa G26 rfl rfl rfl) ?_
        refine WPl.v rfl (o_fldp F47_0 rfl) ?_
        refine WPl.v rfl (o_ldp S3 rfl rfl rfl) ?_
        refine WPl.cs 9 rfl rfl rfl rfl (o_sig 9 (ren [(0, 0), (1, 1), (2, 2)]) (c11 f ((nth f.moulds (i : Int)).page) (by omega)) e11 rfl rfl rfl w11 ⟨(lx rfl), (lx rfl), (lx rfl), trivial⟩ r11) ?_
        refine WPl.v rfl (o_not rfl) ?_
        refine WPl.v rfl (o_move rfl) ?_
        refine WPl.bit 9 10 (!(!(within ((nth f.moulds (i : Int)).page) 0 ((f.wants.length : Int) - 1)))) rfl rfl ?_
        refine WPl.gv 9 rfl rfl (.plain rfl (by first | (simp; done) | simp only [Bool.not_eq_true']) rfl) (fun hb => o_fldp F47_1 rfl) ?_
        refine WPl.gv 9 rfl rfl (.plain rfl (by first | (simp; done) | simp only [Bool.not_eq_true']) rfl) (fun hb => o_ldp S3 rfl rfl rfl) ?_
        refine WPl.gc0 9 rfl rfl (.plain rfl (by first | (simp; done) | simp only [Bool.not_eq_true']) rfl) (fun hb => o_sig 10 id (c13 ((nth f.moulds (i : Int)).used) 0 12) e13 rfl rfl rfl w13 trivial r13) ?_
        refine WPl.gv 9 rfl rfl (.plain rfl (by first | (simp; done) | simp only [Bool.not_eq_true']) rfl) (fun hb => o_not rfl) ?_
        refine WPl.v rfl (o_or rfl rfl rfl (by first | (simp; done) | exact fun h => by rw [h]; rfl | exact fun h => Bool.and_eq_true_iff.2 ⟨hb, by rw [h]; rfl⟩ | simp_all)) ?_
        refine WPl.v rfl (o_move rfl) ?_
        refine WPl.bit 10 11 (!((!(within ((nth f.moulds (i : Int)).page) 0 ((f.wants.length : Int) - 1))) || (!(within ((nth f.moulds (i : Int)).used) 0 12)))) rfl rfl ?_
        refine WPl.gv 10 rfl rfl (.plain rfl (by first | (simp; done) | simp only [Bool.not_eq_true']) rfl) (fun hb => o_fldp F47_2 rfl) ?_
        refine WPl.gv 10 rfl rfl (.plain rfl (by first | (simp; done) | simp only [Bool.not_eq_true']) rfl) (fun hb => o_ldp S3 rfl rfl rfl) ?_
        refine WPl.gc0 10 rfl rfl (.plain rfl (by first | (simp; done) | simp only [Bool.not_eq_true']) rfl) (fun hb => o_sig 11 id (c13 ((nth f.moulds (i : Int)).broke) 0 1) e13 rfl rfl rfl w13 trivial r13) ?_
        refine WPl.gv 10 rfl rfl (.plain rfl (by first | (simp; done) | simp only [Bool.not_eq_true']) rfl) (fun hb => o_not rfl) ?_
        refine WPl.v rfl (o_or rfl rfl rfl (by first | (simp; done) | exact fun h => by rw [h]; rfl | exact fun h => Bool.and_eq_true_iff.2 ⟨hb, by rw [h]; rfl⟩ | simp_all)) ?_
        refine WPl.nil ?_
        refine EX.then ?_
        refine WP.cond rfl (fun hc5 => ?_) (fun hc5 => ?_)
        · try simp only [decide_eq_true_eq, decide_eq_false_iff_not, Bool.and_eq_true, Bool.or_eq_true, Bool.and_eq_false_iff, Bool.or_eq_false_iff, Bool.not_eq_true', Bool.not_eq_false', ne_eq, Decidable.not_not] at hc5
          refine WP.seq ?_
          refine WP.region ?_
          refine WPl.v rfl (o_assign rfl) ?_
          refine WPl.nil ?_
          refine EX.then ?_
          refine WP.ret ?_
          refine EX.ret_blk ?_
          refine EX.ret_then ?_
          refine EX.ret_then ?_
          refine EX.ret_blk ?_
          refine EX.ret_then ?_
          rw [show errF f.chk = 20 from by rw [chk_mou (not_allI (show i < f.moulds.length by omega) (by unfold FSh.mouOK Mou.chk; simp only [Bool.and_eq_false_iff]; exact hc5))]; rfl]
          exact EX.fin id (.inl rfl) rfl (.tmp rfl .nil) rfl (by simp [SV.res, El.res, At.res, keys]) trivial (by simp) (by simp)
        · try simp only [decide_eq_true_eq, decide_eq_false_iff_not, Bool.and_eq_true, Bool.or_eq_true, Bool.and_eq_false_iff, Bool.or_eq_false_iff, Bool.not_eq_true', Bool.not_eq_false', ne_eq, Decidable.not_not] at hc5
          refine WP.skip ?_
          refine EX.blk ?_
          refine EX.then ?_
          refine WP.region ?_
          refine WPl.v rfl (o_move rfl) ?_
          refine WPl.v rfl (o_add rfl rfl (by first | omega | (simp; omega)) (by first | omega | (simp; omega))) ?_
          refine WPl.v rfl (o_assign rfl) ?_
          refine WPl.nil ?_
          refine EX.again (i + 1) id (by exact ⟨by omega, by simp only [allI, hall, Bool.true_and]; simpa [FSh.mouOK, Mou.chk, and_assoc] using hc5⟩) (by omega) (LeR.of ⟨rfl, rfl, rfl, trivial⟩ ⟨(lx rfl), (lx rfl), (lx rfl), trivial⟩ ⟨rfl, trivial⟩ rfl rfl rfl rfl rfl)
      · try simp only [decide_eq_true_eq, decide_eq_false_iff_not, Bool.and_eq_true, Bool.or_eq_true, Bool.and_eq_false_iff, Bool.or_eq_false_iff, Bool.not_eq_true', Bool.not_eq_false', ne_eq, Decidable.not_not] at hc4
        have ha2 : allI f.mouOK f.moulds.length = true := by rw [show f.moulds.length = i by omega]; exact hall
        refine WP.exit ?_
        refine EX.exit_then ?_
        refine EX.exit_then ?_
        refine EX.exit_blk ?_
        refine EX.then ?_
        refine WP.seq ?_
        refine WP.seq ?_
        refine WP.region ?_
        refine WPl.v rfl (o_assign rfl) ?_
        refine WPl.nil ?_
        refine EX.then ?_
        refine WP.block ?_
        refine WP.loop (Gh := Nat) (fun i => ⟨7, [(1, .e (.a (.p 3 (0)))), (2, .i (0)), (6, .i ((i : Int)))], [(0, PL EMo (f.moulds)), (1, PL (EP.sl EP.int) (f.worlds)), (2, PL EP.int (f.wants))], [(3, .blk [.q 0, .q 1, .q 2, ai (f.fresh)] 26)], [], []⟩) (fun i => i ≤ f.worlds.length ∧ allI f.worOK i = true) (fun i => f.worlds.length - i) (0) id ?_ (LeR.of ⟨rfl, rfl, rfl, trivial⟩ ⟨(lx rfl), (lx rfl), (lx rfl), trivial⟩ ⟨rfl, trivial⟩ rfl rfl rfl rfl rfl) ?_
        · exact ⟨by omega, rfl⟩
        intro i hφ
        have hi : i ≤ f.worlds.length := hφ.1
        have hall := hφ.2
        refine WP.seq ?_
        refine WP.seq ?_
        refine WP.region ?_
        refine WPl.v rfl (o_move rfl) ?_
        refine WPl.v rfl (o_fldp F26_1 rfl) ?_
        refine WPl.v rfl (o_ldp S23 rfl rfl rfl) ?_
        refine WPl.v rfl (o_lenq L23 rfl (lx rfl)) ?_
        refine WPl.v rfl (o_lss rfl rfl) ?_
        refine WPl.nil ?_
        refine EX.then ?_
        refine WP.cond rfl (fun hc6 => ?_) (fun hc6 => ?_)
        · try simp only [decide_eq_true_eq, decide_eq_false_iff_not, Bool.and_eq_true, Bool.or_eq_true, Bool.and_eq_false_iff, Bool.or_eq_false_iff, Bool.not_eq_true', Bool.not_eq_false', ne_eq, Decidable.not_not] at hc6
          refine WP.skip ?_
          refine EX.then ?_
          refine WP.seq ?_
          refine WP.block ?_
          refine WP.seq ?_
          refine WP.seq ?_
          refine WP.draw (nf := 9) [⟨[82, 86, 87, 88], [], [], [], []⟩, ⟨[82, 86, 87, 88], [], [], [], [0]⟩, ⟨[80, 81, 86, 87, 88], [], [], [], []⟩, ⟨[86, 87, 88], [], [7], [7], [0, 1, 2]⟩, ⟨[86, 87, 88], [], [8], [8], [0, 1, 2, 3]⟩, ⟨[86, 87, 88], [], [], [], [0, 1, 2, 3, 4]⟩, ⟨[80, 81, 82, 83, 84, 85], [7, 8], [], [], []⟩, ⟨[80, 81, 82, 83, 84, 85], [7, 8], [], [], [6]⟩, ⟨[80, 81, 82, 83, 84, 85], [7, 8], [], [], [6, 7]⟩, ⟨[], [], [], [], [0, 1, 2, 3, 4, 5, 6, 7, 8]⟩] (by kernel_rfl) (by kernel_rfl) ?_
          refine DRQ.v rfl rfl rfl (o_fldp F26_1 rfl) ?_
          refine DRQ.v rfl rfl rfl (o_ldp S23 rfl rfl rfl) ?_
          refine DRQ.v rfl rfl rfl (o_move rfl) ?_
          refine DRQ.x 7 rfl rfl rfl rfl (o_idx L23 rfl (lx rfl) rfl (by first | omega | (simp; omega)) (by first | omega | (simp; omega))) ?_
          refine DRQ.x 8 rfl rfl rfl rfl (o_ldqx S24 rfl (lx rfl) slx) ?_
          refine DRQ.v rfl rfl rfl (o_lenq L24 rfl (lx rfl)) ?_
          refine DRQ.v rfl rfl rfl (o_fldp F26_0 rfl) ?_
          refine DRQ.v rfl rfl rfl (o_ldp S22 rfl rfl rfl) ?_
          refine DRQ.v rfl rfl rfl (o_lenq L22 rfl (lx rfl)) ?_
          refine DRQ.v rfl rfl rfl (o_neq rfl rfl) ?_
          refine DRQ.nil' ?_
          refine EX.then ?_
          refine WP.cond rfl (fun hc7 => ?_) (fun hc7 => ?_)
          · try simp only [decide_eq_true_eq, decide_eq_false_iff_not, Bool.and_eq_true, Bool.or_eq_true, Bool.and_eq_false_iff, Bool.or_eq_false_iff, Bool.not_eq_true', Bool.not_eq_false', ne_eq, Decidable.not_not] at hc7
            refine WP.seq ?_
            refine WP.region ?_
            refine WPl.v rfl (o_assign rfl) ?_
            refine WPl.nil ?_
            refine EX.then ?_
            refine WP.ret ?_
            refine EX.ret_then ?_
            refine EX.ret_blk ?_
            refine EX.ret_then ?_
            refine EX.ret_then ?_
            refine EX.ret_blk ?_
            refine EX.ret_then ?_
            rw [show errF f.chk = 20 from by rw [chk_wor (not_allI (show i < f.worlds.length by omega) (by unfold FSh.worOK; rw [decide_eq_false (by omega)]; rfl))]; rfl]
            exact EX.fin id (.inl rfl) rfl (.tmp rfl .nil) rfl (by simp [SV.res, El.res, At.res, keys]) trivial (by simp) (by simp)
          · try simp only [decide_eq_true_eq, decide_eq_false_iff_not, Bool.and_eq_true, Bool.or_eq_true, Bool.and_eq_false_iff, Bool.or_eq_false_iff, Bool.not_eq_true', Bool.not_eq_false', ne_eq, Decidable.not_not] at hc7
            refine WP.skip ?_
            refine EX.then ?_
            refine WP.seq ?_
            refine WP.region ?_
            refine WPl.v rfl (o_assign rfl) ?_
            refine WPl.nil ?_
            refine EX.then ?_
            refine WP.block ?_
            refine WP.loop (Gh := Nat) (fun j => ⟨9, [(1, .e (.a (.p 3 (0)))), (2, .i (0)), (6, .i ((i : Int))), (73, .i ((i : Int))), (74, .e (.a (.p 3 (1)))), (75, .e (.a (.q 1))), (76, .i ((f.worlds.length : Int))), (77, .b (decide ((i : Int) < (f.worlds.length : Int)))), (80, .e (.a (.p 3 (1)))), (81, .e (.a (.q 1))), (82, .i ((i : Int))), (83, .e (.a (.q 7))), (84, .e (.a (.q 8))), (85, .i (((nth f.worlds (i : Int)).length : Int))), (86, .e (.a (.p 3 (0)))), (87, .e (.a (.q 0))), (88, .i ((f.moulds.length : Int))), (89, .b (decide (((nth f.worlds (i : Int)).length : Int) ≠ (f.moulds.length : Int)))), (7, .i ((j : Int)))], [(0, PL EMo (f.moulds)), (1, PL (EP.sl EP.int) (f.worlds)), (2, PL EP.int (f.wants)), (7, PP (EP.sl EP.int) (nth f.worlds (i : Int))), (8, PL EP.int (nth f.worlds (i : Int)))], [(3, .blk [.q 0, .q 1, .q 2, ai (f.fresh)] 26)], [], []⟩) (fun j => j ≤ (nth f.worlds (i : Int)).length ∧ allI (lastOK (nth f.worlds (i : Int))) j = true) (fun j => (nth f.worlds (i : Int)).length - j) (0) id ?_ (LeR.of ⟨rfl, rfl, rfl, rfl, rfl, rfl, rfl, rfl, rfl, rfl, rfl, rfl, rfl, rfl, rfl, rfl, rfl, rfl, rfl, trivial⟩ ⟨(lx rfl), (lx rfl), (lx rfl), (lx rfl), (lx rfl), trivial⟩ ⟨rfl, trivial⟩ rfl rfl rfl rfl rfl) ?_
            · exact ⟨by omega, rfl⟩
            intro j hφ
            have hj : j ≤ (nth f.worlds (i : Int)).length := hφ.1
            have hin := hφ.2
            have hli := hm4 i (by omega)
            refine WP.seq ?_
            refine WP.seq ?_
            refine WP.region ?_
            refine WPl.v rfl (o_move rfl) ?_
            refine WPl.v rfl (o_fldp F26_1 rfl) ?_
            refine WPl.v rfl (o_ldp S23 rfl rfl rfl) ?_
            refine WPl.v rfl (o_move rfl) ?_
            refine WPl.x 9 10 rfl rfl rfl (o_idx L23 rfl (lx rfl) rfl (by first | omega | (simp; omega)) (by first | omega | (simp; omega))) ?_
            refine WPl.x 10 11 rfl rfl rfl (o_ldqx S24 rfl (lx rfl) slx) ?_
            refine WPl.v rfl (o_lenq L24 rfl (lx rfl)) ?_
            refine WPl.v rfl (o_lss rfl rfl) ?_
            refine WPl.nil ?_
            refine EX.then ?_
            refine WP.cond rfl (fun hc8 => ?_) (fun hc8 => ?_)
            · try simp only [decide_eq_true_eq, decide_eq_false_iff_not, Bool.and_eq_true, Bool.or_eq_true, Bool.and_eq_false_iff, Bool.or_eq_false_iff, Bool.not_eq_true', Bool.not_eq_false', ne_eq, Decidable.not_not] at hc8
              refine WP.skip ?_
              refine EX.then ?_
              refine WP.seq ?_
              refine WP.block ?_
              refine WP.seq ?_
              refine WP.region ?_
              refine WPl.v rfl (o_fldp F26_1 rfl) ?_
              refine WPl.v rfl (o_ldp S23 rfl rfl rfl) ?_
              refine WPl.v rfl (o_move rfl) ?_
              refine WPl.x 11 12 rfl rfl rfl (o_idx L23 rfl (lx rfl) rfl (by first | omega | (simp; omega)) (by first | omega | (simp; omega))) ?_
              refine WPl.x 12 13 rfl rfl rfl (o_ldqx S24 rfl (lx rfl) slx) ?_
              refine WPl.v rfl (o_move rfl) ?_
              refine WPl.x 13 14 rfl rfl rfl (o_idx L24 rfl (lx rfl) rfl (by first | omega | (simp; omega)) (by first | omega | (simp; omega))) ?_
              refine WPl.v rfl (o_ldq S3 rfl (lx rfl) intc) ?_
              refine WPl.cs 14 rfl rfl rfl rfl (o_sig 14 id (c13 (nth (nth f.worlds (i : Int)) (j : Int)) 0 12) e13 rfl rfl rfl w13 trivial r13) ?_
              refine WPl.v rfl (o_not rfl) ?_
              refine WPl.nil ?_
              refine EX.then ?_
              refine WP.cond rfl (fun hc9 => ?_) (fun hc9 => ?_)
              · try simp only [decide_eq_true_eq, decide_eq_false_iff_not, Bool.and_eq_true, Bool.or_eq_true, Bool.and_eq_false_iff, Bool.or_eq_false_iff, Bool.not_eq_true', Bool.not_eq_false', ne_eq, Decidable.not_not] at hc9
                refine WP.seq ?_
                refine WP.region ?_
                refine WPl.v rfl (o_assign rfl) ?_
                refine WPl.nil ?_
                refine EX.then ?_
                refine WP.ret ?_
                refine EX.ret_blk ?_
                refine EX.ret_then ?_
                refine EX.ret_then ?_
                refine EX.ret_blk ?_
                refine EX.ret_blk ?_
                refine EX.ret_then ?_
                refine EX.ret_then ?_
                refine EX.ret_blk ?_
                refine EX.ret_then ?_
                rw [show errF f.chk = 20 from by rw [chk_wor (not_allI (show i < f.worlds.length by omega) (by unfold FSh.worOK; rw [show allI (lastOK (nth f.worlds (i : Int))) (nth f.worlds (i : Int)).length = false from not_allI (show j < (nth f.worlds (i : Int)).length by omega) (by unfold lastOK; exact hc9)]; simp))]; rfl]
                exact EX.fin id (.inl rfl) rfl (.tmp rfl .nil) rfl (by simp [SV.res, El.res, At.res, keys]) trivial (by simp) (by simp)
              · try simp only [decide_eq_true_eq, decide_eq_false_iff_not, Bool.and_eq_true, Bool.or_eq_true, Bool.and_eq_false_iff, Bool.or_eq_false_iff, Bool.not_eq_true', Bool.not_eq_false', ne_eq, Decidable.not_not] at hc9
                refine WP.skip ?_
                refine EX.blk ?_
                refine EX.then ?_
                refine WP.region ?_
                refine WPl.v rfl (o_move rfl) ?_
                refine WPl.v rfl (o_add rfl rfl (by first | omega | (simp; omega)) (by first | omega | (simp; omega))) ?_
                refine WPl.v rfl (o_assign rfl) ?_
                refine WPl.nil ?_
                refine EX.again (j + 1) id (by exact ⟨by omega, by simp only [allI, hin, Bool.true_and]; simpa [lastOK] using hc9⟩) (by omega) (LeR.of ⟨rfl, rfl, rfl, rfl, rfl, rfl, rfl, rfl, rfl, rfl, rfl, rfl, rfl, rfl, rfl, rfl, rfl, rfl, rfl, trivial⟩ ⟨(lx rfl), (lx rfl), (lx rfl), (lx rfl), (lx rfl), trivial⟩ ⟨rfl, trivial⟩ rfl rfl rfl rfl rfl)
            · try simp only [decide_eq_true_eq, decide_eq_false_iff_not, Bool.and_eq_true, Bool.or_eq_true, Bool.and_eq_false_iff, Bool.or_eq_false_iff, Bool.not_eq_true', Bool.not_eq_false', ne_eq, Decidable.not_not] at hc8
              refine WP.exit ?_
              refine EX.exit_then ?_
              refine EX.exit_then ?_
              refine EX.exit_blk ?_
              refine EX.blk ?_
              refine EX.then ?_
              refine WP.region ?_
              refine WPl.v rfl (o_move rfl) ?_
              refine WPl.v rfl (o_add rfl rfl (by first | omega | (simp; omega)) (by first | omega | (simp; omega))) ?_
              refine WPl.v rfl (o_assign rfl) ?_
              refine WPl.nil ?_
              have hwo : f.worOK i = true := by
                unfold FSh.worOK
                rw [decide_eq_true (show ((nth f.worlds (i : Int)).length : Int) = f.moulds.length by omega), show (nth f.worlds (i : Int)).length = j by omega, hin]; rfl
              refine EX.again (i + 1) id (by exact ⟨by omega, by simp only [allI, hall, Bool.true_and]; exact hwo⟩) (by omega) (LeR.of ⟨rfl, rfl, rfl, trivial⟩ ⟨(lx rfl), (lx rfl), (lx rfl), trivial⟩ ⟨rfl, trivial⟩ rfl rfl rfl rfl rfl)
        · try simp only [decide_eq_true_eq, decide_eq_false_iff_not, Bool.and_eq_true, Bool.or_eq_true, Bool.and_eq_false_iff, Bool.or_eq_false_iff, Bool.not_eq_true', Bool.not_eq_false', ne_eq, Decidable.not_not] at hc6
          refine WP.exit ?_
          refine EX.exit_then ?_
          refine EX.exit_then ?_
          refine EX.exit_blk ?_
          refine EX.then ?_
          refine WP.seq ?_
          refine WP.region ?_
          refine WPl.v rfl (o_assign rfl) ?_
          refine WPl.nil ?_
          refine EX.then ?_
          refine WP.ret ?_
          rw [show errF f.chk = 0 from errF_eq.2 (by unfold FSh.chk; rw [hhd, ha1, ha2, show allI f.worOK f.worlds.length = true from by rw [show f.worlds.length = i by omega]; exact hall]; rfl)]
          exact EX.fin id (.inl rfl) rfl (.tmp rfl .nil) rfl (by simp [SV.res, El.res, At.res, keys]) trivial (by simp) (by simp)
theorem w6 {s : List Job} : ∀ x ∈ ([.e (.g [.q 0])] : List SV), x.res (keys (α := Pred) [(0, PL EJo (s))]) := by simp [SV.res, El.res, At.res, keys]
theorem r6 {s : List Job} : SV.res (keys (α := Pred) []) (.i (errP (jobsOK s))) := by simp [SV.res, El.res, At.res, keys]
set_option maxHeartbeats 4000000 in
theorem c6 (s : List Job) (hl : s.length ≤ 1000) : Sig Try.prog 6 [.e (.g [.q 0])] [(0, PL EJo (s))] (.i (errP (jobsOK s))) [] := by
  refine Sig.intro Try.func6 rfl 1 [(0, .e (.g [.q 0]))] rfl w6 rfl rfl fun I w => ?_
  refine WP.seq ?_
  refine WP.region ?_
  refine WPl.l 1 2 rfl rfl rfl (o_boxg rfl) ?_
  refine WPl.v rfl (o_assign rfl) ?_
  refine WPl.nil ?_
  refine EX.then ?_
  refine WP.seq ?_
  refine WP.seq ?_
  refine WP.region ?_
  refine WPl.v rfl (o_fldp F37_0 rfl) ?_
  refine WPl.v rfl (o_ldp S35 rfl rfl rfl) ?_
  refine WPl.v rfl (o_lenq L35 rfl (lx rfl)) ?_
  refine WPl.v rfl (o_gtr rfl rfl) ?_
  refine WPl.nil ?_
  refine EX.then ?_
  refine WP.cond rfl (fun hc1 => ?_) (fun hc1 => ?_)
  · try simp only [decide_eq_true_eq, decide_eq_false_iff_not, Bool.and_eq_true, Bool.or_eq_true, Bool.and_eq_false_iff, Bool.or_eq_false_iff, Bool.not_eq_true', Bool.not_eq_false', ne_eq, Decidable.not_not] at hc1
    refine WP.seq ?_
    refine WP.region ?_
    refine WPl.v rfl (o_assign rfl) ?_
    refine WPl.nil ?_
    refine EX.then ?_
    refine WP.ret ?_
    refine EX.ret_then ?_
    rw [show errP (jobsOK s) = 50 from by rw [show jobsOK s = false from by unfold jobsOK; rw [decide_eq_false (by omega)]; rfl]; rfl]
    exact EX.fin id (.inl rfl) rfl (.tmp rfl .nil) rfl (by simp [SV.res, El.res, At.res, keys]) trivial (by simp) (by simp)
  · try simp only [decide_eq_true_eq, decide_eq_false_iff_not, Bool.and_eq_true, Bool.or_eq_true, Bool.and_eq_false_iff, Bool.or_eq_false_iff, Bool.not_eq_true', Bool.not_eq_false', ne_eq, Decidable.not_not] at hc1
    refine WP.skip ?_
    refine EX.then ?_
    refine WP.seq ?_
    refine WP.seq ?_
    refine WP.region ?_
    refine WPl.v rfl (o_assign rfl) ?_
    refine WPl.nil ?_
    refine EX.then ?_
    refine WP.block ?_
    refine WP.loop (Gh := Nat) (fun i => ⟨2, [(1, .e (.a (.p 1 (0)))), (2, .i (0)), (3, .i ((i : Int)))], [(0, PL EJo (s))], [(1, .blk [.q 0] 37)], [], []⟩) (fun i => i ≤ s.length ∧ allI (jobOK s) i = true) (fun i => s.length - i) (0) id ?_ (LeR.of ⟨rfl, rfl, rfl, trivial⟩ ⟨(lx rfl), trivial⟩ ⟨rfl, trivial⟩ rfl rfl rfl rfl rfl) ?_
    · exact ⟨by omega, rfl⟩
    intro i hφ
    have hi : i ≤ s.length := hφ.1
    have hall := hφ.2
    refine WP.seq ?_
    refine WP.seq ?_
    refine WP.region ?_
    refine WPl.v rfl (o_move rfl) ?_
    refine WPl.v rfl (o_fldp F37_0 rfl) ?_
    refine WPl.v rfl (o_ldp S35 rfl rfl rfl) ?_
    refine WPl.v rfl (o_lenq L35 rfl (lx rfl)) ?_
    refine WPl.v rfl (o_lss rfl rfl) ?_
    refine WPl.nil ?_
    refine EX.then ?_
    refine WP.cond rfl (fun hc2 => ?_) (fun hc2 => ?_)
    · try simp only [decide_eq_true_eq, decide_eq_false_iff_not, Bool.and_eq_true, Bool.or_eq_true, Bool.and_eq_false_iff, Bool.or_eq_false_iff, Bool.not_eq_true', Bool.not_eq_false', ne_eq, Decidable.not_not] at hc2
      refine WP.skip ?_
      refine EX.then ?_
      refine WP.seq ?_
      refine WP.block ?_
      refine WP.seq ?_
      refine WP.region ?_
      refine WPl.v rfl (o_fldp F37_0 rfl) ?_
      refine WPl.v rfl (o_ldp S35 rfl rfl rfl) ?_
      refine WPl.v rfl (o_move rfl) ?_
      refine WPl.x 2 3 rfl rfl rfl (o_idx L35 rfl (lx rfl) rfl (by first | omega | (simp; omega)) (by first | omega | (simp; omega))) ?_
      refine WPl.v rfl (o_ldqg G30 rfl (lx rfl) (strG rfl) rfl rfl) ?_
      refine WPl.l 3 4 rfl rfl rfl (o_alloc Z30) ?_
      refine WPl.s1 (o_stag G30 rfl rfl rfl ⟨rfl, rfl, rfl, rfl, rfl, rfl, trivial⟩ rfl rfl) ?_
      refine WPl.nil ?_
      refine EX.then ?_
      refine WP.seq ?_
      refine WP.region ?_
      refine WPl.v rfl (o_fldp F30_0 rfl) ?_
      refine WPl.v rfl (o_ldp S3 rfl rfl rfl) ?_
      refine WPl.cs 4 rfl rfl rfl rfl (o_sig 4 id (c14 ((nth s (i : Int)).beat) 1 9) e14 rfl rfl rfl w14 trivial r14) ?_
      refine WPl.v rfl (o_not rfl) ?_
      refine WPl.v rfl (o_move rfl) ?_
      refine WPl.bit 4 5 (!(!(within ((nth s (i : Int)).beat) 1 9))) rfl rfl ?_
      refine WPl.gv 4 rfl rfl (.plain rfl (by first | (simp; done) | simp only [Bool.not_eq_true']) rfl) (fun hb => o_fldp F30_2 rfl) ?_
      refine WPl.gv 4 rfl rfl (.plain rfl (by first | (simp; done) | simp only [Bool.not_eq_true']) rfl) (fun hb => o_ldp S3 rfl rfl rfl) ?_
      refine WPl.gc0 4 rfl rfl (.plain rfl (by first | (simp; done) | simp only [Bool.not_eq_true']) rfl) (fun hb => o_sig 5 id (c14 ((nth s (i : Int)).pour) 1 9) e14 rfl rfl rfl w14 trivial r14) ?_
      refine WPl.gv 4 rfl rfl (.plain rfl (by first | (simp; done) | simp only [Bool.not_eq_true']) rfl) (fun hb => o_not rfl) ?_
      refine WPl.v rfl (o_or rfl rfl rfl (by first | (simp; done) | exact fun h => by rw [h]; rfl | exact fun h => Bool.and_eq_true_iff.2 ⟨hb, by rw [h]; rfl⟩ | simp_all)) ?_
      refine WPl.v rfl (o_move rfl) ?_
      refine WPl.bit 5 6 (!((!(within ((nth s (i : Int)).beat) 1 9)) || (!(within ((nth s (i : Int)).pour) 1 9)))) rfl rfl ?_
      refine WPl.gv 5 rfl rfl (.plain rfl (by first | (simp; done) | simp only [Bool.not_eq_true']) rfl) (fun hb => o_fldp F30_1 rfl) ?_
      refine WPl.gv 5 rfl rfl (.plain rfl (by first | (simp; done) | simp only [Bool.not_eq_true']) rfl) (fun hb => o_ldpg G28 rfl rfl rfl) ?_
      refine WPl.gc0 5 rfl rfl (.plain rfl (by first | (simp; done) | simp only [Bool.not_eq_true']) rfl) (fun hb => o_sig 6 id (c15 ((nth s (i : Int)).lo) ((nth s (i : Int)).hi) 9) e15 rfl rfl rfl w15 trivial r15) ?_
      refine WPl.gv 5 rfl rfl (.plain rfl (by first | (simp; done) | simp only [Bool.not_eq_true']) rfl) (fun hb => o_not rfl) ?_
      refine WPl.v rfl (o_or rfl rfl rfl (by first | (simp; done) | exact fun h => by rw [h]; rfl | exact fun h => Bool.and_eq_true_iff.2 ⟨hb, by rw [h]; rfl⟩ | simp_all)) ?_
      refine WPl.v rfl (o_move rfl) ?_
      refine WPl.bit 6 7 (!(((!(within ((nth s (i : Int)).beat) 1 9)) || (!(within ((nth s (i : Int)).pour) 1 9))) || (!(isSpan ((nth s (i : Int)).lo) ((nth s (i : Int)).hi) 9)))) rfl rfl ?_
      refine WPl.gv 6 rfl rfl (.plain rfl (by first | (simp; done) | simp only [Bool.not_eq_true']) rfl) (fun hb => o_fldp F30_3 rfl) ?_
      refine WPl.gv 6 rfl rfl (.plain rfl (by first | (simp; done) | simp only [Bool.not_eq_true']) rfl) (fun hb => o_ldp S3 rfl rfl rfl) ?_
      refine WPl.gc0 6 rfl rfl (.plain rfl (by first | (simp; done) | simp only [Bool.not_eq_true']) rfl) (fun hb => o_sig 7 id (c14 ((nth s (i : Int)).due) 0 99) e14 rfl rfl rfl w14 trivial r14) ?_
      refine WPl.gv 6 rfl rfl (.plain rfl (by first | (simp; done) | simp only [Bool.not_eq_true']) rfl) (fun hb => o_not rfl) ?_
      refine WPl.v rfl (o_or rfl rfl rfl (by first | (simp; done) | exact fun h => by rw [h]; rfl | exact fun h => Bool.and_eq_true_iff.2 ⟨hb, by rw [h]; rfl⟩ | simp_all)) ?_
      refine WPl.v rfl (o_move rfl) ?_
      refine WPl.bit 7 8 (!((((!(within ((nth s (i : Int)).beat) 1 9)) || (!(within ((nth s (i : Int)).pour) 1 9))) || (!(isSpan ((nth s (i : Int)).lo) ((nth s (i : Int)).hi) 9))) || (!(within ((nth s (i : Int)).due) 0 99)))) rfl rfl ?_
      refine WPl.gv 7 rfl rfl (.plain rfl (by first | (simp; done) | simp only [Bool.not_eq_true']) rfl) (fun hb => o_fldp F30_4 rfl) ?_
      refine WPl.gv 7 rfl rfl (.plain rfl (by first | (simp; done) | simp only [Bool.not_eq_true']) rfl) (fun hb => o_ldp S3 rfl rfl rfl) ?_
      refine WPl.gc0 7 rfl rfl (.plain rfl (by first | (simp; done) | simp only [Bool.not_eq_true']) rfl) (fun hb => o_sig 8 id (c14 ((nth s (i : Int)).worth) 0 99) e14 rfl rfl rfl w14 trivial r14) ?_
      refine WPl.gv 7 rfl rfl (.plain rfl (by first | (simp; done) | simp only [Bool.not_eq_true']) rfl) (fun hb => o_not rfl) ?_
      refine WPl.v rfl (o_or rfl rfl rfl (by first | (simp; done) | exact fun h => by rw [h]; rfl | exact fun h => Bool.and_eq_true_iff.2 ⟨hb, by rw [h]; rfl⟩ | simp_all)) ?_
      refine WPl.nil ?_
      refine EX.then ?_
      refine WP.cond rfl (fun hc3 => ?_) (fun hc3 => ?_)
      · try simp only [decide_eq_true_eq, decide_eq_false_iff_not, Bool.and_eq_true, Bool.or_eq_true, Bool.and_eq_false_iff, Bool.or_eq_false_iff, Bool.not_eq_true', Bool.not_eq_false', ne_eq, Decidable.not_not] at hc3
        refine WP.seq ?_
        refine WP.region ?_
        refine WPl.v rfl (o_assign rfl) ?_
        refine WPl.nil ?_
        refine EX.then ?_
        refine WP.ret ?_
        refine EX.ret_blk ?_
        refine EX.ret_then ?_
        refine EX.ret_then ?_
        refine EX.ret_blk ?_
        refine EX.ret_then ?_
        rw [show errP (jobsOK s) = 50 from by rw [show jobsOK s = false from by unfold jobsOK; rw [show allI (jobOK s) s.length = false from not_allI (show i < s.length by omega) (by unfold jobOK Job.chk; simp only [Bool.and_eq_false_iff]; exact hc3)]; simp]; rfl]
        exact EX.fin id (.inl rfl) rfl (.tmp rfl .nil) rfl (by simp [SV.res, El.res, At.res, keys]) trivial (by simp) (by simp)
      · try simp only [decide_eq_true_eq, decide_eq_false_iff_not, Bool.and_eq_true, Bool.or_eq_true, Bool.and_eq_false_iff, Bool.or_eq_false_iff, Bool.not_eq_true', Bool.not_eq_false', ne_eq, Decidable.not_not] at hc3
        refine WP.skip ?_
        refine EX.blk ?_
        refine EX.then ?_
        refine WP.region ?_
        refine WPl.v rfl (o_move rfl) ?_
        refine WPl.v rfl (o_add rfl rfl (by first | omega | (simp; omega)) (by first | omega | (simp; omega))) ?_
        refine WPl.v rfl (o_assign rfl) ?_
        refine WPl.nil ?_
        refine EX.again (i + 1) id (by exact ⟨by omega, by simp only [allI, hall, Bool.true_and]; simpa [jobOK, Job.chk, and_assoc] using hc3⟩) (by omega) (LeR.of ⟨rfl, rfl, rfl, trivial⟩ ⟨(lx rfl), trivial⟩ ⟨rfl, trivial⟩ rfl rfl rfl rfl rfl)
    · try simp only [decide_eq_true_eq, decide_eq_false_iff_not, Bool.and_eq_true, Bool.or_eq_true, Bool.and_eq_false_iff, Bool.or_eq_false_iff, Bool.not_eq_true', Bool.not_eq_false', ne_eq, Decidable.not_not] at hc2
      refine WP.exit ?_
      refine EX.exit_then ?_
      refine EX.exit_then ?_
      refine EX.exit_blk ?_
      refine EX.then ?_
      refine WP.seq ?_
      refine WP.region ?_
      refine WPl.v rfl (o_assign rfl) ?_
      refine WPl.nil ?_
      refine EX.then ?_
      refine WP.ret ?_
      rw [show errP (jobsOK s) = 0 from errP_eq.2 (by unfold jobsOK; rw [decide_eq_true (by omega), show s.length = i by omega, hall]; rfl)]
      exact EX.fin id (.inl rfl) rfl (.tmp rfl .nil) rfl (by simp [SV.res, El.res, At.res, keys]) trivial (by simp) (by simp)
end Go.Flong
namespace Go.Flong
open Go Go.Eng Go.Proofs
abbrev HitI (d : Dom) (h : Int → Bool) : Pred := Pred.fall fun (o : d.T) => FvP Try.prog [.i (o.1)] [] (.b (h o.1)) []
theorem e49 : Enters' Try.prog 49 := Try.call49
abbrev HitMo (h : Mou → Bool) : Pred := Pred.fall fun (o : Mou) => FvP Try.prog [.e (.g [ai (o.page), ai (o.used), ai (o.broke)])] [] (.b (h o)) []
theorem e50 : Enters' Try.prog 50 := Try.call50
abbrev HitW (h : List Int → Bool) : Pred := Pred.fall fun (o : {l : List Int // l.length ≤ 1000}) => FvP Try.prog [.e (.a (.q 0))] [(0, PL EP.int (o.1))] (.b (h o.1)) []
theorem e51 : Enters' Try.prog 51 := Try.call51
theorem e36 : Enters' Try.prog 36 := Try.call36
theorem e35 : Enters' Try.prog 35 := Try.call35
theorem e34 : Enters' Try.prog 34 := Try.call34
theorem e33 : Enters' Try.prog 33 := Try.call33
theorem e37 : Enters' Try.prog 37 := Try.call37
theorem e38 : Enters' Try.prog 38 := Try.call38
theorem e39 : Enters' Try.prog 39 := Try.call39
theorem e40 : Enters' Try.prog 40 := Try.call40
theorem e44 : Enters' Try.prog 44 := Try.call44
theorem e43 : Enters' Try.prog 43 := Try.call43
theorem w49 {l : List Int} {d : Dom} {h : Int → Bool} : ∀ x ∈ ([.e (.a (.q 0)), .e (.a (.q 1))] : List SV), x.res (keys (α := Pred) [(0, PL EP.int (l)), (1, HitI d h)]) := by simp [SV.res, El.res, At.res, keys]
theorem r49 {l : List Int} {h : Int → Bool} : SV.res (keys (α := Pred) []) (.i (idxG h l)) := by simp [SV.res, El.res, At.res, keys]
set_option maxHeartbeats 4000000 in
theorem c49 (l : List Int) (d : Dom) (h : Int → Bool) (hl : l.length ≤ 10000) (hd : ∀ i : Nat, i < l.length → d.p (nth l (i : Int))) : Sig Try.prog 49 [.e (.a (.q 0)), .e (.a (.q 1))] [(0, PL EP.int (l)), (1, HitI d h)] (.i (idxG h l)) [] := by
  refine Sig.intro Try.func49 rfl 2 [(0, .e (.a (.q 0))), (1, .e (.a (.q 1)))] rfl w49 rfl rfl fun I w => ?_
  refine WP.seq ?_
  refine WP.region ?_
  refine WPl.v rfl (o_assign rfl) ?_
  refine WPl.nil ?_
  refine EX.then ?_
  refine WP.seq ?_
  refine WP.seq ?_
  refine WP.region ?_
  refine WPl.v rfl (o_move rfl) ?_
  refine WPl.v rfl (o_lenq L24 rfl (lx rfl)) ?_
  refine WPl.v rfl (o_move rfl) ?_
  refine WPl.nil ?_
  refine EX.then ?_
  refine WP.block ?_
  refine WP.loop (Gh := Nat) (fun i => ⟨2, [(0, .e (.a (.q 0))), (1, .e (.a (.q 1))), (4, .i (0)), (7, .i ((l.length : Int))), (8, .i ((i : Int)))], [(0, PL EP.int (l)), (1, HitI d h)], [], [], []⟩) (fun i => i ≤ l.length ∧ allI (missG h l) i = true) (fun i => l.length - i) (0) id ?_ (LeR.of ⟨rfl, rfl, rfl, rfl, rfl, trivial⟩ ⟨(lx rfl), (lx rfl), trivial⟩ trivial rfl rfl rfl rfl rfl) ?_
  · exact ⟨by omega, rfl⟩
  intro i hφ
  have hi : i ≤ l.length := hφ.1
  have hall := hφ.2
  refine WP.seq ?_
  refine WP.region ?_
  refine WPl.v rfl (o_lss rfl rfl) ?_
  refine WPl.nil ?_
  refine EX.then ?_
  refine WP.seq ?_
  refine WP.cond rfl (fun hc1 => ?_) (fun hc1 => ?_)
  · try simp only [decide_eq_true_eq, decide_eq_false_iff_not, Bool.and_eq_true, Bool.or_eq_true, Bool.and_eq_false_iff, Bool.or_eq_false_iff, Bool.not_eq_true', Bool.not_eq_false', ne_eq, Decidable.not_not] at hc1
    refine WP.skip ?_
    refine EX.then ?_
    refine WP.seq ?_
    refine WP.block ?_
    refine WP.seq ?_
    refine WP.region ?_
    refine WPl.v rfl (o_move rfl) ?_
    refine WPl.v rfl (o_assign rfl) ?_
    refine WPl.nil ?_
    refine EX.then ?_
    refine WP.seq ?_
    refine WP.region ?_
    refine WPl.v rfl (o_move rfl) ?_
    refine WPl.v rfl (o_move rfl) ?_
    refine WPl.v rfl (o_move rfl) ?_
    refine WPl.x 2 3 rfl rfl rfl (o_idx L24 rfl (lx rfl) rfl (by first | omega | (simp; omega)) (by first | omega | (simp; omega))) ?_
    refine WPl.v rfl (o_ldq S3 rfl (lx rfl) intc) ?_
    refine WPl.cs 3 rfl rfl rfl rfl (o_callfv (svs := [.i ((⟨nth l (i : Int), hd i (by omega)⟩ : d.T).1)]) 3 id rfl (show Has _ 1 (FvP Try.prog [.i ((⟨nth l (i : Int), hd i (by omega)⟩ : d.T).1)] [] (.b (h (⟨nth l (i : Int), hd i (by omega)⟩ : d.T).1)) []) from (Has.of (lx rfl) fun _ _ h => Pred.fall_at h ((⟨nth l (i : Int), hd i (by omega)⟩ : d.T)))) rfl rfl SvsOK.rf (by simp [SV.res, El.res, At.res, keys]) trivial (by simp [SV.res, El.res, At.res, keys])) ?_
    refine WPl.nil ?_
    refine EX.then ?_
    refine WP.cond rfl (fun hc2 => ?_) (fun hc2 => ?_)
    · try simp only [decide_eq_true_eq, decide_eq_false_iff_not, Bool.and_eq_true, Bool.or_eq_true, Bool.and_eq_false_iff, Bool.or_eq_false_iff, Bool.not_eq_true', Bool.not_eq_false', ne_eq, Decidable.not_not] at hc2
      refine WP.seq ?_
      refine WP.region ?_
      refine WPl.v rfl (o_move rfl) ?_
      refine WPl.v rfl (o_assign rfl) ?_
      refine WPl.nil ?_
      refine EX.then ?_
      refine WP.ret ?_
      refine EX.ret_blk ?_
      refine EX.ret_then ?_
      refine EX.ret_then ?_
      refine EX.ret_blk ?_
      refine EX.ret_then ?_
      rw [show idxG h l = (i : Int) from idxG_at (by omega) hall hc2]
      exact EX.fin id (.inl rfl) rfl (.tmp rfl .nil) rfl (by simp [SV.res, El.res, At.res, keys]) trivial (by simp) (by simp)
    · try simp only [decide_eq_true_eq, decide_eq_false_iff_not, Bool.and_eq_true, Bool.or_eq_true, Bool.and_eq_false_iff, Bool.or_eq_false_iff, Bool.not_eq_true', Bool.not_eq_false', ne_eq, Decidable.not_not] at hc2
      refine WP.skip ?_
      refine EX.blk ?_
      refine EX.then ?_
      refine WP.region ?_
      refine WPl.v rfl (o_add rfl rfl (by first | omega | (simp; omega)) (by first | omega | (simp; omega))) ?_
      refine WPl.v rfl (o_move rfl) ?_
      refine WPl.nil ?_
      refine EX.again (i + 1) id (by exact ⟨by omega, by simp only [allI, hall, Bool.true_and, missG]; rw [hc2]; rfl⟩) (by omega) (LeR.of ⟨rfl, rfl, rfl, rfl, rfl, trivial⟩ ⟨(lx rfl), (lx rfl), trivial⟩ trivial rfl rfl rfl rfl rfl)
  · try simp only [decide_eq_true_eq, decide_eq_false_iff_not, Bool.and_eq_true, Bool.or_eq_true, Bool.and_eq_false_iff, Bool.or_eq_false_iff, Bool.not_eq_true', Bool.not_eq_false', ne_eq, Decidable.not_not] at hc1
    refine WP.exit ?_
    refine EX.exit_then ?_
    refine EX.exit_then ?_
    refine EX.exit_blk ?_
    refine EX.then ?_
    refine WP.seq ?_
    refine WP.region ?_
    refine WPl.v rfl (o_assign rfl) ?_
    refine WPl.nil ?_
    refine EX.then ?_
    refine WP.ret ?_
    rw [show idxG h l = -1 from idxG_none (by rw [show l.length = i by omega]; exact hall)]
    exact EX.fin id (.inl rfl) rfl (.tmp rfl .nil) rfl (by simp [SV.res, El.res, At.res, keys]) trivial (by simp) (by simp)
theorem w34 {l : List Int} {d : Dom} {h : Int → Bool} : ∀ x ∈ ([.e (.a (.q 0)), .e (.a (.q 1))] : List SV), x.res (keys (α := Pred) [(0, PL EP.int (l)), (1, HitI d h)]) := by simp [SV.res, El.res, At.res, keys]
theorem r34 {l : List Int} {h : Int → Bool} : SV.res (keys (α := Pred) []) (.b (anyG h l)) := by simp [SV.res, El.res, At.res, keys]
set_option maxHeartbeats 4000000 in
theorem c34 (l : List Int) (d : Dom) (h : Int → Bool) (hl : l.length ≤ 10000) (hd : ∀ i : Nat, i < l.length → d.p (nth l (i : Int))) : Sig Try.prog 34 [.e (.a (.q 0)), .e (.a (.q 1))] [(0, PL EP.int (l)), (1, HitI d h)] (.b (anyG h l)) [] := by
  refine Sig.intro Try.func34 rfl 2 [(0, .e (.a (.q 0))), (1, .e (.a (.q 1)))] rfl w34 rfl rfl fun I w => ?_
  refine WP.seq ?_
  refine WP.region ?_
  refine WPl.v rfl (o_assign rfl) ?_
  refine WPl.nil ?_
  refine EX.then ?_
  refine WP.seq ?_
  refine WP.region ?_
  refine WPl.v rfl (o_move rfl) ?_
  refine WPl.v rfl (o_move rfl) ?_
  refine WPl.cs 2 rfl rfl rfl rfl (o_sig 2 (ren [(0, 0), (1, 1)]) (c49 l d h hl hd) e49 rfl rfl rfl w49 ⟨(lx rfl), (lx rfl), trivial⟩ r49) ?_
  refine WPl.v rfl (o_geq rfl rfl) ?_
  refine WPl.v rfl (o_assign rfl) ?_
  refine WPl.nil ?_
  refine EX.then ?_
  refine WP.ret ?_
  rw [← idxG_any]
  exact EX.fin id (.inl rfl) rfl (.tmp rfl .nil) rfl (by simp [SV.res, El.res, At.res, keys]) trivial (by simp) (by simp)
theorem w50 {l : List Mou} {h : Mou → Bool} : ∀ x ∈ ([.e (.a (.q 0)), .e (.a (.q 1))] : List SV), x.res (keys (α := Pred) [(0, PL EMo (l)), (1, HitMo h)]) := by simp [SV.res, El.res, At.res, keys]
theorem r50 {l : List Mou} {h : Mou → Bool} : SV.res (keys (α := Pred) []) (.i (idxG h l)) := by simp [SV.res, El.res, At.res, keys]
set_option maxHeartbeats 4000000 in
theorem c50 (l : List Mou) (h : Mou → Bool) (hl : l.length ≤ 10000) : Sig Try.prog 50 [.e (.a (.q 0)), .e (.a (.q 1))] [(0, PL EMo (l)), (1, HitMo h)] (.i (idxG h l)) [] := by
  refine Sig.intro Try.func50 rfl 2 [(0, .e (.a (.q 0))), (1, .e (.a (.q 1)))] rfl w50 rfl rfl fun I w => ?_
  refine WP.seq ?_
  refine WP.region ?_
  refine WPl.v rfl (o_assign rfl) ?_
  refine WPl.nil ?_
  refine EX.then ?_
  refine WP.seq ?_
  refine WP.seq ?_
  refine WP.region ?_
  refine WPl.v rfl (o_move rfl) ?_
  refine WPl.v rfl (o_lenq L22 rfl (lx rfl)) ?_
  refine WPl.v rfl (o_move rfl) ?_
  refine WPl.nil ?_
  refine EX.then ?_
  refine WP.block ?_
  refine WP.loop (Gh := Nat) (fun i => ⟨2, [(0, .e (.a (.q 0))), (1, .e (.a (.q 1))), (4, .i (0)), (7, .i ((l.length : Int))), (8, .i ((i : Int)))], [(0, PL EMo (l)), (1, HitMo h)], [], [], []⟩) (fun i => i ≤ l.length ∧ allI (missG h l) i = true) (fun i => l.length - i) (0) id ?_ (LeR.of ⟨rfl, rfl, rfl, rfl, rfl, trivial⟩ ⟨(lx rfl), (lx rfl), trivial⟩ trivial rfl rfl rfl rfl rfl) ?_
  · exact ⟨by omega, rfl⟩
  intro i hφ
  have hi : i ≤ l.length := hφ.1
  have hall := hφ.2
  refine WP.seq ?_
  refine WP.region ?_
  refine WPl.v rfl (o_lss rfl rfl) ?_
  refine WPl.nil ?_
  refine EX.then ?_
  refine WP.seq ?_
  refine WP.cond rfl (fun hc1 => ?_) (fun hc1 => ?_)
  · try simp only [decide_eq_true_eq, decide_eq_false_iff_not, Bool.and_eq_true, Bool.or_eq_true, Bool.and_eq_false_iff, Bool.or_eq_false_iff, Bool.not_eq_true', Bool.not_eq_false', ne_eq, Decidable.not_not] at hc1
    refine WP.skip ?_
    refine EX.then ?_
    refine WP.seq ?_
    refine WP.block ?_
    refine WP.seq ?_
    refine WP.region ?_
    refine WPl.v rfl (o_move rfl) ?_
    refine WPl.v rfl (o_assign rfl) ?_
    refine WPl.nil ?_
    refine EX.then ?_
    refine WP.seq ?_
    refine WP.region ?_
    refine WPl.v rfl (o_move rfl) ?_
    refine WPl.v rfl (o_move rfl) ?_
    refine WPl.v rfl (o_move rfl) ?_
    refine WPl.x 2 3 rfl rfl rfl (o_idx L22 rfl (lx rfl) rfl (by first | omega | (simp; omega)) (by first | omega | (simp; omega))) ?_
    refine WPl.v rfl (o_ldqg G47 rfl (lx rfl) (strG rfl) rfl rfl) ?_
    refine WPl.cs 3 rfl rfl rfl rfl (o_callfv (svs := [.e (.g [ai ((nth l (i : Int)).page), ai ((nth l (i : Int)).used), ai ((nth l (i : Int)).broke)])]) 3 id rfl (show Has _ 1 (FvP Try.prog [.e (.g [ai ((nth l (i : Int)).page), ai ((nth l (i : Int)).used), ai ((nth l (i : Int)).broke)])] [] (.b (h (nth l (i : Int)))) []) from (Has.of (lx rfl) fun _ _ h => Pred.fall_at h ((nth l (i : Int))))) rfl rfl SvsOK.rf (by simp [SV.res, El.res, At.res, keys]) trivial (by simp [SV.res, El.res, At.res, keys])) ?_
    refine WPl.nil ?_
    refine EX.then ?_
    refine WP.cond rfl (fun hc2 => ?_) (fun hc2 => ?_)
    · try simp only [decide_eq_true_eq, decide_eq_false_iff_not, Bool.and_eq_true, Bool.or_eq_true, Bool.and_eq_false_iff, Bool.or_eq_false_iff, Bool.not_eq_true', Bool.not_eq_false', ne_eq, Decidable.not_not] at hc2
      refine WP.seq ?_
      refine WP.region ?_
      refine WPl.v rfl (o_move rfl) ?_
      refine WPl.v rfl (o_assign rfl) ?_
      refine WPl.nil ?_
      refine EX.then ?_
      refine WP.ret ?_
      refine EX.ret_blk ?_
      refine EX.ret_then ?_
      refine EX.ret_then ?_
      refine EX.ret_blk ?_
      refine EX.ret_then ?_
      rw [show idxG h l = (i : Int) from idxG_at (by omega) hall hc2]
      exact EX.fin id (.inl rfl) rfl (.tmp rfl .nil) rfl (by simp [SV.res, El.res, At.res, keys]) trivial (by simp) (by simp)
    · try simp only [decide_eq_true_eq, decide_eq_false_iff_not, Bool.and_eq_true, Bool.or_eq_true, Bool.and_eq_false_iff, Bool.or_eq_false_iff, Bool.not_eq_true', Bool.not_eq_false', ne_eq, Decidable.not_not] at hc2
      refine WP.skip ?_
      refine EX.blk ?_
      refine EX.then ?_
      refine WP.region ?_
      refine WPl.v rfl (o_add rfl rfl (by first | omega | (simp; omega)) (by first | omega | (simp; omega))) ?_
      refine WPl.v rfl (o_move rfl) ?_
      refine WPl.nil ?_
      refine EX.again (i + 1) id (by exact ⟨by omega, by simp only [allI, hall, Bool.true_and, missG]; rw [hc2]; rfl⟩) (by omega) (LeR.of ⟨rfl, rfl, rfl, rfl, rfl, trivial⟩ ⟨(lx rfl), (lx rfl), trivial⟩ trivial rfl rfl rfl rfl rfl)
  · try simp only [decide_eq_true_eq, decide_eq_false_iff_not, Bool.and_eq_true, Bool.or_eq_true, Bool.and_eq_false_iff, Bool.or_eq_false_iff, Bool.not_eq_true', Bool.not_eq_false', ne_eq, Decidable.not_not] at hc1
    refine WP.exit ?_
    refine EX.exit_then ?_
    refine EX.exit_then ?_
    refine EX.exit_blk ?_
    refine EX.then ?_
    refine WP.seq ?_
    refine WP.region ?_
    refine WPl.v rfl (o_assign rfl) ?_
    refine WPl.nil ?_
    refine EX.then ?_
    refine WP.ret ?_
    rw [show idxG h l = -1 from idxG_none (by rw [show l.length = i by omega]; exact hall)]
    exact EX.fin id (.inl rfl) rfl (.tmp rfl .nil) rfl (by simp [SV.res, El.res, At.res, keys]) trivial (by simp) (by simp)
theorem w39 {l : List Mou} {h : Mou → Bool} : ∀ x ∈ ([.e (.a (.q 0)), .e (.a (.q 1))] : List SV), x.res (keys (α := Pred) [(0, PL EMo (l)), (1, HitMo h)]) := by simp [SV.res, El.res, At.res, keys]
theorem r39 {l : List Mou} {h : Mou → Bool} : SV.res (keys (α := Pred) []) (.b (anyG h l)) := by simp [SV.res, El.res, At.res, keys]
set_option maxHeartbeats 4000000 in
theorem c39 (l : List Mou) (h : Mou → Bool) (hl : l.length ≤ 10000) : Sig Try.prog 39 [.e (.a (.q 0)), .e (.a (.q 1))] [(0, PL EMo (l)), (1, HitMo h)] (.b (anyG h l)) [] := by
  refine Sig.intro Try.func39 rfl 2 [(0, .e (.a (.q 0))), (1, .e (.a (.q 1)))] rfl w39 rfl rfl fun I w => ?_
  refine WP.seq ?_
  refine WP.region ?_
  refine WPl.v rfl (o_assign rfl) ?_
  refine WPl.nil ?_
  refine EX.then ?_
  refine WP.seq ?_
  refine WP.region ?_
  refine WPl.v rfl (o_move rfl) ?_
  refine WPl.v rfl (o_move rfl) ?_
  refine WPl.cs 2 rfl rfl rfl rfl (o_sig 2 (ren [(0, 0), (1, 1)]) (c50 l h hl) e50 rfl rfl rfl w50 ⟨(lx rfl), (lx rfl), trivial⟩ r50) ?_
  refine WPl.v rfl (o_geq rfl rfl) ?_
  refine WPl.v rfl (o_assign rfl) ?_
  refine WPl.nil ?_
  refine EX.then ?_
  refine WP.ret ?_
  rw [← idxG_any]
  exact EX.fin id (.inl rfl) rfl (.tmp rfl .nil) rfl (by simp [SV.res, El.res, At.res, keys]) trivial (by simp) (by simp)
theorem w51 {l : List (List Int)} {h : List Int → Bool} : ∀ x ∈ ([.e (.a (.q 0)), .e (.a (.q 1))] : List SV), x.res (keys (α := Pred) [(0, PL (EP.sl EP.int) (l)), (1, HitW h)]) := by simp [SV.res, El.res, At.res, keys]
theorem r51 {l : List (List Int)} {h : List Int → Bool} : SV.res (keys (α := Pred) []) (.i (idxG h l)) := by simp [SV.res, El.res, At.res, keys]
set_option maxHeartbeats 4000000 in
theorem c51 (l : List (List Int)) (h : List Int → Bool) (hl : l.length ≤ 10000) (hd : ∀ i : Nat, i < l.length → (nth l (i : Int)).length ≤ 1000) : Sig Try.prog 51 [.e (.a (.q 0)), .e (.a (.q 1))] [(0, PL (EP.sl EP.int) (l)), (1, HitW h)] (.i (idxG h l)) [] := by
  refine Sig.intro Try.func51 rfl 2 [(0, .e (.a (.q 0))), (1, .e (.a (.q 1)))] rfl w51 rfl rfl fun I w => ?_
  refine WP.seq ?_
  refine WP.region ?_
  refine WPl.v rfl (o_assign rfl) ?_
  refine WPl.nil ?_
  refine EX.then ?_
  refine WP.seq ?_
  refine WP.seq ?_
  refine WP.region ?_
  refine WPl.v rfl (o_move rfl) ?_
  refine WPl.v rfl (o_lenq L23 rfl (lx rfl)) ?_
  refine WPl.v rfl (o_move rfl) ?_
  refine WPl.nil ?_
  refine EX.then ?_
  refine WP.block ?_
  refine WP.loop (Gh := Nat) (fun i => ⟨2, [(0, .e (.a (.q 0))), (1, .e (.a (.q 1))), (4, .i (0)), (7, .i ((l.length : Int))), (8, .i ((i : Int)))], [(0, PL (EP.sl EP.int) (l)), (1, HitW h)], [], [], []⟩) (fun i => i ≤ l.length ∧ allI (missG h l) i = true) (fun i => l.length - i) (0) id ?_ (LeR.of ⟨rfl, rfl, rfl, rfl, rfl, trivial⟩ ⟨(lx rfl), (lx rfl), trivial⟩ trivial rfl rfl rfl rfl rfl) ?_
  · exact ⟨by omega, rfl⟩
  intro i hφ
  have hi : i ≤ l.length := hφ.1
  have hall := hφ.2
  refine WP.seq ?_
  refine WP.region ?_
  refine WPl.v rfl (o_lss rfl rfl) ?_
  refine WPl.nil ?_
  refine EX.then ?_
  refine WP.seq ?_
  refine WP.cond rfl (fun hc1 => ?_) (fun hc1 => ?_)
  · try simp only [decide_eq_true_eq, decide_eq_false_iff_not, Bool.and_eq_true, Bool.or_eq_true, Bool.and_eq_false_iff, Bool.or_eq_false_iff, Bool.not_eq_true', Bool.not_eq_false', ne_eq, Decidable.not_not] at hc1
    refine WP.skip ?_
    refine EX.then ?_
    refine WP.seq ?_
    refine WP.block ?_
    refine WP.seq ?_
    refine WP.region ?_
    refine WPl.v rfl (o_move rfl) ?_
    refine WPl.v rfl (o_assign rfl) ?_
    refine WPl.nil ?_
    refine EX.then ?_
    refine WP.seq ?_
    refine WP.region ?_
    refine WPl.v rfl (o_move rfl) ?_
    refine WPl.v rfl (o_move rfl) ?_
    refine WPl.v rfl (o_move rfl) ?_
    refine WPl.x 2 3 rfl rfl rfl (o_idx L23 rfl (lx rfl) rfl (by first | omega | (simp; omega)) (by first | omega | (simp; omega))) ?_
    refine WPl.x 3 4 rfl rfl rfl (o_ldqx S24 rfl (lx rfl) slx) ?_
    refine WPl.cs 4 rfl rfl rfl rfl (o_callfv (svs := [.e (.a (.q 0))]) 4 (ren [(0, 3)]) rfl (show Has _ 1 (FvP Try.prog [.e (.a (.q 0))] [(0, PL EP.int ((⟨nth l (i : Int), hd i (by omega)⟩ : {l : List Int // l.length ≤ 1000}).1))] (.b (h (⟨nth l (i : Int), hd i (by omega)⟩ : {l : List Int // l.length ≤ 1000}).1)) []) from (Has.of (lx rfl) fun _ _ h => Pred.fall_at h ((⟨nth l (i : Int), hd i (by omega)⟩ : {l : List Int // l.length ≤ 1000})))) rfl rfl SvsOK.rf (by simp [SV.res, El.res, At.res, keys]) ⟨(lx rfl), trivial⟩ (by simp [SV.res, El.res, At.res, keys])) ?_
    refine WPl.nil ?_
    refine EX.then ?_
    refine WP.cond rfl (fun hc2 => ?_) (fun hc2 => ?_)
    · try simp only [decide_eq_true_eq, decide_eq_false_iff_not, Bool.and_eq_true, Bool.or_eq_true, Bool.and_eq_false_iff, Bool.or_eq_false_iff, Bool.not_eq_true', Bool.not_eq_false', ne_eq, Decidable.not_not] at hc2
      refine WP.seq ?_
      refine WP.region ?_
      refine WPl.v rfl (o_move rfl) ?_
      refine WPl.v rfl (o_assign rfl) ?_
      refine WPl.nil ?_
      refine EX.then ?_
      refine WP.ret ?_
      refine EX.ret_blk ?_
      refine EX.ret_then ?_
      refine EX.ret_then ?_
      refine EX.ret_blk ?_
      refine EX.ret_then ?_
      rw [show idxG h l = (i : Int) from idxG_at (by omega) hall hc2]
      exact EX.fin id (.inl rfl) rfl (.tmp rfl .nil) rfl (by simp [SV.res, El.res, At.res, keys]) trivial (by simp) (by simp)
    · try simp only [decide_eq_true_eq, decide_eq_false_iff_not, Bool.and_eq_true, Bool.or_eq_true, Bool.and_eq_false_iff, Bool.or_eq_false_iff, Bool.not_eq_true', Bool.not_eq_false', ne_eq, Decidable.not_not] at hc2
      refine WP.skip ?_
      refine EX.blk ?_
      refine EX.then ?_
      refine WP.region ?_
      refine WPl.v rfl (o_add rfl rfl (by first | omega | (simp; omega)) (by first | omega | (simp; omega))) ?_
      refine WPl.v rfl (o_move rfl) ?_
      refine WPl.nil ?_
      refine EX.again (i + 1) id (by exact ⟨by omega, by simp only [allI, hall, Bool.true_and, missG]; rw [hc2]; rfl⟩) (by omega) (LeR.of ⟨rfl, rfl, rfl, rfl, rfl, trivial⟩ ⟨(lx rfl), (lx rfl), trivial⟩ trivial rfl rfl rfl rfl rfl)
  · try simp only [decide_eq_true_eq, decide_eq_false_iff_not, Bool.and_eq_true, Bool.or_eq_true, Bool.and_eq_false_iff, Bool.or_eq_false_iff, Bool.not_eq_true', Bool.not_eq_false', ne_eq, Decidable.not_not] at hc1
    refine WP.exit ?_
    refine EX.exit_then ?_
    refine EX.exit_then ?_
    refine EX.exit_blk ?_
    refine EX.then ?_
    refine WP.seq ?_
    refine WP.region ?_
    refine WPl.v rfl (o_assign rfl) ?_
    refine WPl.nil ?_
    refine EX.then ?_
    refine WP.ret ?_
    rw [show idxG h l = -1 from idxG_none (by rw [show l.length = i by omega]; exact hall)]
    exact EX.fin id (.inl rfl) rfl (.tmp rfl .nil) rfl (by simp [SV.res, El.res, At.res, keys]) trivial (by simp) (by simp)
theorem w40 {l : List (List Int)} {h : List Int → Bool} : ∀ x ∈ ([.e (.a (.q 0)), .e (.a (.q 1))] : List SV), x.res (keys (α := Pred) [(0, PL (EP.sl EP.int) (l)), (1, HitW h)]) := by simp [SV.res, El.res, At.res, keys]
theorem r40 {l : List (List Int)} {h : List Int → Bool} : SV.res (keys (α := Pred) []) (.b (anyG h l)) := by simp [SV.res, El.res, At.res, keys]
set_option maxHeartbeats 4000000 in
theorem c40 (l : List (List Int)) (h : List Int → Bool) (hl : l.length ≤ 10000) (hd : ∀ i : Nat, i < l.length → (nth l (i : Int)).length ≤ 1000) : Sig Try.prog 40 [.e (.a (.q 0)), .e (.a (.q 1))] [(0, PL (EP.sl EP.int) (l)), (1, HitW h)] (.b (anyG h l)) [] := by
  refine Sig.intro Try.func40 rfl 2 [(0, .e (.a (.q 0))), (1, .e (.a (.q 1)))] rfl w40 rfl rfl fun I w => ?_
  refine WP.seq ?_
  refine WP.region ?_
  refine WPl.v rfl (o_assign rfl) ?_
  refine WPl.nil ?_
  refine EX.then ?_
  refine WP.seq ?_
  refine WP.region ?_
  refine WPl.v rfl (o_move rfl) ?_
  refine WPl.v rfl (o_move rfl) ?_
  refine WPl.cs 2 rfl rfl rfl rfl (o_sig 2 (ren [(0, 0), (1, 1)]) (c51 l h hl hd) e51 rfl rfl rfl w51 ⟨(lx rfl), (lx rfl), trivial⟩ r51) ?_
  refine WPl.v rfl (o_geq rfl rfl) ?_
  refine WPl.v rfl (o_assign rfl) ?_
  refine WPl.nil ?_
  refine EX.then ?_
  refine WP.ret ?_
  rw [← idxG_any]
  exact EX.fin id (.inl rfl) rfl (.tmp rfl .nil) rfl (by simp [SV.res, El.res, At.res, keys]) trivial (by simp) (by simp)
theorem w35 {n : Int} : ∀ x ∈ ([.i (n)] : List SV), x.res (keys (α := Pred) []) := by simp [SV.res, El.res, At.res, keys]
theorem r35 {n : Int} : SV.res (keys (α := Pred) []) (.b (!within n 0 12)) := by simp [SV.res, El.res, At.res, keys]
set_option maxHeartbeats 4000000 in
theorem c35 (n : Int)  : Sig Try.prog 35 [.i (n)] [] (.b (!within n 0 12)) [] := by
  refine Sig.intro Try.func35 rfl 0 [(0, .i (n))] rfl w35 rfl rfl fun I w => ?_
  refine WP.seq ?_
  refine WP.region ?_
  refine WPl.v rfl (o_assign rfl) ?_
  refine WPl.nil ?_
  refine EX.then ?_
  refine WP.seq ?_
  refine WP.region ?_
  refine WPl.v rfl (o_move rfl) ?_
  refine WPl.cs 0 rfl rfl rfl rfl (o_sig 0 id (c36 n 0 12) e36 rfl rfl rfl w36 trivial r36) ?_
  refine WPl.v rfl (o_not rfl) ?_
  refine WPl.v rfl (o_assign rfl) ?_
  refine WPl.nil ?_
  refine EX.then ?_
  refine WP.ret ?_
  exact EX.fin id (.inl rfl) rfl (.tmp rfl .nil) rfl r35 trivial (by simp) (by simp)
theorem w38 {n : Int} : ∀ x ∈ ([.i (n)] : List SV), x.res (keys (α := Pred) []) := by simp [SV.res, El.res, At.res, keys]
theorem r38 {n : Int} : SV.res (keys (α := Pred) []) (.b (!within n 0 12)) := by simp [SV.res, El.res, At.res, keys]
set_option maxHeartbeats 4000000 in
theorem c38 (n : Int)  : Sig Try.prog 38 [.i (n)] [] (.b (!within n 0 12)) [] := by
  refine Sig.intro Try.func38 rfl 0 [(0, .i (n))] rfl w38 rfl rfl fun I w => ?_
  refine WP.seq ?_
  refine WP.region ?_
  refine WPl.v rfl (o_assign rfl) ?_
  refine WPl.nil ?_
  refine EX.then ?_
  refine WP.seq ?_
  refine WP.region ?_
  refine WPl.v rfl (o_move rfl) ?_
  refine WPl.cs 0 rfl rfl rfl rfl (o_sig 0 id (c36 n 0 12) e36 rfl rfl rfl w36 trivial r36) ?_
  refine WPl.v rfl (o_not rfl) ?_
  refine WPl.v rfl (o_assign rfl) ?_
  refine WPl.nil ?_
  refine EX.then ?_
  refine WP.ret ?_
  exact EX.fin id (.inl rfl) rfl (.tmp rfl .nil) rfl r38 trivial (by simp) (by simp)
theorem w37 {m : Mou} {f : FSh} : ∀ x ∈ ([.e (.g [ai (m.page), ai (m.used), ai (m.broke)]), .e (.a (.q 0))] : List SV), x.res (keys (α := Pred) [(0, PP EFs (f))]) := by simp [SV.res, El.res, At.res, keys]
set_option maxHeartbeats 4000000 in
theorem c37 (m : Mou) (f : FSh) (hl : f.wants.length ≤ 1000) : Sig Try.prog 37 [.e (.g [ai (m.page), ai (m.used), ai (m.broke)]), .e (.a (.q 0))] [(0, PP EFs (f))] (.b (!m.chk f.wants.length)) [] := by
  refine Sig.intro Try.func37 rfl 1 [(0, .e (.g [ai (m.page), ai (m.used), ai (m.broke)])), (1, .e (.a (.q 0)))] rfl w37 rfl rfl fun I w => ?_
  refine WP.seq ?_
  refine WP.region ?_
  refine WPl.l 1 2 rfl rfl rfl (o_boxg rfl) ?_
  refine WPl.v rfl (o_assign rfl) ?_
  refine WPl.nil ?_
  refine EX.then ?_
  refine WP.seq ?_
  refine WP.region ?_
  refine WPl.v rfl (o_fldp F47_0 rfl) ?_
  refine WPl.v rfl (o_ldp S3 rfl rfl rfl) ?_
  refine WPl.v rfl (o_fldq F26_2 rfl (lx rfl)) ?_
  refine WPl.x 2 3 rfl rfl rfl (o_ldex S24 rfl (lx rfl) (strS rfl)) ?_
  refine WPl.v rfl (o_lenq L24 rfl (lx rfl)) ?_
  refine WPl.v rfl (o_sub rfl rfl (by first | omega | (simp; omega)) (by first | omega | (simp; omega))) ?_
  refine WPl.cs 3 rfl rfl rfl rfl (o_sig 3 id (c36 m.page 0 ((f.wants.length : Int) - 1)) e36 rfl rfl rfl w36 trivial r36) ?_
  refine WPl.v rfl (o_not rfl) ?_
  refine WPl.v rfl (o_move rfl) ?_
  refine WPl.bit 3 4 (!(!(within m.page 0 ((f.wants.length : Int) - 1)))) rfl rfl ?_
  refine WPl.gv 3 rfl rfl (.plain rfl (by first | (simp; done) | simp only [Bool.not_eq_true']) rfl) (fun hb => o_fldp F47_1 rfl) ?_
  refine WPl.gv 3 rfl rfl (.plain rfl (by first | (simp; done) | simp only [Bool.not_eq_true']) rfl) (fun hb => o_ldp S3 rfl rfl rfl) ?_
  refine WPl.gc0 3 rfl rfl (.plain rfl (by first | (simp; done) | simp only [Bool.not_eq_true']) rfl) (fun hb => o_sig 4 id (c36 m.used 0 12) e36 rfl rfl rfl w36 trivial r36) ?_
  refine WPl.gv 3 rfl rfl (.plain rfl (by first | (simp; done) | simp only [Bool.not_eq_true']) rfl) (fun hb => o_not rfl) ?_
  refine WPl.v rfl (o_or rfl rfl rfl (by first | (simp; done) | exact fun h => by rw [h]; rfl | exact fun h => Bool.and_eq_true_iff.2 ⟨hb, by rw [h]; rfl⟩ | simp_all)) ?_
  refine WPl.v rfl (o_move rfl) ?_
  refine WPl.bit 4 5 (!((!(within m.page 0 ((f.wants.length : Int) - 1))) || (!(within m.used 0 12)))) rfl rfl ?_
  refine WPl.gv 4 rfl rfl (.plain rfl (by first | (simp; done) | simp only [Bool.not_eq_true']) rfl) (fun hb => o_fldp F47_2 rfl) ?_
  refine WPl.gv 4 rfl rfl (.plain rfl (by first | (simp; done) | simp only [Bool.not_eq_true']) rfl) (fun hb => o_ldp S3 rfl rfl rfl) ?_
  refine WPl.gc0 4 rfl rfl (.plain rfl (by first | (simp; done) | simp only [Bool.not_eq_true']) rfl) (fun hb => o_sig 5 id (c36 m.broke 0 1) e36 rfl rfl rfl w36 trivial r36) ?_
  refine WPl.gv 4 rfl rfl (.plain rfl (by first | (simp; done) | simp only [Bool.not_eq_true']) rfl) (fun hb => o_not rfl) ?_
  refine WPl.v rfl (o_or rfl rfl rfl (by first | (simp; done) | exact fun h => by rw [h]; rfl | exact fun h => Bool.and_eq_true_iff.2 ⟨hb, by rw [h]; rfl⟩ | simp_all)) ?_
  refine WPl.v rfl (o_assign rfl) ?_
  refine WPl.nil ?_
  refine EX.then ?_
  refine WP.ret ?_
  rw [show (!m.chk f.wants.length) = (((!within m.page 0 ((f.wants.length : Int) - 1)) || !within m.used 0 12) || !within m.broke 0 1) from by unfold Mou.chk; rw [Bool.not_and, Bool.not_and]]
  exact EX.fin id (.inl rfl) rfl (.tmp rfl .nil) rfl (by simp [SV.res, El.res, At.res, keys]) trivial (by simp) (by simp)
theorem w33 {u : List Int} {f : FSh} : ∀ x ∈ ([.e (.a (.q 0)), .e (.a (.q 1))] : List SV), x.res (keys (α := Pred) [(0, PL EP.int (u)), (1, PP EFs (f))]) := by simp [SV.res, El.res, At.res, keys]
set_option maxHeartbeats 4000000 in
theorem c33 (u : List Int) (f : FSh) (hl : u.length ≤ 1000) (hl2 : f.moulds.length ≤ 1000) : Sig Try.prog 33 [.e (.a (.q 0)), .e (.a (.q 1))] [(0, PL EP.int (u)), (1, PP EFs (f))] (.b (f.badW u)) [] := by
  refine Sig.intro Try.func33 rfl 2 [(0, .e (.a (.q 0))), (1, .e (.a (.q 1)))] rfl w33 rfl rfl fun I w => ?_
  refine WP.seq ?_
  refine WP.region ?_
  refine WPl.v rfl (o_assign rfl) ?_
  refine WPl.nil ?_
  refine EX.then ?_
  refine WP.seq ?_
  refine WP.region ?_
  refine WPl.v rfl (o_move rfl) ?_
  refine WPl.v rfl (o_lenq L24 rfl (lx rfl)) ?_
  refine WPl.v rfl (o_fldq F26_0 rfl (lx rfl)) ?_
  refine WPl.x 2 3 rfl rfl rfl (o_ldex S22 rfl (lx rfl) (strS rfl)) ?_
  refine WPl.v rfl (o_lenq L22 rfl (lx rfl)) ?_
  refine WPl.v rfl (o_neq rfl rfl) ?_
  refine WPl.v rfl (o_move rfl) ?_
  rcases Bool.eq_false_or_eq_true (decide ((u.length : Int) ≠ (f.moulds.length : Int))) with hs10 | hs10
  · refine WPl.imp (Imp.bitF 10 (b' := true) rfl hs10) ?_
    refine WPl.off rfl ⟨_, _, rfl, rfl, rfl⟩ ?_
    refine WPl.off rfl ⟨_, _, rfl, rfl, rfl⟩ ?_
    refine WPl.v rfl (o_pickT rfl rfl) ?_
    refine WPl.v rfl (o_assign rfl) ?_
    refine WPl.nil ?_
    refine EX.then ?_
    refine WP.ret ?_
    rw [show f.badW u = true from by unfold FSh.badW; rw [hs10]; rfl]
    exact EX.fin id (.inl rfl) rfl (.tmp rfl .nil) rfl (by simp [SV.res, El.res, At.res, keys]) trivial (by simp) (by simp)
  · refine WPl.imp (Imp.bitF 10 (b' := false) rfl hs10) ?_
    refine WPl.on rfl ⟨_, _, rfl, rfl, rfl⟩ (o_move rfl) ?_
    refine WPl.imp (Imp.nam 3 4 (.func (.func 35) #[] #[]) (R := (HitI Dom.all (fun x0 => !within x0 0 12)).and (Pred.is (.func (.func 35) #[] #[]))) (fun I => FvP.namee (fun (o : Dom.all.T) => (c35 o.1)) e35 (fun _ => (by simp [SV.res, El.res, At.res, keys])) I) rfl rfl) ?_
    refine WPl.ung ⟨_, _, rfl, rfl, rfl⟩ ?_
    refine WPl.cs 4 rfl rfl rfl rfl (o_sigc 4 (ren [(0, 0), (1, 3)]) (c34 u Dom.all (fun x0 => !within x0 0 12) (by omega) (fun _ _ => trivial)) e34 rfl rfl ⟨.inl rfl, .inr ⟨_, _, rfl, fun _ => rfl, (lxr rfl)⟩, trivial⟩ w34 ⟨(lx rfl), (lxl rfl), trivial⟩ r34) ?_
    refine WPl.v rfl (o_pickF rfl rfl) ?_
    refine WPl.v rfl (o_assign rfl) ?_
    refine WPl.nil ?_
    refine EX.then ?_
    refine WP.ret ?_
    rw [show f.badW u = anyG (fun x0 => !within x0 0 12) u from by unfold FSh.badW; rw [hs10]; rfl]
    exact EX.fin id (.inl rfl) rfl (.tmp rfl .nil) rfl (by simp [SV.res, El.res, At.res, keys]) trivial (by simp) (by simp)
theorem w26 {f : FSh} : ∀ x ∈ ([.e (.g [.q 0, .q 1, .q 2, ai (f.fresh)])] : List SV), x.res (keys (α := Pred) [(0, PL EMo (f.moulds)), (1, PL (EP.sl EP.int) (f.worlds)), (2, PL EP.int (f.wants))]) := by simp [SV.res, El.res, At.res, keys]
theorem r26 {f : FSh} : SV.res (keys (α := Pred) []) (.i (errF f.chk)) := by simp [SV.res, El.res, At.res, keys]
set_option maxHeartbeats 4000000 in
theorem c26 (f : FSh) (hm : f.Small) : Sig Try.prog 26 [.e (.g [.q 0, .q 1, .q 2, ai (f.fresh)])] [(0, PL EMo (f.moulds)), (1, PL (EP.sl EP.int) (f.worlds)), (2, PL EP.int (f.wants))] (.i (errF f.chk)) [] := by
  have hm1 := hm.m
  have hm2 := hm.w
  have hm3 := hm.p
  have hm4 := hm.l
  refine Sig.intro Try.func26 rfl 3 [(0, .e (.g [.q 0, .q 1, .q 2, ai (f.fresh)]))] rfl w26 rfl rfl fun I w => ?_
  refine WP.seq ?_
  refine WP.region ?_
  refine WPl.l 3 4 rfl rfl rfl (o_boxg rfl) ?_
  refine WPl.v rfl (o_assign rfl) ?_
  refine WPl.nil ?_
  refine EX.then ?_
  refine WP.seq ?_
  refine WP.region ?_
  refine WPl.imp (Imp.frzb (E := EFs) (y := f) 3 4 5 rfl rfl (bok_str ⟨⟨_, rfl, (lx rfl)⟩, ⟨_, rfl, (lx rfl)⟩, ⟨_, rfl, (lx rfl)⟩, rfl, trivial⟩) rfl rfl rfl) ?_
  refine WPl.x 5 6 rfl rfl rfl (o_mkfve (svs := fun (o : {l : List Int // l.length ≤ 1000}) => [.e (.a (.q 0))]) (X0 := fun (o : {l : List Int // l.length ≤ 1000}) => [(0, PL EP.int (o.1))]) (sv := fun (o : {l : List Int // l.length ≤ 1000}) => .b (f.badW o.1)) (X := fun (o : {l : List Int // l.length ≤ 1000}) => []) (cs := [.e (.a (.q 1))]) (Xc := [(1, PP EFs (f))]) 5 (ren [(1, 4)]) (fun (o : {l : List Int // l.length ≤ 1000}) => (c33 o.1 f o.2 (by omega))) e33 (fun _ => rfl) rfl SvsOK.rf (fun _ => (by simp [SV.res, El.res, At.res, keys])) (by simp [SV.res, El.res, At.res, keys]) ⟨(lx rfl), trivial⟩) ?_
  refine WPl.v rfl (o_assign rfl) ?_
  refine WPl.nil ?_
  refine EX.then ?_
  refine WP.seq ?_
  refine WP.region ?_
  refine WPl.x 6 7 rfl rfl rfl (o_mkfve (svs := fun (o : Mou) => [.e (.g [ai (o.page), ai (o.used), ai (o.broke)])]) (X0 := fun (o : Mou) => []) (sv := fun (o : Mou) => .b ((fun x0 => !x0.chk f.wants.length) o)) (X := fun (o : Mou) => []) (cs := [.e (.a (.q 0))]) (Xc := [(0, PP EFs (f))]) 6 (ren [(0, 4)]) (fun (o : Mou) => (c37 o f (by omega))) e37 (fun _ => rfl) rfl SvsOK.rf (fun _ => (by simp [SV.res, El.res, At.res, keys])) (by simp [SV.res, El.res, At.res, keys]) ⟨(lx rfl), trivial⟩) ?_
  refine WPl.v rfl (o_assign rfl) ?_
  refine WPl.nil ?_
  refine EX.then ?_
  refine WP.seq ?_
  refine WP.block ?_
  refine WP.seq ?_
  refine WP.seq ?_
  refine WP.region ?_
  refine WPl.v rfl (o_fldq F26_2 rfl (lx rfl)) ?_
  refine WPl.x 7 8 rfl rfl rfl (o_ldex S24 rfl (lx rfl) (strS rfl)) ?_
  refine WPl.v rfl (o_lenq L24 rfl (lx rfl)) ?_
  refine WPl.v rfl (o_gtr rfl rfl) ?_
  refine WPl.v rfl (o_assign rfl) ?_
  refine WPl.nil ?_
  refine EX.then ?_
  refine WP.cond rfl (fun hc1 => ?_) (fun hc1 => ?_)
  · refine WP.imp (Imp.bitF 7 (b' := true) rfl hc1) ?_
    try simp only [decide_eq_true_eq, decide_eq_false_iff_not, Bool.and_eq_true, Bool.or_eq_true, Bool.and_eq_false_iff, Bool.or_eq_false_iff, Bool.not_eq_true', Bool.not_eq_false', ne_eq, Decidable.not_not] at hc1
    refine WP.skip ?_
    refine EX.then ?_
    refine WP.cond rfl (fun _ => ?_) (fun h => by cases h)
    refine WP.seq ?_
    refine WP.region ?_
    refine WPl.v rfl (o_assign rfl) ?_
    refine WPl.nil ?_
    refine EX.then ?_
    refine WP.ret ?_
    refine EX.ret_blk ?_
    refine EX.ret_then ?_
    rw [show errF f.chk = 20 from by rw [show f.chk = false from by unfold FSh.chk; rw [FSh.head_f (.inl (.inl (.inl hc1)))]; simp]; rfl]
    exact EX.fin id (.inl rfl) rfl (.tmp rfl .nil) rfl (by simp [SV.res, El.res, At.res, keys]) trivial (by simp) (by simp)
  · refine WP.imp (Imp.bitF 7 (b' := false) rfl hc1) ?_
    try simp only [decide_eq_true_eq, decide_eq_false_iff_not, Bool.and_eq_true, Bool.or_eq_true, Bool.and_eq_false_iff, Bool.or_eq_false_iff, Bool.not_eq_true', Bool.not_eq_false', ne_eq, Decidable.not_not] at hc1
    refine WP.seq ?_
    refine WP.region ?_
    refine WPl.v rfl (o_fldq F26_0 rfl (lx rfl)) ?_
    refine WPl.x 8 9 rfl rfl rfl (o_ldex S22 rfl (lx rfl) (strS rfl)) ?_
    refine WPl.v rfl (o_lenq L22 rfl (lx rfl)) ?_
    refine WPl.v rfl (o_gtr rfl rfl) ?_
    refine WPl.v rfl (o_assign rfl) ?_
    refine WPl.nil ?_
    refine EX.then ?_
    refine WP.cond rfl (fun hc3 => ?_) (fun hc3 => ?_)
    · refine WP.imp (Imp.bitF 7 (b' := true) rfl hc3) ?_
      try simp only [decide_eq_true_eq, decide_eq_false_iff_not, Bool.and_eq_true, Bool.or_eq_true, Bool.and_eq_false_iff, Bool.or_eq_false_iff, Bool.not_eq_true', Bool.not_eq_false', ne_eq, Decidable.not_not] at hc3
      refine WP.skip ?_
      refine EX.then ?_
      refine WP.cond rfl (fun _ => ?_) (fun h => by cases h)
      refine WP.seq ?_
      refine WP.region ?_
      refine WPl.v rfl (o_assign rfl) ?_
      refine WPl.nil ?_
      refine EX.then ?_
      refine WP.ret ?_
      refine EX.ret_blk ?_
      refine EX.ret_then ?_
      rw [show errF f.chk = 20 from by rw [show f.chk = false from by unfold FSh.chk; rw [FSh.head_f (.inl (.inl (.inr hc3)))]; simp]; rfl]
      exact EX.fin id (.inl rfl) rfl (.tmp rfl .nil) rfl (by simp [SV.res, El.res, At.res, keys]) trivial (by simp) (by simp)
    · refine WP.imp (Imp.bitF 7 (b' := false) rfl hc3) ?_
      try simp only [decide_eq_true_eq, decide_eq_false_iff_not, Bool.and_eq_true, Bool.or_eq_true, Bool.and_eq_false_iff, Bool.or_eq_false_iff, Bool.not_eq_true', Bool.not_eq_false', ne_eq, Decidable.not_not] at hc3
      refine WP.seq ?_
      refine WP.region ?_
      refine WPl.v rfl (o_fldq F26_1 rfl (lx rfl)) ?_
      refine WPl.x 9 10 rfl rfl rfl (o_ldex S23 rfl (lx rfl) (strS rfl)) ?_
      refine WPl.v rfl (o_lenq L23 rfl (lx rfl)) ?_
      refine WPl.v rfl (o_gtr rfl rfl) ?_
      refine WPl.v rfl (o_assign rfl) ?_
      refine WPl.nil ?_
      refine EX.then ?_
      refine WP.cond rfl (fun hc5 => ?_) (fun hc5 => ?_)
      · refine WP.imp (Imp.bitF 7 (b' := true) rfl hc5) ?_
        try simp only [decide_eq_true_eq, decide_eq_false_iff_not, Bool.and_eq_true, Bool.or_eq_true, Bool.and_eq_false_iff, Bool.or_eq_false_iff, Bool.not_eq_true', Bool.not_eq_false', ne_eq, Decidable.not_not] at hc5
        refine WP.skip ?_
        refine EX.then ?_
        refine WP.cond rfl (fun _ => ?_) (fun h => by cases h)
        refine WP.seq ?_
        refine WP.region ?_
        refine WPl.v rfl (o_assign rfl) ?_
        refine WPl.nil ?_
        refine EX.then ?_
        refine WP.ret ?_
        refine EX.ret_blk ?_
        refine EX.ret_then ?_
        rw [show errF f.chk = 20 from by rw [show f.chk = false from by unfold FSh.chk; rw [FSh.head_f (.inl (.inr hc5))]; simp]; rfl]
        exact EX.fin id (.inl rfl) rfl (.tmp rfl .nil) rfl (by simp [SV.res, El.res, At.res, keys]) trivial (by simp) (by simp)
      · refine WP.imp (Imp.bitF 7 (b' := false) rfl hc5) ?_
        try simp only [decide_eq_true_eq, decide_eq_false_iff_not, Bool.and_eq_true, Bool.or_eq_true, Bool.and_eq_false_iff, Bool.or_eq_false_iff, Bool.not_eq_true', Bool.not_eq_false', ne_eq, Decidable.not_not] at hc5
        refine WP.region ?_
        refine WPl.v rfl (o_fldq F26_3 rfl (lx rfl)) ?_
        refine WPl.v rfl (o_lde S3 rfl (lx rfl) (strI rfl)) ?_
        refine WPl.cs 10 rfl rfl rfl rfl (o_sig 10 id (c36 f.fresh 1 12) e36 rfl rfl rfl w36 trivial r36) ?_
        refine WPl.v rfl (o_not rfl) ?_
        refine WPl.v rfl (o_assign rfl) ?_
        refine WPl.nil ?_
        refine EX.then ?_
        refine WP.cond rfl (fun hc7 => ?_) (fun hc7 => ?_)
        · refine WP.imp (Imp.bitF 7 (b' := true) rfl hc7) ?_
          try simp only [decide_eq_true_eq, decide_eq_false_iff_not, Bool.and_eq_true, Bool.or_eq_true, Bool.and_eq_false_iff, Bool.or_eq_false_iff, Bool.not_eq_true', Bool.not_eq_false', ne_eq, Decidable.not_not] at hc7
          refine WP.seq ?_
          refine WP.region ?_
          refine WPl.v rfl (o_assign rfl) ?_
          refine WPl.nil ?_
          refine EX.then ?_
          refine WP.ret ?_
          refine EX.ret_blk ?_
          refine EX.ret_then ?_
          rw [show errF f.chk = 20 from by rw [show f.chk = false from by unfold FSh.chk; rw [FSh.head_f (.inr hc7)]; simp]; rfl]
          exact EX.fin id (.inl rfl) rfl (.tmp rfl .nil) rfl (by simp [SV.res, El.res, At.res, keys]) trivial (by simp) (by simp)
        · refine WP.imp (Imp.bitF 7 (b' := false) rfl hc7) ?_
          try simp only [decide_eq_true_eq, decide_eq_false_iff_not, Bool.and_eq_true, Bool.or_eq_true, Bool.and_eq_false_iff, Bool.or_eq_false_iff, Bool.not_eq_true', Bool.not_eq_false', ne_eq, Decidable.not_not] at hc7
          have hhd : f.head = true := FSh.head_t ⟨⟨⟨by omega, by omega⟩, by omega⟩, hc7⟩
          refine WP.seq ?_
          refine WP.seq ?_
          refine WP.region ?_
          refine WPl.v rfl (o_fldq F26_2 rfl (lx rfl)) ?_
          refine WPl.x 10 11 rfl rfl rfl (o_ldex S24 rfl (lx rfl) (strS rfl)) ?_
          refine WPl.imp (Imp.nam 11 12 (.func (.func 38) #[] #[]) (R := (HitI Dom.all (fun x0 => !within x0 0 12)).and (Pred.is (.func (.func 38) #[] #[]))) (fun I => FvP.namee (fun (o : Dom.all.T) => (c38 o.1)) e38 (fun _ => (by simp [SV.res, El.res, At.res, keys])) I) rfl rfl) ?_
          refine WPl.cs 12 rfl rfl rfl rfl (o_sigc 12 (ren [(0, 10), (1, 11)]) (c34 f.wants Dom.all (fun x0 => !within x0 0 12) (by omega) (fun _ _ => trivial)) e34 rfl rfl ⟨.inl rfl, .inr ⟨_, _, rfl, fun _ => rfl, (lxr rfl)⟩, trivial⟩ w34 ⟨(lx rfl), (lxl rfl), trivial⟩ r34) ?_
          refine WPl.v rfl (o_assign rfl) ?_
          refine WPl.nil ?_
          refine EX.then ?_
          refine WP.cond rfl (fun hc8 => ?_) (fun hc8 => ?_)
          · refine WP.imp (Imp.bitF 24 (b' := true) rfl hc8) ?_
            try simp only [decide_eq_true_eq, decide_eq_false_iff_not, Bool.and_eq_true, Bool.or_eq_true, Bool.and_eq_false_iff, Bool.or_eq_false_iff, Bool.not_eq_true', Bool.not_eq_false', ne_eq, Decidable.not_not] at hc8
            refine WP.skip ?_
            refine EX.then ?_
            refine WP.cond rfl (fun _ => ?_) (fun h => by cases h)
            refine WP.seq ?_
            refine WP.region ?_
            refine WPl.v rfl (o_assign rfl) ?_
            refine WPl.nil ?_
            refine EX.then ?_
            refine WP.ret ?_
            refine EX.ret_blk ?_
            refine EX.ret_then ?_
            rw [show errF f.chk = 20 from by rw [chk_want hhd (by rw [anyP, Bool.not_eq_true'] at hc8; exact hc8)]; rfl]
            exact EX.fin id (.inl rfl) rfl (.tmp rfl .nil) rfl (by simp [SV.res, El.res, At.res, keys]) trivial (by simp) (by simp)
          · refine WP.imp (Imp.bitF 24 (b' := false) rfl hc8) ?_
            try simp only [decide_eq_true_eq, decide_eq_false_iff_not, Bool.and_eq_true, Bool.or_eq_true, Bool.and_eq_false_iff, Bool.or_eq_false_iff, Bool.not_eq_true', Bool.not_eq_false', ne_eq, Decidable.not_not] at hc8
            refine WP.seq ?_
            refine WP.region ?_
            refine WPl.v rfl (o_fldq F26_0 rfl (lx rfl)) ?_
            refine WPl.x 12 13 rfl rfl rfl (o_ldex S22 rfl (lx rfl) (strS rfl)) ?_
            refine WPl.v rfl (o_move rfl) ?_
            refine WPl.cs 13 rfl rfl rfl rfl (o_sig 13 (ren [(0, 12), (1, 6)]) (c39 f.moulds (fun x0 => !x0.chk f.wants.length) (by omega)) e39 rfl rfl rfl w39 ⟨(lx rfl), (lx rfl), trivial⟩ r39) ?_
            refine WPl.v rfl (o_assign rfl) ?_
            refine WPl.nil ?_
            refine EX.then ?_
            refine WP.cond rfl (fun hc10 => ?_) (fun hc10 => ?_)
            · refine WP.imp (Imp.bitF 24 (b' := true) rfl hc10) ?_
              try simp only [decide_eq_true_eq, decide_eq_false_iff_not, Bool.and_eq_true, Bool.or_eq_true, Bool.and_eq_false_iff, Bool.or_eq_false_iff, Bool.not_eq_true', Bool.not_eq_false', ne_eq, Decidable.not_not] at hc10
              refine WP.skip ?_
              refine EX.then ?_
              refine WP.cond rfl (fun _ => ?_) (fun h => by cases h)
              refine WP.seq ?_
              refine WP.region ?_
              refine WPl.v rfl (o_assign rfl) ?_
              refine WPl.nil ?_
              refine EX.then ?_
              refine WP.ret ?_
              refine EX.ret_blk ?_
              refine EX.ret_then ?_
              rw [show errF f.chk = 20 from by rw [chk_mou (by rw [anyMo, Bool.not_eq_true'] at hc10; exact hc10)]; rfl]
              exact EX.fin id (.inl rfl) rfl (.tmp rfl .nil) rfl (by simp [SV.res, El.res, At.res, keys]) trivial (by simp) (by simp)
            · refine WP.imp (Imp.bitF 24 (b' := false) rfl hc10) ?_
              try simp only [decide_eq_true_eq, decide_eq_false_iff_not, Bool.and_eq_true, Bool.or_eq_true, Bool.and_eq_false_iff, Bool.or_eq_false_iff, Bool.not_eq_true', Bool.not_eq_false', ne_eq, Decidable.not_not] at hc10
              refine WP.region ?_
              refine WPl.v rfl (o_fldq F26_1 rfl (lx rfl)) ?_
              refine WPl.x 13 14 rfl rfl rfl (o_ldex S23 rfl (lx rfl) (strS rfl)) ?_
              refine WPl.v rfl (o_move rfl) ?_
              refine WPl.cs 14 rfl rfl rfl rfl (o_sig 14 (ren [(0, 13), (1, 5)]) (c40 f.worlds f.badW (by omega) (fun i hi => by have := hm4 i hi; omega)) e40 rfl rfl rfl w40 ⟨(lx rfl), (lx rfl), trivial⟩ r40) ?_
              refine WPl.v rfl (o_assign rfl) ?_
              refine WPl.nil ?_
              refine EX.then ?_
              refine WP.cond rfl (fun hc12 => ?_) (fun hc12 => ?_)
              · refine WP.imp (Imp.bitF 24 (b' := true) rfl hc12) ?_
                try simp only [decide_eq_true_eq, decide_eq_false_iff_not, Bool.and_eq_true, Bool.or_eq_true, Bool.and_eq_false_iff, Bool.or_eq_false_iff, Bool.not_eq_true', Bool.not_eq_false', ne_eq, Decidable.not_not] at hc12
                refine WP.seq ?_
                refine WP.region ?_
                refine WPl.v rfl (o_assign rfl) ?_
                refine WPl.nil ?_
                refine EX.then ?_
                refine WP.ret ?_
                refine EX.ret_blk ?_
                refine EX.ret_then ?_
                rw [show errF f.chk = 20 from by rw [chk_wor (by rw [anyWo, Bool.not_eq_true'] at hc12; exact hc12)]; rfl]
                exact EX.fin id (.inl rfl) rfl (.tmp rfl .nil) rfl (by simp [SV.res, El.res, At.res, keys]) trivial (by simp) (by simp)
              · refine WP.imp (Imp.bitF 24 (b' := false) rfl hc12) ?_
                try simp only [decide_eq_true_eq, decide_eq_false_iff_not, Bool.and_eq_true, Bool.or_eq_true, Bool.and_eq_false_iff, Bool.or_eq_false_iff, Bool.not_eq_true', Bool.not_eq_false', ne_eq, Decidable.not_not] at hc12
                refine WP.skip ?_
                refine EX.blk ?_
                refine EX.then ?_
                refine WP.seq ?_
                refine WP.region ?_
                refine WPl.v rfl (o_assign rfl) ?_
                refine WPl.nil ?_
                refine EX.then ?_
                refine WP.ret ?_
                rw [show errF f.chk = 0 from errF_eq.2 (by unfold FSh.chk; rw [hhd, show allI f.wanOK f.wants.length = true from by rw [anyP, Bool.not_eq_false'] at hc8; exact hc8, show allI f.mouOK f.moulds.length = true from by rw [anyMo, Bool.not_eq_false'] at hc10; exact hc10, show allI f.worOK f.worlds.length = true from by rw [anyWo, Bool.not_eq_false'] at hc12; exact hc12]; rfl)]
                exact EX.fin id (.inl rfl) rfl (.tmp rfl .nil) rfl (by simp [SV.res, El.res, At.res, keys]) trivial (by simp) (by simp)
theorem w43 {n lo : Int} : ∀ x ∈ ([.i (n), .i (lo)] : List SV), x.res (keys (α := Pred) []) := by simp [SV.res, El.res, At.res, keys]
theorem r43 {n lo : Int} : SV.res (keys (α := Pred) []) (.b (within n lo 9)) := by simp [SV.res, El.res, At.res, keys]
set_option maxHeartbeats 4000000 in
theorem c43 (n lo : Int)  : Sig Try.prog 43 [.i (n), .i (lo)] [] (.b (within n lo 9)) [] := by
  refine Sig.intro Try.func43 rfl 0 [(0, .i (n)), (1, .i (lo))] rfl w43 rfl rfl fun I w => ?_
  refine WP.seq ?_
  refine WP.region ?_
  refine WPl.v rfl (o_assign rfl) ?_
  refine WPl.nil ?_
  refine EX.then ?_
  refine WP.seq ?_
  refine WP.region ?_
  refine WPl.v rfl (o_move rfl) ?_
  refine WPl.v rfl (o_move rfl) ?_
  refine WPl.cs 0 rfl rfl rfl rfl (o_sig 0 id (c44 n lo 9) e44 rfl rfl rfl w44 trivial r44) ?_
  refine WPl.v rfl (o_assign rfl) ?_
  refine WPl.nil ?_
  refine EX.then ?_
  refine WP.ret ?_
  exact EX.fin id (.inl rfl) rfl (.tmp rfl .nil) rfl r43 trivial (by simp) (by simp)
theorem w28 {s : List Job} : ∀ x ∈ ([.e (.g [.q 0])] : List SV), x.res (keys (α := Pred) [(0, PL EJo (s))]) := by simp [SV.res, El.res, At.res, keys]
theorem r28 {s : List Job} : SV.res (keys (α := Pred) []) (.i (errP (jobsOK s))) := by simp [SV.res, El.res, At.res, keys]
set_option maxHeartbeats 4000000 in
theorem c28 (s : List Job) (hl : s.length ≤ 1000) : Sig Try.prog 28 [.e (.g [.q 0])] [(0, PL EJo (s))] (.i (errP (jobsOK s))) [] := by
  refine Sig.intro Try.func28 rfl 1 [(0, .e (.g [.q 0]))] rfl w28 rfl rfl fun I w => ?_
  refine WP.seq ?_
  refine WP.region ?_
  refine WPl.l 1 2 rfl rfl rfl (o_boxg rfl) ?_
  refine WPl.v rfl (o_assign rfl) ?_
  refine WPl.nil ?_
  refine EX.then ?_
  refine WP.seq ?_
  refine WP.seq ?_
  refine WP.region ?_
  refine WPl.v rfl (o_fldp F37_0 rfl) ?_
  refine WPl.v rfl (o_ldp S35 rfl rfl rfl) ?_
  refine WPl.v rfl (o_lenq L35 rfl (lx rfl)) ?_
  refine WPl.v rfl (o_gtr rfl rfl) ?_
  refine WPl.nil ?_
  refine EX.then ?_
  refine WP.cond rfl (fun hc1 => ?_) (fun hc1 => ?_)
  · try simp only [decide_eq_true_eq, decide_eq_false_iff_not, Bool.and_eq_true, Bool.or_eq_true, Bool.and_eq_false_iff, Bool.or_eq_false_iff, Bool.not_eq_true', Bool.not_eq_false', ne_eq, Decidable.not_not] at hc1
    refine WP.seq ?_
    refine WP.region ?_
    refine WPl.v rfl (o_assign rfl) ?_
    refine WPl.nil ?_
    refine EX.then ?_
    refine WP.ret ?_
    refine EX.ret_then ?_
    rw [show errP (jobsOK s) = 50 from by rw [show jobsOK s = false from by unfold jobsOK; rw [decide_eq_false (by omega)]; rfl]; rfl]
    exact EX.fin id (.inl rfl) rfl (.tmp rfl .nil) rfl (by simp [SV.res, El.res, At.res, keys]) trivial (by simp) (by simp)
  · try simp only [decide_eq_true_eq, decide_eq_false_iff_not, Bool.and_eq_true, Bool.or_eq_true, Bool.and_eq_false_iff, Bool.or_eq_false_iff, Bool.not_eq_true', Bool.not_eq_false', ne_eq, Decidable.not_not] at hc1
    refine WP.skip ?_
    refine EX.then ?_
    refine WP.seq ?_
    refine WP.region ?_
    refine WPl.v rfl (o_assign rfl) ?_
    refine WPl.nil ?_
    refine EX.then ?_
    refine WP.seq ?_
    refine WP.seq ?_
    refine WP.region ?_
    refine WPl.v rfl (o_fldp F37_0 rfl) ?_
    refine WPl.v rfl (o_ldp S35 rfl rfl rfl) ?_
    refine WPl.v rfl (o_lenq L35 rfl (lx rfl)) ?_
    refine WPl.v rfl (o_move rfl) ?_
    refine WPl.nil ?_
    refine EX.then ?_
    refine WP.block ?_
    refine WP.loop (Gh := Nat) (fun i => ⟨2, [(2, .i (0)), (3, .e (.a (.f 43 []))), (11, .e (.a (.q 0))), (12, .i ((s.length : Int))), (13, .i ((i : Int)))], [(0, PL EJo (s))], [], [], []⟩) (fun i => i ≤ s.length ∧ allI (jobOK s) i = true) (fun i => s.length - i) (0) id ?_ (LeR.of ⟨rfl, rfl, rfl, rfl, rfl, trivial⟩ ⟨(lx rfl), trivial⟩ trivial rfl rfl rfl rfl rfl) ?_
    · exact ⟨by omega, rfl⟩
    intro i hφ
    have hi : i ≤ s.length := hφ.1
    have hall := hφ.2
    refine WP.seq ?_
    refine WP.region ?_
    refine WPl.v rfl (o_lss rfl rfl) ?_
    refine WPl.nil ?_
    refine EX.then ?_
    refine WP.seq ?_
    refine WP.cond rfl (fun hc2 => ?_) (fun hc2 => ?_)
    · try simp only [decide_eq_true_eq, decide_eq_false_iff_not, Bool.and_eq_true, Bool.or_eq_true, Bool.and_eq_false_iff, Bool.or_eq_false_iff, Bool.not_eq_true', Bool.not_eq_false', ne_eq, Decidable.not_not] at hc2
      refine WP.skip ?_
      refine EX.then ?_
      refine WP.seq ?_
      refine WP.block ?_
      refine WP.seq ?_
      refine WP.region ?_
      refine WPl.x 2 3 rfl rfl rfl (o_idx L35 rfl (lx rfl) rfl (by first | omega | (simp; omega)) (by first | omega | (simp; omega))) ?_
      refine WPl.v rfl (o_ldqg G30 rfl (lx rfl) (strG rfl) rfl rfl) ?_
      refine WPl.l 3 4 rfl rfl rfl (o_alloc Z30) ?_
      refine WPl.s1 (o_stag G30 rfl rfl rfl ⟨rfl, rfl, rfl, rfl, rfl, rfl, trivial⟩ rfl rfl) ?_
      refine WPl.nil ?_
      refine EX.then ?_
      refine WP.seq ?_
      refine WP.region ?_
      refine WPl.v rfl (o_move rfl) ?_
      refine WPl.v rfl (o_fldp F30_0 rfl) ?_
      refine WPl.v rfl (o_ldp S3 rfl rfl rfl) ?_
      refine WPl.cs 4 rfl rfl rfl rfl (o_sigt rfl 4 id (c43 ((nth s (i : Int)).beat) 1) e43 rfl rfl rfl w43 trivial r43) ?_
      refine WPl.v rfl (o_not rfl) ?_
      refine WPl.v rfl (o_move rfl) ?_
      refine WPl.bit 4 5 (!(!(within ((nth s (i : Int)).beat) 1 9))) rfl rfl ?_
      refine WPl.gv 4 rfl rfl (.plain rfl (by first | (simp; done) | simp only [Bool.not_eq_true']) rfl) (fun hb => o_move rfl) ?_
      refine WPl.gv 4 rfl rfl (.plain rfl (by first | (simp; done) | simp only [Bool.not_eq_true']) rfl) (fun hb => o_fldp F30_2 rfl) ?_
      refine WPl.gv 4 rfl rfl (.plain rfl (by first | (simp; done) | simp only [Bool.not_eq_true']) rfl) (fun hb => o_ldp S3 rfl rfl rfl) ?_
      refine WPl.gc0 4 rfl rfl (.plain rfl (by first | (simp; done) | simp only [Bool.not_eq_true']) rfl) (fun hb => o_sigt rfl 5 id (c43 ((nth s (i : Int)).pour) 1) e43 rfl rfl rfl w43 trivial r43) ?_
      refine WPl.gv 4 rfl rfl (.plain rfl (by first | (simp; done) | simp only [Bool.not_eq_true']) rfl) (fun hb => o_not rfl) ?_
      refine WPl.v rfl (o_or rfl rfl rfl (by first | (simp; done) | exact fun h => by rw [h]; rfl | exact fun h => Bool.and_eq_true_iff.2 ⟨hb, by rw [h]; rfl⟩ | simp_all)) ?_
      refine WPl.v rfl (o_move rfl) ?_
      refine WPl.bit 5 6 (!((!(within ((nth s (i : Int)).beat) 1 9)) || (!(within ((nth s (i : Int)).pour) 1 9)))) rfl rfl ?_
      refine WPl.gv 5 rfl rfl (.plain rfl (by first | (simp; done) | simp only [Bool.not_eq_true']) rfl) (fun hb => o_move rfl) ?_
      refine WPl.gv 5 rfl rfl (.plain rfl (by first | (simp; done) | simp only [Bool.not_eq_true']) rfl) (fun hb => o_fldp F30_1 rfl) ?_
      refine WPl.gv 5 rfl rfl (.plain rfl (by first | (simp; done) | simp only [Bool.not_eq_true']) rfl) (fun hb => o_fldp F28_1 rfl) ?_
      refine WPl.gv 5 rfl rfl (.plain rfl (by first | (simp; done) | simp only [Bool.not_eq_true']) rfl) (fun hb => o_ldp S3 rfl rfl rfl) ?_
      refine WPl.gc0 5 rfl rfl (.plain rfl (by first | (simp; done) | simp only [Bool.not_eq_true']) rfl) (fun hb => o_sigt rfl 6 id (c43 ((nth s (i : Int)).hi) 0) e43 rfl rfl rfl w43 trivial r43) ?_
      refine WPl.gv 5 rfl rfl (.plain rfl (by first | (simp; done) | simp only [Bool.not_eq_true']) rfl) (fun hb => o_not rfl) ?_
      refine WPl.v rfl (o_or rfl rfl rfl (by first | (simp; done) | exact fun h => by rw [h]; rfl | exact fun h => Bool.and_eq_true_iff.2 ⟨hb, by rw [h]; rfl⟩ | simp_all)) ?_
      refine WPl.v rfl (o_move rfl) ?_
      refine WPl.bit 6 7 (!(((!(within ((nth s (i : Int)).beat) 1 9)) || (!(within ((nth s (i : Int)).pour) 1 9))) || (!(within ((nth s (i : Int)).hi) 0 9)))) rfl rfl ?_
      refine WPl.gv 6 rfl rfl (.plain rfl (by first | (simp; done) | simp only [Bool.not_eq_true']) rfl) (fun hb => o_fldp F30_1 rfl) ?_
      refine WPl.gv 6 rfl rfl (.plain rfl (by first | (simp; done) | simp only [Bool.not_eq_true']) rfl) (fun hb => o_fldp F28_0 rfl) ?_
      refine WPl.gv 6 rfl rfl (.plain rfl (by first | (simp; done) | simp only [Bool.not_eq_true']) rfl) (fun hb => o_ldp S3 rfl rfl rfl) ?_
      refine WPl.gv 6 rfl rfl (.plain rfl (by first | (simp; done) | simp only [Bool.not_eq_true']) rfl) (fun hb => o_fldp F30_1 rfl) ?_
      refine WPl.gv 6 rfl rfl (.plain rfl (by first | (simp; done) | simp only [Bool.not_eq_true']) rfl) (fun hb => o_fldp F28_1 rfl) ?_
      refine WPl.gv 6 rfl rfl (.plain rfl (by first | (simp; done) | simp only [Bool.not_eq_true']) rfl) (fun hb => o_ldp S3 rfl rfl rfl) ?_
      refine WPl.gc0 6 rfl rfl (.plain rfl (by first | (simp; done) | simp only [Bool.not_eq_true']) rfl) (fun hb => o_sig 7 id (c44 ((nth s (i : Int)).lo) 0 ((nth s (i : Int)).hi)) e44 rfl rfl rfl w44 trivial r44) ?_
      refine WPl.gv 6 rfl rfl (.plain rfl (by first | (simp; done) | simp only [Bool.not_eq_true']) rfl) (fun hb => o_not rfl) ?_
      refine WPl.v rfl (o_or rfl rfl rfl (by first | (simp; done) | exact fun h => by rw [h]; rfl | exact fun h => Bool.and_eq_true_iff.2 ⟨hb, by rw [h]; rfl⟩ | simp_all)) ?_
      refine WPl.v rfl (o_move rfl) ?_
      refine WPl.bit 7 8 (!((((!(within ((nth s (i : Int)).beat) 1 9)) || (!(within ((nth s (i : Int)).pour) 1 9))) || (!(within ((nth s (i : Int)).hi) 0 9))) || (!(within ((nth s (i : Int)).lo) 0 ((nth s (i : Int)).hi))))) rfl rfl ?_
      refine WPl.gv 7 rfl rfl (.plain rfl (by first | (simp; done) | simp only [Bool.not_eq_true']) rfl) (fun hb => o_fldp F30_3 rfl) ?_
      refine WPl.gv 7 rfl rfl (.plain rfl (by first | (simp; done) | simp only [Bool.not_eq_true']) rfl) (fun hb => o_ldp S3 rfl rfl rfl) ?_
      refine WPl.gc0 7 rfl rfl (.plain rfl (by first | (simp; done) | simp only [Bool.not_eq_true']) rfl) (fun hb => o_sig 8 id (c44 ((nth s (i : Int)).due) 0 99) e44 rfl rfl rfl w44 trivial r44) ?_
      refine WPl.gv 7 rfl rfl (.plain rfl (by first | (simp; done) | simp only [Bool.not_eq_true']) rfl) (fun hb => o_not rfl) ?_
      refine WPl.v rfl (o_or rfl rfl rfl (by first | (simp; done) | exact fun h => by rw [h]; rfl | exact fun h => Bool.and_eq_true_iff.2 ⟨hb, by rw [h]; rfl⟩ | simp_all)) ?_
      refine WPl.v rfl (o_move rfl) ?_
      refine WPl.bit 8 9 (!(((((!(within ((nth s (i : Int)).beat) 1 9)) || (!(within ((nth s (i : Int)).pour) 1 9))) || (!(within ((nth s (i : Int)).hi) 0 9))) || (!(within ((nth s (i : Int)).lo) 0 ((nth s (i : Int)).hi)))) || (!(within ((nth s (i : Int)).due) 0 99)))) rfl rfl ?_
      refine WPl.gv 8 rfl rfl (.plain rfl (by first | (simp; done) | simp only [Bool.not_eq_true']) rfl) (fun hb => o_fldp F30_4 rfl) ?_
      refine WPl.gv 8 rfl rfl (.plain rfl (by first | (simp; done) | simp only [Bool.not_eq_true']) rfl) (fun hb => o_ldp S3 rfl rfl rfl) ?_
      refine WPl.gc0 8 rfl rfl (.plain rfl (by first | (simp; done) | simp only [Bool.not_eq_true']) rfl) (fun hb => o_sig 9 id (c44 ((nth s (i : Int)).worth) 0 99) e44 rfl rfl rfl w44 trivial r44) ?_
      refine WPl.gv 8 rfl rfl (.plain rfl (by first | (simp; done) | simp only [Bool.not_eq_true']) rfl) (fun hb => o_not rfl) ?_
      refine WPl.v rfl (o_or rfl rfl rfl (by first | (simp; done) | exact fun h => by rw [h]; rfl | exact fun h => Bool.and_eq_true_iff.2 ⟨hb, by rw [h]; rfl⟩ | simp_all)) ?_
      refine WPl.nil ?_
      refine EX.then ?_
      refine WP.cond rfl (fun hc3 => ?_) (fun hc3 => ?_)
      · try simp only [decide_eq_true_eq, decide_eq_false_iff_not, Bool.and_eq_true, Bool.or_eq_true, Bool.and_eq_false_iff, Bool.or_eq_false_iff, Bool.not_eq_true', Bool.not_eq_false', ne_eq, Decidable.not_not] at hc3
        refine WP.seq ?_
        refine WP.region ?_
        refine WPl.v rfl (o_assign rfl) ?_
        refine WPl.nil ?_
        refine EX.then ?_
        refine WP.ret ?_
        refine EX.ret_blk ?_
        refine EX.ret_then ?_
        refine EX.ret_then ?_
        refine EX.ret_blk ?_
        refine EX.ret_then ?_
        rw [show errP (jobsOK s) = 50 from by rw [show jobsOK s = false from by unfold jobsOK; rw [show allI (jobOK s) s.length = false from not_allI (show i < s.length by omega) (by unfold jobOK; rw [Job.chk_eq]; simp only [Bool.and_eq_false_iff]; exact hc3)]; simp]; rfl]
        exact EX.fin id (.inl rfl) rfl (.tmp rfl .nil) rfl (by simp [SV.res, El.res, At.res, keys]) trivial (by simp) (by simp)
      · try simp only [decide_eq_true_eq, decide_eq_false_iff_not, Bool.and_eq_true, Bool.or_eq_true, Bool.and_eq_false_iff, Bool.or_eq_false_iff, Bool.not_eq_true', Bool.not_eq_false', ne_eq, Decidable.not_not] at hc3
        refine WP.skip ?_
        refine EX.blk ?_
        refine EX.then ?_
        refine WP.region ?_
        refine WPl.v rfl (o_add rfl rfl (by first | omega | (simp; omega)) (by first | omega | (simp; omega))) ?_
        refine WPl.v rfl (o_move rfl) ?_
        refine WPl.nil ?_
        refine EX.again (i + 1) id (by exact ⟨by omega, by simp only [allI, hall, Bool.true_and]; unfold jobOK; rw [Job.chk_eq]; simpa using hc3⟩) (by omega) (LeR.of ⟨rfl, rfl, rfl, rfl, rfl, trivial⟩ ⟨(lx rfl), trivial⟩ trivial rfl rfl rfl rfl rfl)
    · try simp only [decide_eq_true_eq, decide_eq_false_iff_not, Bool.and_eq_true, Bool.or_eq_true, Bool.and_eq_false_iff, Bool.or_eq_false_iff, Bool.not_eq_true', Bool.not_eq_false', ne_eq, Decidable.not_not] at hc2
      refine WP.exit ?_
      refine EX.exit_then ?_
      refine EX.exit_then ?_
      refine EX.exit_blk ?_
      refine EX.then ?_
      refine WP.seq ?_
      refine WP.region ?_
      refine WPl.v rfl (o_assign rfl) ?_
      refine WPl.nil ?_
      refine EX.then ?_
      refine WP.ret ?_
      rw [show errP (jobsOK s) = 0 from errP_eq.2 (by unfold jobsOK; rw [decide_eq_true (by omega), show s.length = i by omega, hall]; rfl)]
      exact EX.fin id (.inl rfl) rfl (.tmp rfl .nil) rfl (by simp [SV.res, El.res, At.res, keys]) trivial (by simp) (by simp)
end Go.Flong
namespace Go.Eng
open Go
def PF {α : Type} (E : EP α) (l : List α) : Pred := ⟨fun I v => (PL E l).h I v ∧ ((∃ a, v = .slice (some a) l.length l.length) ∨ (v = .slice none 0 0 ∧ l = [])), fun hI h => ⟨(PL E l).mono hI h.1, h.2⟩⟩
theorem ownsRow_zero {w : World} {b : Nat} {e : TypeId} {s n : Nat} {v : Value} {xs : List Value} (h : w.ownsRow b e s v n xs) : w.ownsRow 0 e s v n xs := by
  obtain ⟨h1, h2⟩ := h
  refine ⟨h1, ?_⟩
  rcases h2 with h | ⟨g, cap, cur, r, _, h⟩
  · exact .inl h
  · exact .inr ⟨g, cap, cur, r, Nat.zero_le _, h⟩
section ops
variable {cx : Cx} {S : St} {dst : Option Tmp} {ty : TypeId} {pos : String} {af : Array Edge} {gd : Option (Nat × Bool)}
theorem o_slice3 {x yh ym : Operand} {T e : TypeId} {j k : Nat} {α : Type} {E : EP α} {l : List α} (hT : IsSl cx.P T e E.size) (hx : S.op x = some (.e (.a (.q j)))) (hj : Has S.X j (PL E l)) (hh : S.op yh = some (.i l.length)) (hm : S.op ym = some (.i l.length)) :
    OpG cx S ⟨dst, .slice T x none (some yh) (some ym), ty, pos, af, gd⟩ ⟨.e (.a (.q k)), [k], [(k, PF E l)], [], []⟩ :=
  OpG.newq (fun _ => by simp) fun M ε I ac w hs => by
    have h := hs.eval hx
    have h3 := hs.eval hh
    have h4 := hs.eval hm
    obtain ⟨ad, cap, hv, hc, hl⟩ := hs.has hj
    simp only [SV.den, El.den, At.den, hv] at h h3 h4
    obtain ⟨hu, hsz⟩ := hT
    have hcz : (l.length : Int) ≤ cap := by omega
    have h0 : (0 : Int) ≤ l.length := by omega
    refine ⟨.slice ad l.length l.length, ⟨⟨ad, l.length, rfl, Nat.le_refl _, hl⟩, ?_⟩, ?_⟩
    · cases ad with
      | some a => exact .inl ⟨a, rfl⟩
      | none =>
        cases l with
        | nil => exact .inr ⟨rfl, rfl⟩
        | cons y t => obtain ⟨_, _, _, h, _⟩ := hl 0 (by simp); cases h
    · simp only [execOp, h, h3, h4, Option.map]
      simp [Instr.sliceAt, Instr.slice, run_underlying hu, Instr.sliceBounds, hsz, Instr.sliceBound, asIntOf, hcz, h0, hc]
      try (cases ad <;> simp [Addr.add_zero'])
theorem o_app3 {α : Type} {E : EP α} {x y : Operand} {t e e' : TypeId} {bytes k k0 k1 : Nat} {zs : List Value} {l l' : List α} (hT : RowT cx.P t e E.size bytes zs) (hE : E.one) (hx : S.op x = some (.e (.a (.q k0)))) (hk0 : Has S.X k0 (PF E l))
    (hy : S.op y = some (.e (.a (.q k1)))) (hk1 : look k1 S.L = some (.own e' E.size l'.length (RP E l'))) (hp : 0 < l'.length) (hb : (l.length + l'.length) * bytes ≤ 140737488355328) (hl : l.length + l'.length ≤ 4611686018427387904) :
    OpG cx S ⟨dst, .call { callee := .builtin .append, args := #[x, y], argTypes := #[t, t] }, ty, pos, af, gd⟩ ⟨.e (.a (.q k)), [k], [], [(k, .own e E.size (l ++ l').length (RP E (l ++ l')))], []⟩ :=
  OpG.own0 (fun _ => by simp) fun M ε I a w hs => by
    have h1 := hs.eval hx
    have h2 := hs.eval hy
    simp only [SV.den, El.den, At.den] at h1 h2
    obtain ⟨ys, h5, h6⟩ := hs.L k1 _ hk1
    obtain ⟨h7, h7'⟩ := own_spread h5 (RP.one hE h6)
    obtain ⟨hpl, hfull⟩ := hs.has hk0
    rcases hfull with ⟨ad, hv⟩ | ⟨hv, rfl⟩
    · rcases PL.spread hE hs.imm hpl with ⟨c, hn, _⟩ | ⟨news, ⟨a0, c0, hu, hlen, hadr, hone⟩, hrp, _⟩
      · rw [hv] at hn; cases hn
      · rw [hv] at hu
        cases hu
        have hcell : ∀ j y, news[j]? = some y → w.cell? (ad.add j) = some y := by
          rcases hadr with ⟨h, _⟩ | ⟨_, h, h'⟩
          · cases h
          · cases h; exact h'
        obtain ⟨a1, c1, hu1, hlen1, hadr1, hone1⟩ := h7
        rcases hadr1 with ⟨h, _⟩ | ⟨ad1, h, hcell1⟩
        · subst h
          have := h7' _ hu1; omega
        · subst h
          obtain ⟨i, z, g1, g2, g3, g4, g5⟩ := hT.i
          have hzs : z.cells.size = E.size := by rw [g5]; simpa using hT.z
          obtain ⟨v', w', r1, r2, r3⟩ := run_append_arg_grows (P := cx.P) w t ty e i z E.size bytes hT.u g1 g2 g3 g4 hzs hT.pos ad l.length l.length news hlen hcell ad1 l'.length c1 ys hlen1 hcell1 (by omega) (maxLen_ok hl) hb
          have hr := run_append_grow (P := cx.P) w t ty e i z hT.u g1 g2 ad l.length l.length news (by rw [g3]; exact hlen) hcell ad1 l'.length c1 ys (by rw [g3]; exact hlen1) hcell1 (by omega) (by have := maxLen_ok hl; simp only [maxLen] at this; omega) (growslice_fits (by omega) (by rw [g4]; exact hb))
          rw [r1] at hr
          simp only [Result.ok.injEq] at hr
          refine ⟨v', w', news ++ ys, by simp [execOp, resolve, invoke, builtin, h1, h2, hv, hu1, r1], by rw [List.length_append]; exact ownsRow_zero r2, RP.app hrp h6, Grew.of r3 ?_, fun b hb => ?_⟩
          · rw [hr.2]; show w.drawn ≤ w.drawn + 1; omega
          · rw [hr.1] at hb; simp [Value.ownBlock] at hb; omega
    · obtain ⟨v', w', h8, h9, h10, h11⟩ := run_app hT w (ty := ty) (World.ownsRow_nil w 0 e E.size) h7 h7' (maxLen_ok (by simpa using hl)) (by simpa using hb)
      refine ⟨v', w', ys, by simp [execOp, resolve, invoke, builtin, h1, h2, hv, h8], by simpa using h9, by simpa using h6, h10, fun b hb => ?_⟩
      rcases h11 with h | h
      · rw [h] at hb; cases hb
      · rw [h] at hb; cases hb; exact Nat.le_refl _
end ops
end Go.Eng
namespace Go.Eng
open Go
section
variable {cx : Cx} {S : St} {dst : Option Tmp} {ty : TypeId} {pos : String} {af : Array Edge} {gd : Option (Nat × Bool)} {x y : Operand} {t t' : TypeId}
theorem o_ishl {a b r : Int} (hx : S.op x = some (.i a)) (hy : S.op y = some (.i b)) (hb : 0 ≤ b) (hr : IntKind.i64.wrap (a * 2 ^ min b.toNat 64) = r) : OpG cx S ⟨dst, .binOp .shl t x y t', ty, pos, af, gd⟩ (.val (.i r)) :=
  o_binv (a := .int .i64 a) (b := .int .i64 b) hx hy fun w => by
    have h : ¬ b < 0 := by omega
    rw [← hr]
    show (do eqGuard BinOp.shl t x y _ _; Op.shift .shl .i64 a .i64 b : Sem Value).run cx.P w = _
    unfold Op.shift
    rw [if_neg h]; rfl
theorem o_ior {a b r : Int} (hx : S.op x = some (.i a)) (hy : S.op y = some (.i b)) (hr : IntKind.i64.wrap (BitVec.ofInt 64 a ||| BitVec.ofInt 64 b).toNat = r) :
    OpG cx S ⟨dst, .binOp .or t x y t', ty, pos, af, gd⟩ (.val (.i r)) :=
  o_binv (a := .int .i64 a) (b := .int .i64 b) hx hy fun w => by rw [← hr]; rfl
end
end Go.Eng
namespace Go.Eng
open Go
def Rounds (P : Program) (l n1 : Nat) (I0 : IH) (F0 : Nat → Prop) (Y : Nat → YI n1) (K : YI n1) (items : List Item) : Prop :=
  ∀ i it, items[i]? = some it → ∀ F I' w' us vs, (Y i).J F I' w' → I0.le I' → I'.on w' → n1 ≤ w'.heap.size → (∀ b, F0 b → F b) → it.ok F I' w' us vs → RoundR P l vs n1 F I' w' (Y (i + 1)) K
theorem GoP.knot {P : Program} {n1 : Nat} {I0 : IH} {F0 : Nat → Prop} {Y : Nat → YI n1} {K : YI n1} {ι : Type} {ok : Nat → ι → Prop} {svs cs : List SV} {X0 : ι → List (Nat × Pred)} {Xc : Nat → List (Nat × Pred)} {a : ι → Nat} {b : Nat → ι → Nat} {f : FuncId} (hen : Enters' P f)
    (h0 : ∀ i, ¬ ok 0 i) (hs : ∀ m i, ok (m + 1) i → SigG P f (svs ++ cs) (X0 i ++ Xc m) I0 F0 (Y (a i)) (Y (b (m + 1) i)) K) (hd : ∀ m i, disj (keys (Xc m)) (keys (X0 i)) = true) (hwf : ∀ i, ∀ x ∈ svs, x.res (keys (X0 i))) (hwc : ∀ m, ∀ x ∈ cs, x.res (keys (Xc m)))
    {I' : IH} {ν : Nat → Value} {u : Value} (hu : u = .func (.func f) #[] (cs.map (den0 ν)).toArray) (hc : ∀ m, (GoP P I0 F0 Y K (ok m) svs X0 a (b m)).h I' u → FactsOK ν I' (Xc m)) : ∀ m, (GoP P I0 F0 Y K (ok m) svs X0 a (b m)).h I' u
  | 0 => by subst hu; exact ⟨⟨_, _, _, rfl⟩, fun i hi => absurd hi (h0 i)⟩
  | m + 1 => by
    have ih := GoP.knot hen h0 hs hd hwf hwc hu hc m
    have h := hc m ih
    subst hu
    exact GoP.of (Xc := fun _ => Xc m) hen (hs m) (hd m) hwf (fun _ => hwc m) (fun _ _ => h)
theorem pp_cell {I : IH} {g : Nat} {u : Value} {R : Pred} (h : I.cell ⟨g, 0, none⟩ = some u) (hR : R.h I u) : (PP (EP.box R) ()).h I (.pointer (some ⟨g, 0, none⟩)) :=
  ⟨_, [u], rfl, rfl, ⟨u, rfl, hR⟩, fun j z hj => by
    cases j with
    | zero => simp only [List.getElem?_cons_zero, Option.some.injEq] at hj; subst hj; rw [Addr.add_zero']; exact h
    | succ j => simp at hj⟩
section
variable {cx : Cx} {Q : Exit → Act → World → Prop} {ops : Array Oper} {fuel : Nat} {listed : Array Bool}
theorem StepsS.one {S : St} {i : Nat} (h : StepS cx ops Q fuel listed S i) : StepsS cx ops Q fuel listed S [i] := ⟨h, trivial⟩
end
section
variable {cx : Cx} {Q : Exit → Act → World → Prop} {rest : List Oper}
variable {n : Nat} {fr : List (Nat × SV)} {X : List (Nat × Pred)} {L : List (Nat × Ent)} {D : List Nat} {G : List (Nat × Bool)}
theorem WP.knot {d4 d5 : Tmp} {id1 id2 : Nat} {c : Code} {T : TypeId} {ty4 ty5 ty6 : TypeId} {p4 p5 p6 : String} {a4 a5 a6 : Array Edge} {f : FuncId} {l' : List Operand} {svs' : List SV} {R : Pred} (hz : Zero cx.P T [.v .nilFunc]) (hT : TyS cx.P T) (hd4 : Nat.blt d4 cx.N = true) (hd5 : Nat.blt d5 cx.N = true) (hne : Nat.beq d4 d5 = false)
    (hl' : St.ops ⟨n + 1, (d4, .e (.a (.p n 0))) :: fr, X, (n, .blk [.v .nilFunc] T) :: L, D, G⟩ l' = some svs')
    (hR : ∀ ε I a w, Sat cx ε I ⟨n + 1, (d4, .e (.a (.p n 0))) :: fr, X, (n, .blk [.v .nilFunc] T) :: L, D, G⟩ a w → ∀ I', I.le I' → I'.cell ⟨ε.β n, 0, none⟩ = some (.func (.func f) #[] (svs'.map (SV.den ε)).toArray) → R.h I' (.func (.func f) #[] (svs'.map (SV.den ε)).toArray))
    (K : WPl cx (⟨some d5, .makeFunc (.func f) #[] l'.toArray, ty5, p5, a5, none⟩ :: ⟨none, .store T (.tmp d4) (.tmp d5), ty6, p6, a6, none⟩ :: rest).toArray ⟨n + 2, (d5, .e (.a (.q (n + 1)))) :: (d4, .e (.a (.q n))) :: fr, (n + 1, R) :: (n, PP (EP.box R) ()) :: X, L, D, G⟩ rest (Exit.then (c.wpIn (fen cx.r) 0 cx.P Q) Q)) :
    WP cx ⟨n, fr, X, L, D, G⟩ (.seq (.region id1 [⟨some d4, .alloc T, ty4, p4, a4, none⟩].toArray false) (.seq (.region id2 (⟨some d5, .makeFunc (.func f) #[] l'.toArray, ty5, p5, a5, none⟩ :: ⟨none, .store T (.tmp d4) (.tmp d5), ty6, p6, a6, none⟩ :: rest).toArray false) c)) Q := by
  intro ε I a w hs
  refine wpIn_seq (wpIn_region_lit ?_)
  rw [Nat.blt_eq] at hd4 hd5
  have hne' : d4 ≠ d5 := fun e => by rw [e] at hne; simp at hne
  obtain ⟨z, hz1, hz2, hz3⟩ := hz
  have hz2' := hz2 ε
  have hr1 : (execOp a.eval ⟨some d4, .alloc T, ty4, p4, a4, none⟩).run cx.P w = .ok (.value (.pointer (some ⟨w.heap.size, 0, none⟩))) (w.alloc (.cells [Value.nilFunc].toArray T)) := by
    simp [execOp, Instr.alloc, hz1, newVar, newRow, newObj, Sem.run, hz2', At.den]
  refine wpl_val rfl (fun _ => by simp) hr1 ?_
  show (Code.seq _ _).wpIn (fen cx.r) 0 cx.P Q _ _
  refine wpIn_seq (wpIn_region_lit ?_)
  have hs1 := SatM.app (d := some d4) (u := ⟨.e (.a (.p n 0)), [n], [], [(n, .blk [.v .nilFunc] T)], []⟩) (n + 1) hs (St.le.refl _) (fun k hk hlt => by
      rw [List.mem_singleton] at hk; subst hk; exact Nat.lt_irrefl _ hlt) (fun i hi => by cases hi; exact hd4) (Tr.alloc hs.imm n (.cells (([.v .nilFunc] : List At).map (At.den ε)).toArray T) undef) (newblk hs (Nat.lt_irrefl n) (cs := [.v .nilFunc]) (fun c hc => by rw [List.mem_singleton] at hc; subst hc; trivial) T undef)
  have hs1' := SatM.mono (M' := (· < n + 1)) (fun k hk => by
    rcases hk with hk | hk
    · exact Nat.lt_succ_of_lt hk
    · rw [List.mem_singleton] at hk; subst hk; exact Nat.lt_succ_self _) hs1
  simp only [SV.den, El.den, At.den, upd_same, St.app, List.nil_append, List.cons_append] at hs1'
  have hev := hs1'.evals hl'
  generalize hv : Value.func (.func f) #[] (svs'.map (SV.den ⟨Eng.upd ε.β n w.heap.size, Eng.upd ε.ν n undef, ε.γ⟩)).toArray = v
  have hRv := hR _ _ _ _ hs1'
  rw [hv] at hRv
  simp only [upd_same] at hRv
  have hr2 : (execOp (a.put (some d4) (.pointer (some ⟨w.heap.size, 0, none⟩))).eval ⟨some d5, .makeFunc (.func f) #[] l'.toArray, ty5, p5, a5, none⟩).run cx.P (w.alloc (.cells [Value.nilFunc].toArray T)) = .ok (.value v) (w.alloc (.cells [Value.nilFunc].toArray T)) := by
    simp [execOp, Instr.makeFunc, hev, ← hv]
  refine wpl_val rfl (fun _ => by simp) hr2 ?_
  have hg : (w.alloc (.cells [Value.nilFunc].toArray T)).heap[w.heap.size]? = some (.cells [Value.nilFunc].toArray T (0, 0)) := heap_alloc_new w _
  obtain ⟨w', h3, h4, h5, h6, h7, h8, h9⟩ := run_storeCells_blk cx.P w.heap.size T [v] 0 0 [Value.nilFunc] _ hg (by simp) (fun y hy => by rw [List.mem_singleton] at hy; subst hy; rw [← hv]; rfl)
  simp only [List.take_zero, List.nil_append, Nat.zero_add, Nat.add_zero, List.length_singleton, List.drop_succ_cons, List.drop_nil, List.append_nil] at h4
  have hsz : a.tmps.size = cx.N := hs.size
  have e4 : ((a.put (some d4) (.pointer (some ⟨w.heap.size, 0, none⟩))).put (some d5) v).eval (.tmp d4) = .pointer (some ⟨w.heap.size, 0, none⟩) := by
    simp [Act.eval, Act.put, Array.getElem?_setIfInBounds_ne (Ne.symm hne'), Array.getElem_setIfInBounds, Ne.symm hne', hsz, hd4]
  have e5 : ((a.put (some d4) (.pointer (some ⟨w.heap.size, 0, none⟩))).put (some d5) v).eval (.tmp d5) = v := by
    simp [Act.eval, Act.put, hsz, hd5]
  have hvc : v.cells = #[v] := by rw [← hv]; rfl
  have hr3 : (execOp ((a.put (some d4) (.pointer (some ⟨w.heap.size, 0, none⟩))).put (some d5) v).eval ⟨none, .store T (.tmp d4) (.tmp d5), ty6, p6, a6, none⟩).run cx.P (w.alloc (.cells [Value.nilFunc].toArray T)) = .ok .skip w' := by
    simp [execOp, e4, e5, Instr.storeAt, Instr.sureAddr, storeVar, hT.sz, hvc, h3]
  refine wpl_skip (fun _ => by simp) hr3 ?_
  have hold : ∀ b, b < w.heap.size → w'.heap[b]? = w.heap[b]? := fun b hb => by
    rw [h9 b (Nat.ne_of_lt hb)]; exact heap_alloc_old w _ hb
  have hI' := setI_le (o := .cells [v].toArray T (0, 0)) hs.imm
  have hcell : (setI I w.heap.size (.cells [v].toArray T (0, 0))).cell ⟨w.heap.size, 0, none⟩ = some v := by
    have := cell_setI (I := I) (g := w.heap.size) (j := 0) (l := [v]) (T := T) (z := v) rfl
    rw [Addr.add_zero'] at this; exact this
  have hRf := hRv _ hI' hcell
  have t1 := SatM.app (d := some d4) (u := ⟨.e (.a (.q n)), [n], [(n, PP (EP.box R) ())], [], []⟩) (n + 1) hs (St.le.refl _) (fun k hk hlt => by
      rw [List.mem_singleton] at hk; subst hk; exact Nat.lt_irrefl _ hlt) (fun i hi => by cases hi; exact hd4)
    (tr_set (k := n) (u := .pointer (some ⟨w.heap.size, 0, none⟩)) rfl hs.imm h4 hold h5 h6 h7 (by rw [h8]; simp))
    (new_q (R := PP (EP.box R) ()) ⟨_, [v], rfl, rfl, ⟨v, rfl, hRf⟩, fun j y hj => cell_setI hj⟩)
  have t1' := SatM.mono (M' := (· < n + 1)) (fun k hk => by
    rcases hk with hk | hk
    · exact Nat.lt_succ_of_lt hk
    · rw [List.mem_singleton] at hk; subst hk; exact Nat.lt_succ_self _) t1
  have t2 := SatM.app (d := some d5) (u := ⟨.e (.a (.q (n + 1))), [n + 1], [(n + 1, R)], [], []⟩) (n + 2) t1' (St.le.refl _) (fun k hk hlt => by
      rw [List.mem_singleton] at hk; subst hk; exact Nat.lt_irrefl _ hlt) (fun i hi => by cases hi; exact hd5)
    (ε' := ⟨ε.β, Eng.upd (Eng.upd ε.ν n (.pointer (some ⟨w.heap.size, 0, none⟩))) (n + 1) v, ε.γ⟩) (I' := setI I w.heap.size (.cells [v].toArray T (0, 0))) (w' := w')
    ⟨fun i hi => by
      have : i ≠ n + 1 := fun e => hi (by simp [e])
      exact ⟨rfl, upd_other _ _ this, rfl⟩, IH.le.rfl', t1'.imm, rfl, rfl, Out.rf, Nat.le_refl _, fun _ _ _ => rfl, fun _ _ h => .inl h⟩
    (new_q (R := R) hRf)
  have t2' := SatM.mono (M' := (· < n + 2)) (fun k hk => by
    rcases hk with hk | hk
    · exact Nat.lt_succ_of_lt hk
    · rw [List.mem_singleton] at hk; subst hk; exact Nat.lt_succ_self _) t2
  simp only [SV.den, El.den, At.den, upd_same, St.app, List.nil_append, List.cons_append] at t2'
  exact K _ _ _ _ t2'
end
end Go.Eng
namespace Go.Flong
open Go Go.Eng
def ordersF (n : Nat) : Nat → List Int → List (List Int)
  | 0, _ => []
  | m + 1, l => l :: (List.range n).flatMap fun (j : Nat) => if (j : Int) ∈ l then [] else ordersF n m (l ++ [(j : Int)])
def subF (n m : Nat) (l : List Int) (j : Nat) : List (List Int) := if (j : Int) ∈ l then [] else ordersF n m (l ++ [(j : Int)])
def posF (n m : Nat) (l : List Int) : Nat → Nat
  | 0 => 1
  | j + 1 => posF n m l j + (subF n m l j).length
theorem posF_len (n m : Nat) (l : List Int) : ∀ j, (l :: (List.range j).flatMap (subF n m l)).length = posF n m l j
  | 0 => rfl
  | j + 1 => by
    have ih := posF_len n m l j
    simp only [List.length_cons] at ih ⊢
    rw [List.range_succ, List.flatMap_append, List.length_append, posF, ← ih]
    simp; omega
theorem ordersF_len (n m : Nat) (l : List Int) : (ordersF n (m + 1) l).length = posF n m l n := posF_len n m l n
theorem posF_at (n m : Nat) (l : List Int) : ∀ k j i, j < k → i < (subF n m l j).length → (l :: (List.range k).flatMap (subF n m l))[posF n m l j + i]? = (subF n m l j)[i]?
  | 0, _, _, h, _ => by omega
  | k + 1, j, i, h, hi => by
    have e : l :: (List.range (k + 1)).flatMap (subF n m l) = (l :: (List.range k).flatMap (subF n m l)) ++ subF n m l k := by
      rw [List.range_succ, List.flatMap_append]; simp
    rw [e]
    have hl := posF_len n m l k
    by_cases hjk : j < k
    · have := posF_at n m l k j i hjk hi
      have hlt : posF n m l j + i < (l :: (List.range k).flatMap (subF n m l)).length := by
        rcases Nat.lt_or_ge (posF n m l j + i) (l :: (List.range k).flatMap (subF n m l)).length with h | h
        · exact h
        · rw [List.getElem?_eq_none h, List.getElem?_eq_getElem hi] at this; cases this
      rw [List.getElem?_append_left hlt]; exact this
    · have : j = k := by omega
      subst this
      rw [List.getElem?_append_right (by omega), hl, Nat.add_sub_cancel_left]
def AtF (O : List (List Int)) (a : Nat) (T : List (List Int)) : Prop := ∀ i, i < T.length → O[a + i]? = T[i]?
theorem AtF.root (O : List (List Int)) : AtF O 0 O := fun i _ => by rw [Nat.zero_add]
theorem AtF.head {O : List (List Int)} {a n m : Nat} {l : List Int} (h : AtF O a (ordersF n (m + 1) l)) : O[a]? = some l := by
  have := h 0 (by rw [ordersF]; simp)
  simpa [ordersF] using this
theorem AtF.sub {O : List (List Int)} {a n m j : Nat} {l : List Int} (h : AtF O a (ordersF n (m + 1) l)) (hj : j < n) (hl : (j : Int) ∉ l) : AtF O (a + posF n m l j) (ordersF n m (l ++ [(j : Int)])) := by
  have e : ordersF n m (l ++ [(j : Int)]) = subF n m l j := by unfold subF; rw [if_neg hl]
  rw [e]
  intro i hi
  have h1 := posF_at n m l n j i hj hi
  have h2 : posF n m l j + i < (ordersF n (m + 1) l).length := by
    rcases Nat.lt_or_ge (posF n m l j + i) (ordersF n (m + 1) l).length with h | h
    · exact h
    · have : (l :: (List.range n).flatMap (subF n m l))[posF n m l j + i]? = none := List.getElem?_eq_none h
      rw [this, List.getElem?_eq_getElem hi] at h1; cases h1
  rw [Nat.add_assoc, h _ h2]
  exact h1
theorem posF_in {n m j : Nat} {l : List Int} (h : (j : Int) ∈ l) : posF n m l (j + 1) = posF n m l j := by rw [posF, subF, if_pos h]; rfl
theorem posF_out {n m j : Nat} {l : List Int} (h : (j : Int) ∉ l) : posF n m l (j + 1) = posF n m l j + (ordersF n m (l ++ [(j : Int)])).length := by rw [posF, subF, if_neg h]
def freeN (n : Nat) (l : List Int) : Nat := (List.range n).countP fun (j : Nat) => decide ((j : Int) ∉ l)
theorem freeN_succ (n : Nat) (l : List Int) : freeN (n + 1) l = freeN n l + (if (n : Int) ∈ l then 0 else 1) := by
  unfold freeN
  rw [List.range_succ, List.countP_append]
  by_cases h : (n : Int) ∈ l <;> simp [h]
theorem freeN_nil : ∀ n, freeN n [] = n
  | 0 => rfl
  | n + 1 => by rw [freeN_succ, freeN_nil n]; simp
theorem freeN_ge {j : Nat} {l : List Int} : ∀ {n : Nat}, n ≤ j → freeN n (l ++ [(j : Int)]) = freeN n l
  | 0, _ => rfl
  | n + 1, h => by
    rw [freeN_succ, freeN_succ, freeN_ge (n := n) (by omega)]
    have : ((n : Int) ∈ l ++ [(j : Int)]) ↔ (n : Int) ∈ l := by
      simp only [List.mem_append, List.mem_singleton]
      constructor
      · rintro (h1 | h1)
        · exact h1
        · omega
      · exact .inl
    simp only [this]
theorem freeN_lt {j : Nat} {l : List Int} (hl : (j : Int) ∉ l) : ∀ {n : Nat}, j < n → freeN n (l ++ [(j : Int)]) + 1 = freeN n l
  | n + 1, h => by
    rw [freeN_succ, freeN_succ]
    by_cases hjn : j = n
    · subst hjn
      rw [freeN_ge (Nat.le_refl _), if_pos (by simp), if_neg hl]
    · rw [← freeN_lt hl (n := n) (by omega)]
      have : ((n : Int) ∈ l ++ [(j : Int)]) ↔ (n : Int) ∈ l := by
        simp only [List.mem_append, List.mem_singleton]
        constructor
        · rintro (h1 | h1)
          · exact h1
          · omega
        · exact .inl
      simp only [this]; omega
theorem freeN_ex {l : List Int} : ∀ {n : Nat}, 0 < freeN n l → ∃ j, j < n ∧ (j : Int) ∉ l
  | 0, h => by simp [freeN] at h
  | n + 1, h => by
    rw [freeN_succ] at h
    by_cases hn : (n : Int) ∈ l
    · rw [if_pos hn] at h
      obtain ⟨j, h1, h2⟩ := freeN_ex (n := n) (by omega)
      exact ⟨j, by omega, h2⟩
    · exact ⟨n, by omega, hn⟩
theorem ordersF_len_eq (n : Nat) : ∀ (m : Nat) (l o : List Int), o ∈ ordersF n m l → o.length + freeN n o = l.length + freeN n l
  | 0, _, _, h => by simp [ordersF] at h
  | m + 1, l, o, h => by
    rw [ordersF, List.mem_cons] at h
    rcases h with rfl | h
    · rfl
    · obtain ⟨j, hj, hjo⟩ := List.mem_flatMap.1 h
      rw [List.mem_range] at hj
      by_cases hl : (j : Int) ∈ l
      · rw [if_pos hl] at hjo; cases hjo
      · rw [if_neg hl] at hjo
        have := ordersF_len_eq n m _ o hjo
        have h2 := freeN_lt hl hj
        rw [List.length_append, List.length_singleton] at this
        omega
theorem ordersF_full (n : Nat) : ∀ (m : Nat) (l : List Int), freeN n l < m → ∃ o, o ∈ ordersF n m l ∧ o.length = l.length + freeN n l
  | 0, _, h => by omega
  | m + 1, l, h => by
    by_cases h0 : freeN n l = 0
    · exact ⟨l, by rw [ordersF]; exact List.mem_cons_self, by omega⟩
    · obtain ⟨j, hj, hl⟩ := freeN_ex (n := n) (l := l) (by omega)
      have h2 := freeN_lt hl hj
      obtain ⟨o, h3, h4⟩ := ordersF_full n m (l ++ [(j : Int)]) (by omega)
      refine ⟨o, ?_, by rw [h4, List.length_append, List.length_singleton]; omega⟩
      rw [ordersF]
      refine List.mem_cons_of_mem _ (List.mem_flatMap.2 ⟨j, List.mem_range.2 hj, ?_⟩)
      rw [if_neg hl]; exact h3
def jobsIn (n : Nat) (o : List Int) : Prop := ∀ i : Nat, i < o.length → 0 ≤ nth o (i : Int) ∧ nth o (i : Int) < n
theorem jobsIn_mem {n : Nat} {o : List Int} (h : ∀ x ∈ o, 0 ≤ x ∧ x < n) : jobsIn n o := fun i hi => h _ (nth_mem (by omega) (by omega))
theorem ordersF_jobs (n : Nat) : ∀ (m : Nat) (l o : List Int), (∀ x ∈ l, 0 ≤ x ∧ x < (n : Int)) → o ∈ ordersF n m l → ∀ x ∈ o, 0 ≤ x ∧ x < (n : Int)
  | 0, _, _, _, h => by simp [ordersF] at h
  | m + 1, l, o, hl, h => by
    rw [ordersF, List.mem_cons] at h
    rcases h with rfl | h
    · exact hl
    · obtain ⟨j, hj, hjo⟩ := List.mem_flatMap.1 h
      rw [List.mem_range] at hj
      by_cases hjl : (j : Int) ∈ l
      · rw [if_pos hjl] at hjo; cases hjo
      · rw [if_neg hjl] at hjo
        refine ordersF_jobs n m _ o (fun x hx => ?_) hjo
        rcases List.mem_append.1 hx with hx | hx
        · exact hl x hx
        · rw [List.mem_singleton] at hx; subst hx; omega
def ordersV (s : List Job) : List (List Int) := ordersF s.length (s.length + 1) []
theorem ordersV_ok {s : List Job} {o : List Int} (h : o ∈ ordersV s) : o.length ≤ s.length ∧ jobsIn s.length o := by
  have h1 := ordersF_len_eq _ _ _ _ h
  rw [freeN_nil] at h1
  exact ⟨by simp at h1; omega, jobsIn_mem (ordersF_jobs _ _ _ _ (fun x hx => by cases hx) h)⟩
theorem ordersV_at {s : List Job} {i : Nat} (h : i < (ordersV s).length) : (nth (ordersV s) (i : Int)).length ≤ s.length ∧ jobsIn s.length (nth (ordersV s) (i : Int)) := ordersV_ok (nth_mem (by omega) (by omega))
def orderItems (s : List Job) : List Eng.Item := (List.range (ordersV s).length).map fun (i : Nat) => ⟨[.e (.a (.q 0))], [(0, PZ EP.int (nth (ordersV s) (i : Int)))], []⟩
theorem orderItems_at {s : List Job} {a : Nat} {o : List Int} (h : (ordersV s)[a]? = some o) : (orderItems s)[a]? = some ⟨[.e (.a (.q 0))], [(0, PZ EP.int o)], []⟩ := by
  obtain ⟨h1, h2⟩ := List.getElem?_eq_some_iff.1 h
  rw [orderItems, List.getElem?_map, List.getElem?_range h1]
  simp only [Option.map_some]
  rw [nthG h1, h2]
def orderOk (n m : Nat) (O : List (List Int)) (i : List Int × Nat) : Prop := AtF O i.2 (ordersF n m i.1) ∧ freeN n i.1 < m ∧ i.1.length + freeN n i.1 ≤ 1000
abbrev FromP (P : Program) {n1 : Nat} (I0 : IH) (F0 : Nat → Prop) (Y : Nat → YI n1) (K : YI n1) (s : List Job) (m : Nat) : Pred :=
  GoP P I0 F0 Y K (orderOk s.length m (ordersV s)) [.e (.a (.q 0))] (fun i => [(0, PZ EP.int i.1)]) (fun i => i.2) (fun i => i.2 + (ordersF s.length m i.1).length)
theorem orderOk_sub {n m a j : Nat} {O : List (List Int)} {o : List Int} (h : orderOk n (m + 1) O (o, a)) (hj : j < n) (hl : (j : Int) ∉ o) : orderOk n m O (o ++ [(j : Int)], a + posF n m o j) := by
  obtain ⟨h1, h2, h3⟩ := h
  have h4 := freeN_lt hl hj
  refine ⟨h1.sub hj hl, ?_, ?_⟩
  · have h2 : freeN n o < m + 1 := h2
    show freeN n (o ++ [(j : Int)]) < m; omega
  · have h3 : o.length + freeN n o ≤ 1000 := h3
    show (o ++ [(j : Int)]).length + freeN n (o ++ [(j : Int)]) ≤ 1000
    rw [List.length_append, List.length_singleton]; omega
theorem orderOk_root {s : List Job} (h : s.length ≤ 1000) : orderOk s.length (s.length + 1) (ordersV s) (([] : List Int), 0) :=
  ⟨AtF.root _, by show freeN s.length [] < _; rw [freeN_nil]; omega, by show ([] : List Int).length + freeN s.length [] ≤ 1000; rw [freeN_nil]; simpa using h⟩
theorem anyG_mem {n : Int} {l : List Int} : anyG (fun x => decide (n = x)) l = decide (n ∈ l) := by
  by_cases h : n ∈ l
  · rw [decide_eq_true h]
    cases hb : anyG (fun x => decide (n = x)) l with
    | true => rfl
    | false =>
      unfold anyG at hb
      rw [Bool.not_eq_false'] at hb
      obtain ⟨i, hi, he⟩ := List.mem_iff_getElem.1 h
      have := allI_iff.1 hb i hi
      rw [missG, nthG hi, he] at this
      simp at this
  · rw [decide_eq_false h]
    unfold anyG
    rw [Bool.not_eq_false']
    refine allI_iff.2 fun i hi => ?_
    rw [missG, nthG hi]
    have : ¬ n = l[i] := fun e => h (by rw [e]; exact List.getElem_mem hi)
    simp [this]
structure Rn where
  fb : Int
  fp : Int
  sb : Int
  sp : Int
instance : Inhabited Rn := ⟨⟨0, 0, 0, 0⟩⟩
def Rn.go (r : Rn) (j : Job) : Rn := ⟨r.fb + j.beat, max r.fp (r.fb + j.beat + j.lo) + j.pour, r.sb + j.beat, max r.sp (r.sb + j.beat + j.hi) + j.pour⟩
def runTo (s : List Job) (o : List Int) : Nat → Rn
  | 0 => ⟨0, 0, 0, 0⟩
  | i + 1 => (runTo s o i).go (nth s (nth o (i : Int)))
structure Rn.B (r : Rn) (k : Int) : Prop where
  a : 0 ≤ r.fb ∧ r.fb ≤ 9 * k
  b : 0 ≤ r.fp ∧ r.fp ≤ 27 * k
  c : 0 ≤ r.sb ∧ r.sb ≤ 9 * k
  d : 0 ≤ r.sp ∧ r.sp ≤ 27 * k
theorem Rn.go_B {r : Rn} {j : Job} {k : Int} (h : r.B k) (hk : 0 ≤ k) (hj : j.B) : (r.go j).B (k + 1) := by
  obtain ⟨a, b, c, d⟩ := h
  obtain ⟨j1, j2, j3, j4, _, _⟩ := hj
  unfold Rn.go
  exact ⟨by simp only []; omega, by simp only []; omega, by simp only []; omega, by simp only []; omega⟩
def jobsB' (s : List Job) : Prop := ∀ i : Nat, i < s.length → (nth s (i : Int)).B
theorem runTo_B {s : List Job} {o : List Int} (hs : jobsB' s) (ho : jobsIn s.length o) : ∀ i : Nat, i ≤ o.length → (runTo s o i).B (i : Int)
  | 0, _ => ⟨by simp [runTo], by simp [runTo], by simp [runTo], by simp [runTo]⟩
  | i + 1, h => by
    have h1 := runTo_B hs ho i (by omega)
    have h2 := ho i (by omega)
    have h3 := hs (nth o (i : Int)).toNat (by omega)
    rw [show (((nth o (i : Int)).toNat : Nat) : Int) = nth o (i : Int) by omega] at h3
    have := Rn.go_B h1 (by omega) h3
    rw [runTo, Int.natCast_add, show ((1 : Nat) : Int) = 1 from rfl]
    exact this
def plateItems (s : List Job) (o : List Int) : List Eng.Item := (List.range o.length).map fun (i : Nat) => ⟨[.i (nth o (i : Int)), .e (.g [ai (runTo s o (i + 1)).fp, ai (runTo s o (i + 1)).sp])], [], []⟩
def timeOK (s : List Job) (o : List Int) (i : Nat) : Bool := decide ((runTo s o (i + 1)).sp ≤ (nth s (nth o (i : Int))).due)
def surM (s : List Job) (o : List Int) : Nat → Int
  | 0 => 0
  | i + 1 => if timeOK s o i = true then surM s o i + 1 else surM s o i
def surW (s : List Job) (o : List Int) : Nat → Int
  | 0 => 0
  | i + 1 => if timeOK s o i = true then surW s o i + (nth s (nth o (i : Int))).worth else surW s o i
def iShl (a b : Int) : Int := IntKind.i64.wrap (a * 2 ^ min b.toNat 64)
def iOr (a b : Int) : Int := IntKind.i64.wrap (BitVec.ofInt 64 a ||| BitVec.ofInt 64 b).toNat
def surJ (s : List Job) (o : List Int) : Nat → Int
  | 0 => 0
  | i + 1 => if timeOK s o i = true then iOr (surJ s o i) (iShl 1 (nth o (i : Int))) else surJ s o i
theorem surM_b (s : List Job) (o : List Int) : ∀ i : Nat, 0 ≤ surM s o i ∧ surM s o i ≤ i
  | 0 => by simp [surM]
  | i + 1 => by
    have := surM_b s o i
    rw [surM]; split <;> omega
theorem surW_b {s : List Job} {o : List Int} (hs : jobsB' s) (ho : jobsIn s.length o) : ∀ i : Nat, i ≤ o.length → 0 ≤ surW s o i ∧ surW s o i ≤ 99 * (i : Int)
  | 0, _ => by simp [surW]
  | i + 1, h => by
    have h1 := surW_b hs ho i (by omega)
    have h2 := ho i (by omega)
    have h3 := hs (nth o (i : Int)).toNat (by omega)
    rw [show (((nth o (i : Int)).toNat : Nat) : Int) = nth o (i : Int) by omega] at h3
    have h4 := h3.w
    rw [surW]; split <;> omega
def endOf (s : List Job) (o : List Int) : Int := (runTo s o o.length).sp
def quickTo (s : List Job) : Nat → Int × List Int
  | 0 => (0, [])
  | i + 1 => if ((nth (ordersV s) (i : Int)).length : Int) < s.length then quickTo s i else if (((quickTo s i).2.length : Int) = 0) ∨ endOf s (nth (ordersV s) (i : Int)) < (quickTo s i).1 then (endOf s (nth (ordersV s) (i : Int)), nth (ordersV s) (i : Int)) else quickTo s i
def quickV (s : List Job) : Int × List Int := quickTo s (ordersV s).length
def mostTo (s : List Job) : Nat → Int
  | 0 => 0
  | i + 1 => max (mostTo s i) (surM s (nth (ordersV s) (i : Int)) (nth (ordersV s) (i : Int)).length)
def mostV (s : List Job) : Int := mostTo s (ordersV s).length
end Go.Flong
namespace Go.Flong
open Go Go.Eng Go.Proofs
theorem e48 : Enters' Try.prog 48 := Try.call48
theorem S77 : TyS Try.prog 77 := ⟨Try.isAgg77, Try.sizeOf77⟩
theorem F57_0 : Fld Try.prog 57 0 0 := .mk Try.underlying57 rfl rfl rfl Try.sizeOf37 rfl
theorem e32 : Enters' Try.prog 32 := Try.call32
theorem R24 : RowT Try.prog 24 3 1 8 [.int .i64 0] := ⟨Try.underlying24, ⟨Try.t3, _, by kernel_rfl, rfl, rfl, rfl, rfl⟩, rfl, by decide⟩
theorem Z77 : Zero Try.prog 77 [.v (.nilFunc)] := .mk Try.zeroValue77 rfl rfl
theorem e31 : Enters' Try.prog 31 := Try.call31
theorem w48 {l : List Int} {n : Int} : ∀ x ∈ ([.e (.a (.q 0)), .i (n)] : List SV), x.res (keys (α := Pred) [(0, PL EP.int (l))]) := by simp [SV.res, El.res, At.res, keys]
theorem r48 {l : List Int} {n : Int} : SV.res (keys (α := Pred) []) (.i (idxG (fun x0 => decide (n = x0)) l)) := by simp [SV.res, El.res, At.res, keys]
set_option maxHeartbeats 4000000 in
theorem c48 (l : List Int) (n : Int) (hl : l.length ≤ 1000000) : Sig Try.prog 48 [.e (.a (.q 0)), .i (n)] [(0, PL EP.int (l))] (.i (idxG (fun x0 => decide (n = x0)) l)) [] := by
  refine Sig.intro Try.func48 rfl 1 [(0, .e (.a (.q 0))), (1, .i (n))] rfl w48 rfl rfl fun I w => ?_
  refine WP.seq ?_
  refine WP.region ?_
  refine WPl.v rfl (o_assign rfl) ?_
  refine WPl.nil ?_
  refine EX.then ?_
  refine WP.seq ?_
  refine WP.seq ?_
  refine WP.region ?_
  refine WPl.v rfl (o_move rfl) ?_
  refine WPl.v rfl (o_lenq L24 rfl (lx rfl)) ?_
  refine WPl.v rfl (o_move rfl) ?_
  refine WPl.nil ?_
  refine EX.then ?_
  refine WP.block ?_
  refine WP.loop (Gh := Nat) (fun i => ⟨1, [(0, .e (.a (.q 0))), (1, .i (n)), (4, .i (0)), (7, .i ((l.length : Int))), (8, .i ((i : Int)))], [(0, PL EP.int (l))], [], [], []⟩) (fun i => i ≤ l.length ∧ allI (missG (fun x0 => decide (n = x0)) l) i = true) (fun i => l.length - i) (0) id ?_ (LeR.of ⟨rfl, rfl, rfl, rfl, rfl, trivial⟩ ⟨(lx rfl), trivial⟩ trivial rfl rfl rfl rfl rfl) ?_
  · exact ⟨by omega, rfl⟩
  intro i hφ
  have hi : i ≤ l.length := hφ.1
  have hall := hφ.2
  refine WP.seq ?_
  refine WP.region ?_
  refine WPl.v rfl (o_lss rfl rfl) ?_
  refine WPl.nil ?_
  refine EX.then ?_
  refine WP.seq ?_
  refine WP.cond rfl (fun hc1 => ?_) (fun hc1 => ?_)
  · try simp only [decide_eq_true_eq, decide_eq_false_iff_not, Bool.and_eq_true, Bool.or_eq_true, Bool.and_eq_false_iff, Bool.or_eq_false_iff, Bool.not_eq_true', Bool.not_eq_false', ne_eq, Decidable.not_not] at hc1
    refine WP.skip ?_
    refine EX.then ?_
    refine WP.seq ?_
    refine WP.block ?_
    refine WP.seq ?_
    refine WP.region ?_
    refine WPl.v rfl (o_move rfl) ?_
    refine WPl.v rfl (o_assign rfl) ?_
    refine WPl.nil ?_
    refine EX.then ?_
    refine WP.seq ?_
    refine WP.region ?_
    refine WPl.v rfl (o_move rfl) ?_
    refine WPl.v rfl (o_move rfl) ?_
    refine WPl.v rfl (o_move rfl) ?_
    refine WPl.x 1 2 rfl rfl rfl (o_idx L24 rfl (lx rfl) rfl (by first | omega | (simp; omega)) (by first | omega | (simp; omega))) ?_
    refine WPl.v rfl (o_ldq S3 rfl (lx rfl) intc) ?_
    refine WPl.v rfl (o_eql rfl rfl) ?_
    refine WPl.nil ?_
    refine EX.then ?_
    refine WP.cond rfl (fun hc2 => ?_) (fun hc2 => ?_)
    · try simp only [decide_eq_true_eq, decide_eq_false_iff_not, Bool.and_eq_true, Bool.or_eq_true, Bool.and_eq_false_iff, Bool.or_eq_false_iff, Bool.not_eq_true', Bool.not_eq_false', ne_eq, Decidable.not_not] at hc2
      refine WP.seq ?_
      refine WP.region ?_
      refine WPl.v rfl (o_move rfl) ?_
      refine WPl.v rfl (o_assign rfl) ?_
      refine WPl.nil ?_
      refine EX.then ?_
      refine WP.ret ?_
      refine EX.ret_blk ?_
      refine EX.ret_then ?_
      refine EX.ret_then ?_
      refine EX.ret_blk ?_
      refine EX.ret_then ?_
      rw [show idxG (fun x0 => decide (n = x0)) l = (i : Int) from idxG_at (by omega) hall (decide_eq_true hc2)]
      exact EX.fin id (.inl rfl) rfl (.tmp rfl .nil) rfl (by simp [SV.res, El.res, At.res, keys]) trivial (by simp) (by simp)
    · try simp only [decide_eq_true_eq, decide_eq_false_iff_not, Bool.and_eq_true, Bool.or_eq_true, Bool.and_eq_false_iff, Bool.or_eq_false_iff, Bool.not_eq_true', Bool.not_eq_false', ne_eq, Decidable.not_not] at hc2
      refine WP.skip ?_
      refine EX.blk ?_
      refine EX.then ?_
      refine WP.region ?_
      refine WPl.v rfl (o_add rfl rfl (by first | omega | (simp; omega)) (by first | omega | (simp; omega))) ?_
      refine WPl.v rfl (o_move rfl) ?_
      refine WPl.nil ?_
      refine EX.again (i + 1) id (by exact ⟨by omega, by simp only [allI, hall, Bool.true_and, missG]; rw [decide_eq_false hc2]; rfl⟩) (by omega) (LeR.of ⟨rfl, rfl, rfl, rfl, rfl, trivial⟩ ⟨(lx rfl), trivial⟩ trivial rfl rfl rfl rfl rfl)
  · try simp only [decide_eq_true_eq, decide_eq_false_iff_not, Bool.and_eq_true, Bool.or_eq_true, Bool.and_eq_false_iff, Bool.or_eq_false_iff, Bool.not_eq_true', Bool.not_eq_false', ne_eq, Decidable.not_not] at hc1
    refine WP.exit ?_
    refine EX.exit_then ?_
    refine EX.exit_then ?_
    refine EX.exit_blk ?_
    refine EX.then ?_
    refine WP.seq ?_
    refine WP.region ?_
    refine WPl.v rfl (o_assign rfl) ?_
    refine WPl.nil ?_
    refine EX.then ?_
    refine WP.ret ?_
    rw [show idxG (fun x0 => decide (n = x0)) l = -1 from idxG_none (by rw [show l.length = i by omega]; exact hall)]
    exact EX.fin id (.inl rfl) rfl (.tmp rfl .nil) rfl (by simp [SV.res, El.res, At.res, keys]) trivial (by simp) (by simp)
theorem w32T {l : List Int} {n : Int} : ∀ x ∈ ([.e (.a (.q 0)), .i (n)] : List SV), x.res (keys (α := Pred) [(0, PL EP.int (l))]) := by simp [SV.res, El.res, At.res, keys]
theorem r32T  : SV.res (keys (α := Pred) []) (.b (true)) := by simp [SV.res, El.res, At.res, keys]
set_option maxHeartbeats 4000000 in
theorem c32T (l : List Int) (n : Int) (hl : l.length ≤ 1000000) (hm : n ∈ l) : Sig Try.prog 32 [.e (.a (.q 0)), .i (n)] [(0, PL EP.int (l))] (.b (true)) [] := by
  refine Sig.intro Try.func32 rfl 1 [(0, .e (.a (.q 0))), (1, .i (n))] rfl w32T rfl rfl fun I w => ?_
  refine WP.seq ?_
  refine WP.region ?_
  refine WPl.v rfl (o_assign rfl) ?_
  refine WPl.nil ?_
  refine EX.then ?_
  refine WP.seq ?_
  refine WP.region ?_
  refine WPl.v rfl (o_move rfl) ?_
  refine WPl.v rfl (o_move rfl) ?_
  refine WPl.cs 1 rfl rfl rfl rfl (o_sig 1 (ren [(0, 0)]) (c48 l n (by omega)) e48 rfl rfl rfl w48 ⟨(lx rfl), trivial⟩ r48) ?_
  refine WPl.v rfl (o_geq rfl rfl) ?_
  refine WPl.v rfl (o_assign rfl) ?_
  refine WPl.nil ?_
  refine EX.then ?_
  refine WP.ret ?_
  rw [idxG_any, anyG_mem, decide_eq_true hm]
  exact EX.fin id (.inl rfl) rfl (.tmp rfl .nil) rfl (by simp [SV.res, El.res, At.res, keys]) trivial (by simp) (by simp)
theorem w32F {l : List Int} {n : Int} : ∀ x ∈ ([.e (.a (.q 0)), .i (n)] : List SV), x.res (keys (α := Pred) [(0, PL EP.int (l))]) := by simp [SV.res, El.res, At.res, keys]
theorem r32F  : SV.res (keys (α := Pred) []) (.b (false)) := by simp [SV.res, El.res, At.res, keys]
set_option maxHeartbeats 4000000 in
theorem c32F (l : List Int) (n : Int) (hl : l.length ≤ 1000000) (hm : n ∉ l) : Sig Try.prog 32 [.e (.a (.q 0)), .i (n)] [(0, PL EP.int (l))] (.b (false)) [] := by
  refine Sig.intro Try.func32 rfl 1 [(0, .e (.a (.q 0))), (1, .i (n))] rfl w32F rfl rfl fun I w => ?_
  refine WP.seq ?_
  refine WP.region ?_
  refine WPl.v rfl (o_assign rfl) ?_
  refine WPl.nil ?_
  refine EX.then ?_
  refine WP.seq ?_
  refine WP.region ?_
  refine WPl.v rfl (o_move rfl) ?_
  refine WPl.v rfl (o_move rfl) ?_
  refine WPl.cs 1 rfl rfl rfl rfl (o_sig 1 (ren [(0, 0)]) (c48 l n (by omega)) e48 rfl rfl rfl w48 ⟨(lx rfl), trivial⟩ r48) ?_
  refine WPl.v rfl (o_geq rfl rfl) ?_
  refine WPl.v rfl (o_assign rfl) ?_
  refine WPl.nil ?_
  refine EX.then ?_
  refine WP.ret ?_
  rw [idxG_any, anyG_mem, decide_eq_false hm]
  exact EX.fin id (.inl rfl) rfl (.tmp rfl .nil) rfl (by simp [SV.res, El.res, At.res, keys]) trivial (by simp) (by simp)
theorem w31 {n1 l : Nat} {I0 : IH} {F0 : Nat → Prop} {Y : Nat → YI n1} {K : YI n1} {s : List Job} {m : Nat} {o : List Int} : ∀ x ∈ ([.e (.a (.q 0)), .e (.a (.q 1)), .e (.a (.q 2)), .e (.a (.q 3))] : List SV), x.res (keys (α := Pred) [(0, PZ EP.int (o)), (1, PP (EP.box (Pred.is (yv l))) ()), (2, PP ESj (s)), (3, PP (EP.box (FromP (n1 := n1) (Try.prog) I0 F0 Y K s m)) ())]) := by simp [SV.res, El.res, At.res, keys]
set_option maxHeartbeats 4000000 in
theorem c31 (n1 l : Nat) (I0 : IH) (F0 : Nat → Prop) (Y : Nat → YI n1) (K : YI n1) (s : List Job) (m : Nat) (o : List Int) (a : Nat) (hround : Rounds Try.prog l n1 I0 F0 Y K (orderItems s)) (hs : s.length ≤ 1000) (hk : orderOk s.length (m + 1) (ordersV s) (o, a)) : SigG Try.prog 31 [.e (.a (.q 0)), .e (.a (.q 1)), .e (.a (.q 2)), .e (.a (.q 3))] [(0, PZ EP.int (o)), (1, PP (EP.box (Pred.is (yv l))) ()), (2, PP ESj (s)), (3, PP (EP.box (FromP (n1 := n1) (Try.prog) I0 F0 Y K s m)) ())] I0 F0 (Y (a)) (Y (a + (ordersF s.length (m + 1) o).length)) K := by
  have hol : o.length ≤ 1000 := by have h : o.length + freeN s.length o ≤ 1000 := hk.2.2; omega
  refine SigG.intro Try.func31 rfl 5 4 [(0, .e (.a (.q 0))), (1, .e (.a (.q 1))), (2, .e (.a (.q 2))), (3, .e (.a (.q 3)))] rfl w31 rfl rfl rfl fun I w F hI0 hn1 hF => ?_
  have hE : ∀ c, F c → F c := fun _ h => h
  refine WP.seq ?_
  refine WP.region ?_
  refine WPl.v rfl (o_assign rfl) ?_
  refine WPl.nil ?_
  refine EX.then ?_
  refine WP.seq ?_
  refine WP.seq ?_
  refine WP.region ?_
  refine WPl.v rfl (o_ldqis S77 rfl (lx rfl)) ?_
  refine WPl.v rfl (o_move rfl) ?_
  refine WPl.yield (Y' := Y (a + 1)) (K' := K) 4 rfl rfl rfl rfl rfl rfl (yieldG (ky := 4) (J := [0]) (it := ⟨[.e (.a (.q 0))], [(0, PZ EP.int (o))], []⟩) (ren [(0, 0)]) (hround (a) _ (orderItems_at (AtF.head hk.1))) hI0 hn1 rfl (hF) SvsOK.rf (by simp [SV.res, El.res, At.res, keys]) ⟨(lx rfl), trivial⟩ trivial) fun by9 F1 hF1 => ?_
  have hF : ∀ c, F0 c → F1 c := fun c hc => hF1 c (hF c hc)
  have hE : ∀ c, F c → F1 c := fun c hc => hF1 c (hE c hc)
  cases by9
  · skip
    refine WPl.v rfl (o_not rfl) ?_
    refine WPl.nil ?_
    refine EX.then ?_
    refine WP.cond rfl (fun _ => ?_) (fun h => by cases h)
    refine WP.seq ?_
    refine WP.region ?_
    refine WPl.v rfl (o_assign rfl) ?_
    refine WPl.nil ?_
    refine EX.then ?_
    refine WP.ret ?_
    refine EX.ret_then ?_
    exact EX.finG false 4 (.inl rfl) rfl (.tmp rfl .nil) rfl hE rfl (by simp) (by simp)
  · skip
    refine WPl.v rfl (o_not rfl) ?_
    refine WPl.nil ?_
    refine EX.then ?_
    refine WP.cond rfl (fun h => by cases h) (fun _ => ?_)
    refine WP.skip ?_
    refine EX.then ?_
    refine WP.seq ?_
    refine WP.seq ?_
    refine WP.region ?_
    refine WPl.v rfl (o_fldq F57_0 rfl (lx rfl)) ?_
    refine WPl.v rfl (o_flde F37_0 rfl (lx rfl)) ?_
    refine WPl.x 5 6 rfl rfl rfl (o_ldex S35 rfl (lx rfl) (strS rfl)) ?_
    refine WPl.v rfl (o_lenq L35 rfl (lx rfl)) ?_
    refine WPl.v rfl (o_move rfl) ?_
    refine WPl.nil ?_
    refine EX.then ?_
    refine WP.block ?_
    refine WP.loop (Gh := Nat × (Nat → Prop)) (fun (⟨j, Fj⟩ : Nat × (Nat → Prop)) => ⟨6, [(0, .e (.a (.q 0))), (3, .e (.a (.q 3))), (5, .b (false)), (14, .i ((s.length : Int))), (15, .i ((j : Int)))], [(0, PZ EP.int (o)), (3, PP (EP.box (FromP (n1 := n1) (Try.prog) I0 F0 Y K s m)) ())], [(4, .ext ((Y (a + posF s.length m o j)).xp Fj))], [], []⟩) (fun (⟨j, Fj⟩ : Nat × (Nat → Prop)) => j ≤ s.length ∧ (∀ c, F0 c → Fj c) ∧ ∀ c, F c → Fj c) (fun (⟨j, Fj⟩ : Nat × (Nat → Prop)) => s.length - j) ((0, F1)) id ?_ (LeR.of ⟨rfl, rfl, rfl, rfl, rfl, trivial⟩ ⟨(lx rfl), (lx rfl), trivial⟩ ⟨rfl, trivial⟩ rfl rfl rfl rfl rfl) ?_
    · exact ⟨by omega, hF, hE⟩
    rintro ⟨j, Fj⟩ hφ
    obtain ⟨hj, hF, hE⟩ : j ≤ s.length ∧ (∀ c, F0 c → Fj c) ∧ ∀ c, F c → Fj c := hφ
    refine WP.seq ?_
    refine WP.region ?_
    refine WPl.v rfl (o_lss rfl rfl) ?_
    refine WPl.nil ?_
    refine EX.then ?_
    refine WP.seq ?_
    refine WP.cond rfl (fun hc2 => ?_) (fun hc2 => ?_)
    · try simp only [decide_eq_true_eq, decide_eq_false_iff_not, Bool.and_eq_true, Bool.or_eq_true, Bool.and_eq_false_iff, Bool.or_eq_false_iff, Bool.not_eq_true', Bool.not_eq_false', ne_eq, Decidable.not_not] at hc2
      refine WP.skip ?_
      refine EX.then ?_
      refine WP.seq ?_
      refine WP.block ?_
      refine WP.seq ?_
      refine WP.region ?_
      refine WPl.v rfl (o_move rfl) ?_
      refine WPl.v rfl (o_assign rfl) ?_
      refine WPl.nil ?_
      refine EX.then ?_
      refine WP.seq ?_
      by_cases hin : (j : Int) ∈ o
      · skip
        refine WP.draw (nf := 6) [⟨[19], [], [], [], []⟩, ⟨[18], [], [], [], []⟩, ⟨[], [], [], [], [0, 1]⟩, ⟨[], [], [], [], [0, 1, 2]⟩, ⟨[], [], [], [], [0, 1, 2, 3]⟩, ⟨[24, 25, 26, 27, 28, 29, 30, 31, 32], [], [], [], [0, 1, 2, 3, 4]⟩, ⟨[23, 25, 26, 27, 28, 30, 31], [], [], [], [0, 1, 2, 3, 4]⟩, ⟨[23, 24, 27, 28, 30, 31], [], [], [], [0, 1, 2, 3, 4]⟩, ⟨[23, 24, 27, 28, 30, 31], [], [], [], [0, 1, 2, 3, 4, 7]⟩, ⟨[23, 24, 25, 26, 30, 31], [], [], [], [0, 1, 2, 3, 4]⟩, ⟨[23, 24, 25, 26, 30, 31], [], [], [], [0, 1, 2, 3, 4, 9]⟩, ⟨[23, 30, 31], [], [], [], [0, 1, 2, 3, 4, 6, 7, 8, 9, 10]⟩, ⟨[23, 24, 25, 26, 27, 28, 29], [], [], [], [0, 1, 2, 3, 4]⟩, ⟨[23, 24, 25, 26, 27, 28, 29], [], [], [], [0, 1, 2, 3, 4, 12]⟩, ⟨[23], [], [], [], [0, 1, 2, 3, 4, 6, 7, 8, 9, 10, 11, 12, 13]⟩, ⟨[], [], [], [], [0, 1, 2, 3, 4, 5, 6, 7, 8, 9, 10, 11, 12, 13, 14]⟩, ⟨[], [], [], [], [0, 1, 2, 3, 4, 5, 6, 7, 8, 9, 10, 11, 12, 13, 14, 15]⟩, ⟨[], [], [], [], [0, 1, 2, 3, 4, 5, 6, 7, 8, 9, 10, 11, 12, 13, 14, 15, 16]⟩] (by kernel_rfl) (by kernel_rfl) ?_
        refine DRQ.v rfl rfl rfl (o_move rfl) ?_
        refine DRQ.v rfl rfl rfl (o_move rfl) ?_
        refine DRQ.cs rfl rfl rfl rfl (o_sig 6 (ren [(0, 0)]) (c32T o (j : Int) (by omega) hin) e32 rfl rfl rfl w32T ⟨(lxz rfl), trivial⟩ r32T) ?_
        refine DRQ.v rfl rfl rfl (o_not rfl) ?_
        refine DRQ.v rfl rfl rfl (o_move rfl) ?_
        refine DRQ.off rfl ⟨_, _, rfl, rfl, rfl⟩ rfl ?_
        refine DRQ.off rfl ⟨_, _, rfl, rfl, rfl⟩ rfl ?_
        refine DRQ.off rfl ⟨_, _, rfl, rfl, rfl⟩ rfl ?_
        refine DRQ.off rfl ⟨_, _, rfl, rfl, rfl⟩ rfl ?_
        refine DRQ.off rfl ⟨_, _, rfl, rfl, rfl⟩ rfl ?_
        refine DRQ.off rfl ⟨_, _, rfl, rfl, rfl⟩ rfl ?_
        refine DRQ.off rfl ⟨_, _, rfl, rfl, rfl⟩ rfl ?_
        refine DRQ.off rfl ⟨_, _, rfl, rfl, rfl⟩ rfl ?_
        refine DRQ.off rfl ⟨_, _, rfl, rfl, rfl⟩ rfl ?_
        refine DRQ.off rfl ⟨_, _, rfl, rfl, rfl⟩ rfl ?_
        refine DRQ.off rfl ⟨_, _, rfl, rfl, rfl⟩ rfl ?_
        refine DRQ.off rfl ⟨_, _, rfl, rfl, rfl⟩ rfl ?_
        refine DRQ.v rfl rfl rfl (o_pickF rfl rfl) ?_
        refine DRQ.nil' ?_
        refine EX.then ?_
        refine WP.cond rfl (fun h => by cases h) (fun _ => ?_)
        refine WP.skip ?_
        refine EX.blk ?_
        refine EX.then ?_
        refine WP.region ?_
        refine WPl.v rfl (o_add rfl rfl (by first | omega | (simp; omega)) (by first | omega | (simp; omega))) ?_
        refine WPl.v rfl (o_move rfl) ?_
        refine WPl.nil ?_
        refine EX.again ((j + 1, Fj)) id (by exact ⟨by omega, hF, hE⟩) (by first | omega | (dsimp only; omega) | (simp only []; omega)) (LeR.of ⟨rfl, rfl, rfl, rfl, rfl, trivial⟩ ⟨(lx rfl), (lx rfl), trivial⟩ ⟨(congrArg (fun z => some (Ent.ext ((Y z).xp Fj))) (show a + posF s.length m o j = a + posF s.length m o (j + 1) from by rw [posF_in hin])), trivial⟩ rfl rfl rfl rfl rfl)
      · skip
        refine WP.draw2 (nf := 10) 15 [⟨[19], [], [], [], []⟩, ⟨[18], [], [], [], []⟩, ⟨[], [], [], [], [0, 1]⟩, ⟨[], [], [], [], [0, 1, 2]⟩, ⟨[], [], [], [], [0, 1, 2, 3]⟩, ⟨[24, 25, 26, 27, 28, 29, 30, 31, 32], [7, 8, 9], [6], [6], [0, 1, 2, 3, 4]⟩, ⟨[23, 25, 26, 27, 28, 30, 31], [6, 8], [], [], [0, 1, 2, 3, 4]⟩, ⟨[23, 24, 27, 28, 30, 31], [6, 8], [], [], [0, 1, 2, 3, 4]⟩, ⟨[23, 24, 27, 28, 30, 31], [6, 8], [], [], [0, 1, 2, 3, 4, 7]⟩, ⟨[23, 24, 25, 26, 30, 31], [6, 8], [], [], [0, 1, 2, 3, 4]⟩, ⟨[23, 24, 25, 26, 30, 31], [6, 8], [], [], [0, 1, 2, 3, 4, 9]⟩, ⟨[23, 30, 31], [6, 8], [7], [7], [0, 1, 2, 3, 4, 6, 7, 8, 9, 10]⟩, ⟨[23, 24, 25, 26, 27, 28, 29], [6, 7], [], [], [0, 1, 2, 3, 4]⟩, ⟨[23, 24, 25, 26, 27, 28, 29], [6, 7], [8], [8], [0, 1, 2, 3, 4, 12]⟩, ⟨[23], [6], [9], [9], [0, 1, 2, 3, 4, 6, 7, 8, 9, 10, 11, 12, 13]⟩, ⟨[], [], [], [], [0, 1, 2, 3, 4, 5, 6, 7, 8, 9, 10, 11, 12, 13, 14]⟩, ⟨[], [], [], [], [0, 1, 2, 3, 4, 5, 6, 7, 8, 9, 10, 11, 12, 13, 14, 15]⟩, ⟨[], [], [], [], [0, 1, 2, 3, 4, 5, 6, 7, 8, 9, 10, 11, 12, 13, 14, 15, 16]⟩] #[true, true, true, true, true, true, true, true, true, true, true, true, true, true, true, false, false, false] (by kernel_rfl) (by kernel_rfl) ⟨by kernel_rfl, by kernel_rfl⟩ ?_
        refine DRQ.v rfl rfl rfl (o_move rfl) ?_
        refine DRQ.v rfl rfl rfl (o_move rfl) ?_
        refine DRQ.cs rfl rfl rfl rfl (o_sig 6 (ren [(0, 0)]) (c32F o (j : Int) (by omega) hin) e32 rfl rfl rfl w32F ⟨(lxz rfl), trivial⟩ r32F) ?_
        refine DRQ.v rfl rfl rfl (o_not rfl) ?_
        refine DRQ.v rfl rfl rfl (o_move rfl) ?_
        refine DRQ.x 6 rfl ⟨_, _, rfl, rfl, rfl⟩ rfl rfl (o_ldqx S77 rfl (lx rfl) boxx) ?_
        refine DRQ.v rfl ⟨_, _, rfl, rfl, rfl⟩ rfl (o_move rfl) ?_
        refine DRQ.v rfl ⟨_, _, rfl, rfl, rfl⟩ rfl (o_move rfl) ?_
        refine DRQ.v rfl ⟨_, _, rfl, rfl, rfl⟩ rfl (o_lenq L24 rfl (lxz rfl)) ?_
        refine DRQ.v rfl ⟨_, _, rfl, rfl, rfl⟩ rfl (o_move rfl) ?_
        refine DRQ.v rfl ⟨_, _, rfl, rfl, rfl⟩ rfl (o_lenq L24 rfl (lxz rfl)) ?_
        refine DRQ.x 7 rfl ⟨_, _, rfl, rfl, rfl⟩ rfl rfl (o_slice3 L24 rfl (lxz rfl) rfl rfl) ?_
        refine DRQ.v rfl ⟨_, _, rfl, rfl, rfl⟩ rfl (o_move rfl) ?_
        refine DRQ.l 8 rfl ⟨_, _, rfl, rfl, rfl⟩ rfl rfl (o_bsl (E := EP.int) (l := [(j : Int)]) R24 rfl rfl (.cons (rfl) rfl (eok_int) (.nil)) rfl rfl) ?_
        refine DRQ.x 9 rfl ⟨_, _, rfl, rfl, rfl⟩ rfl rfl (OpG.settle0 (o_app3 R24 EP.int_one rfl (lx rfl) rfl rfl (by simp) (by first | omega | (simp; omega) | (simp at *; omega)) (by first | omega | (simp; omega) | (simp at *; omega)))) ?_
        refine DRQ.nil' (EX.rest ?_)
        refine AnyS.step 15 [] (by kernel_rfl) (StepsS.one ?_)
        refine StepS.callG (Y' := Y (a + posF s.length m o j + (ordersF s.length m (o ++ [(j : Int)])).length)) (K' := K) 4 rfl rfl ⟨_, _, rfl, rfl, rfl⟩ rfl rfl rfl (by refine goH (I0 := I0) (F0 := F0) (Y := Y) (K := K) (a := fun i => i.2) (b := fun i => i.2 + (ordersF s.length m i.1).length) (ky := 4) (svs := [.e (.a (.q 0))]) (X0 := fun (i : List Int × Nat) => [(0, PZ EP.int i.1)]) (ren [(0, 9)]) ((o ++ [(j : Int)], a + posF s.length m o j)) ?_ (orderOk_sub hk (by omega) hin) ?_ ?_ ?_ ?_ ?_ ?_ ?_; (exact (lx rfl)); (exact hI0); (exact hn1); (exact rfl); (exact hF); (exact SvsOK.rf); (simp [SV.res, El.res, At.res, keys]); (exact ⟨(Has.of (lx rfl) (PZ.of (by simp))), trivial⟩)) fun b33 F2 hF2 => ?_
        have hF : ∀ c, F0 c → F2 c := fun c hc => hF2 c (hF c hc)
        have hE : ∀ c, F c → F2 c := fun c hc => hF2 c (hE c hc)
        cases b33
        · skip
          refine AnyS.step 16 [] (by kernel_rfl) (StepsS.one ?_)
          refine StepS.on rfl rfl ⟨_, _, rfl, rfl, rfl⟩ (o_not rfl) ?_
          refine AnyS.step 17 [] (by kernel_rfl) (StepsS.one ?_)
          refine StepS.v rfl rfl (o_pickT rfl rfl) ?_
          refine AnyS.done (by kernel_rfl) ?_
          refine EX.then ?_
          refine WP.cond rfl (fun _ => ?_) (fun h => by cases h)
          refine WP.seq ?_
          refine WP.region ?_
          refine WPl.v rfl (o_assign rfl) ?_
          refine WPl.nil ?_
          refine EX.then ?_
          refine WP.ret ?_
          refine EX.ret_blk ?_
          refine EX.ret_then ?_
          refine EX.ret_then ?_
          refine EX.ret_blk ?_
          refine EX.ret_then ?_
          exact EX.finG false 4 (.inl rfl) rfl (.tmp rfl .nil) rfl hE rfl (by simp) (by simp)
        · skip
          refine AnyS.step 16 [] (by kernel_rfl) (StepsS.one ?_)
          refine StepS.on rfl rfl ⟨_, _, rfl, rfl, rfl⟩ (o_not rfl) ?_
          refine AnyS.step 17 [] (by kernel_rfl) (StepsS.one ?_)
          refine StepS.v rfl rfl (o_pickT rfl rfl) ?_
          refine AnyS.done (by kernel_rfl) ?_
          refine EX.then ?_
          refine WP.cond rfl (fun h => by cases h) (fun _ => ?_)
          refine WP.skip ?_
          refine EX.blk ?_
          refine EX.then ?_
          refine WP.region ?_
          refine WPl.v rfl (o_add rfl rfl (by first | omega | (simp; omega)) (by first | omega | (simp; omega))) ?_
          refine WPl.v rfl (o_move rfl) ?_
          refine WPl.nil ?_
          refine EX.again ((j + 1, F2)) id (by exact ⟨by omega, hF, hE⟩) (by first | omega | (dsimp only; omega) | (simp only []; omega)) (LeR.of ⟨rfl, rfl, rfl, rfl, rfl, trivial⟩ ⟨(lx rfl), (lx rfl), trivial⟩ ⟨(congrArg (fun z => some (Ent.ext ((Y z).xp F2))) (show a + posF s.length m o j + (ordersF s.length m (o ++ [(j : Int)])).length = a + posF s.length m o (j + 1) from by rw [posF_out hin, Nat.add_assoc])), trivial⟩ rfl rfl rfl rfl rfl)
    · try simp only [decide_eq_true_eq, decide_eq_false_iff_not, Bool.and_eq_true, Bool.or_eq_true, Bool.and_eq_false_iff, Bool.or_eq_false_iff, Bool.not_eq_true', Bool.not_eq_false', ne_eq, Decidable.not_not] at hc2
      refine WP.exit ?_
      refine EX.exit_then ?_
      refine EX.exit_then ?_
      refine EX.exit_blk ?_
      refine EX.then ?_
      refine WP.seq ?_
      refine WP.region ?_
      refine WPl.v rfl (o_assign rfl) ?_
      refine WPl.nil ?_
      refine EX.then ?_
      refine WP.ret ?_
      have hend : (ordersF s.length (m + 1) o).length = posF s.length m o j := by rw [ordersF_len, show j = s.length by omega]
      exact EX.finG (Y := Y (a + (ordersF s.length (m + 1) o).length)) (K := K) true 4 (.inl rfl) rfl (.tmp rfl .nil) rfl hE (by rw [hend]; rfl) (by simp) (by simp)
theorem w22 {s : List Job} : ∀ x ∈ ([.e (.g [.q 0])] : List SV), x.res (keys (α := Pred) [(0, PL EJo (s))]) := by simp [SV.res, El.res, At.res, keys]
set_option maxHeartbeats 4000000 in
theorem c22 (s : List Job) (hs : s.length ≤ 1000) : SigJ Try.prog 22 [.e (.g [.q 0])] [(0, PL EJo (s))] (orderItems s) := by
  refine SigJ.intro Try.func22 rfl 2 1 w22 rfl rfl rfl fun I w l Y K F0 hround => ?_
  have hF : ∀ c, F0 c → F0 c := fun _ h => h
  have hI0 : IH.le I I := IH.le.rfl'
  have hn1 : w.heap.size ≤ w.heap.size := Nat.le_refl _
  refine WP.seq ?_
  refine WP.region ?_
  refine WPl.x 2 3 rfl rfl rfl (o_boxq (cs := [.q 0]) (E := ESj) (y := s) rfl (fun _ _ _ _ _ _ => rfl) (bok_str ⟨⟨_, rfl, (lx rfl)⟩, trivial⟩)) ?_
  refine WPl.x 3 4 rfl rfl rfl (o_boxq (cs := [.v (yv l)]) (E := EP.box (Pred.is (yv l))) (y := ()) rfl (fun _ _ _ _ _ _ => rfl) (bok_con)) ?_
  refine WPl.nil ?_
  refine EX.then ?_
  refine WP.knot (R := FromP (n1 := w.heap.size) (Try.prog) I F0 Y K s (s.length + 1)) Z77 S77 rfl rfl rfl rfl (fun ε I1 a1 w1 hs1 I2 hle hcell => GoP.knot (ok := fun m => orderOk s.length m (ordersV s)) (cs := [.e (.a (.q 1)), .e (.a (.q 2)), .e (.a (.q 3))]) (b := fun m i => i.2 + (ordersF s.length m i.1).length) (Xc := fun m => [(1, PP (EP.box (Pred.is (yv l))) ()), (2, PP ESj s), (3, PP (EP.box (FromP Try.prog I F0 Y K s m)) ())]) e31 (fun i h => Nat.not_lt_zero _ h.2.1) (fun m i hi => c31 _ l I F0 Y K s m i.1 i.2 hround hs hi) (fun _ _ => rfl) (fun _ => by simp [SV.res, El.res, At.res, keys]) (fun _ => by simp [SV.res, El.res, At.res, keys]) (ν := fun j => match j with | 1 => ε.ν 3 | 2 => ε.ν 2 | _ => .pointer (some ⟨ε.β 4, 0, none⟩)) rfl (fun m h => ⟨(PP (EP.box (Pred.is (yv l))) ()).mono hle (hs1.has (lx rfl)), (PP ESj s).mono hle (hs1.has (lx rfl)), pp_cell hcell h, trivial⟩) (s.length + 1)) ?_
  refine WPl.nil ?_
  refine EX.then ?_
  refine WP.region ?_
  refine WPl.x 6 7 rfl rfl rfl (o_ldqx S77 rfl (lx rfl) boxx) ?_
  refine WPl.imp (Imp.nam 7 8 (.slice none 0 0) (R := (PZ EP.int []).and (Pred.is (.slice none 0 0))) (fun I => ⟨pz_ok I, rfl⟩) rfl rfl) ?_
  refine WPl.callG (Y' := Y (0 + (ordersF s.length (s.length + 1) []).length)) (K' := K) 1 rfl rfl rfl rfl rfl (by refine goH (I0 := I) (F0 := F0) (Y := Y) (K := K) (a := fun i => i.2) (b := fun i => i.2 + (ordersF s.length (s.length + 1) i.1).length) (ky := 1) (svs := [.e (.a (.q 0))]) (X0 := fun (i : List Int × Nat) => [(0, PZ EP.int i.1)]) (ren [(0, 7)]) ((([] : List Int), 0)) ?_ (orderOk_root hs) ?_ ?_ ?_ ?_ ?_ ?_ ?_; (exact (lx rfl)); (exact hI0); (exact hn1); (exact rfl); (exact hF); (exact ⟨.inr ⟨_, _, rfl, fun _ => rfl, (lxr rfl)⟩, trivial⟩); (simp [SV.res, El.res, At.res, keys]); (exact ⟨(lxl rfl), trivial⟩)) fun b7 F1 hF1 => ?_
  have hF : ∀ c, F0 c → F1 c := fun c hc => hF1 c (hF c hc)
  cases b7
  · skip
    refine WPl.nil ?_
    exact EX.finI (.inr rfl) rfl rfl (ky := 1) (Y := K) rfl (fun _ _ h => .inr h)
  · skip
    refine WPl.nil ?_
    have hend : 0 + (ordersF s.length (s.length + 1) []).length = (orderItems s).length := by rw [Nat.zero_add, orderItems, List.length_map, List.length_range]; rfl
    exact EX.finI (.inr rfl) rfl rfl (ky := 1) (Y := Y (0 + (ordersF s.length (s.length + 1) []).length)) rfl (fun _ _ h => .inl (by rw [hend] at h; exact h))
end Go.Flong
namespace Go.Flong
open Go Go.Eng Go.Proofs
theorem Z89 : Zero Try.prog 89 [ai (0), ai (0)] := .mk Try.zeroValue89 rfl rfl
theorem F89_0 : Fld Try.prog 89 0 0 := .mk Try.underlying89 rfl rfl rfl Try.sizeOf3 rfl
theorem F89_1 : Fld Try.prog 89 1 1 := .mk Try.underlying89 rfl rfl rfl Try.sizeOf3 rfl
theorem G89 : TyG Try.prog 89 2 := ⟨Try.isAgg89, Try.sizeOf89⟩
theorem Z91 : Zero Try.prog 91 [ai (0), ai (0), ai (0), ai (0)] := .mk Try.zeroValue91 rfl rfl
theorem F91_0 : Fld Try.prog 91 0 0 := .mk Try.underlying91 rfl rfl rfl Try.sizeOf89 rfl
theorem e52 : Enters' Try.prog 52 := Try.call52
theorem F91_1 : Fld Try.prog 91 1 2 := .mk Try.underlying91 rfl rfl rfl Try.sizeOf89 rfl
theorem B91 : BldT Try.prog 91 [(0, 2), (2, 2)] [.int .i64 0, .int .i64 0, .int .i64 0, .int .i64 0] := BldT.mk (ns := [2, 2]) Try.underlying91 ⟨Try.sizeOf89, Try.sizeOf89, trivial⟩ rfl Try.zeroValue91 rfl
theorem G91 : TyG Try.prog 91 4 := ⟨Try.isAgg91, Try.sizeOf91⟩
theorem Z28 : Zero Try.prog 28 [ai (0), ai (0)] := .mk Try.zeroValue28 rfl rfl
theorem B28 : BldT Try.prog 28 [(0, 1), (1, 1)] [.int .i64 0, .int .i64 0] := BldT.mk (ns := [1, 1]) Try.underlying28 ⟨Try.sizeOf3, Try.sizeOf3, trivial⟩ rfl Try.zeroValue28 rfl
theorem e46 : Enters' Try.prog 46 := Try.call46
theorem e47 : Enters' Try.prog 47 := Try.call47
theorem e45 : Enters' Try.prog 45 := Try.call45
theorem Z3 : Zero Try.prog 3 [ai (0)] := .mk Try.zeroValue3 rfl rfl
theorem G57 : TyG Try.prog 57 1 := ⟨Try.isAgg57, Try.sizeOf57⟩
theorem e29 : Enters' Try.prog 29 := Try.call29
theorem Z24 : Zero Try.prog 24 [.v (.slice none 0 0)] := .mk Try.zeroValue24 rfl rfl
theorem e22 : Enters' Try.prog 22 := Try.call22
theorem e30 : Enters' Try.prog 30 := Try.call30
theorem Z57 : Zero Try.prog 57 [.v (.slice none 0 0)] := .mk Try.zeroValue57 rfl rfl
theorem G37 : TyG Try.prog 37 1 := ⟨Try.isAgg37, Try.sizeOf37⟩
theorem B57 : BldT Try.prog 57 [(0, 1)] [.slice none 0 0] := BldT.mk (ns := [1]) Try.underlying57 ⟨Try.sizeOf37, trivial⟩ rfl Try.zeroValue57 rfl
theorem e28 : Enters' Try.prog 28 := Try.call28
theorem e20 : Enters' Try.prog 20 := Try.call20
theorem e21 : Enters' Try.prog 21 := Try.call21
theorem e23 : Enters' Try.prog 23 := Try.call23
theorem w52 {b p : Int} {j : Job} {d : Int} : ∀ x ∈ ([.e (.g [ai (b), ai (p)]), .e (.g [ai (j.beat), ai (j.lo), ai (j.hi), ai (j.pour), ai (j.due), ai (j.worth)]), .i (d)] : List SV), x.res (keys (α := Pred) []) := by simp [SV.res, El.res, At.res, keys]
theorem r52 {b p : Int} {j : Job} {d : Int} : SV.res (keys (α := Pred) []) (.e (.g [ai (b + j.beat), ai (max p (b + j.beat + d) + j.pour)])) := by simp [SV.res, El.res, At.res, keys]
set_option maxHeartbeats 4000000 in
theorem c52 (b p : Int) (j : Job) (d : Int) (hb : 0 ≤ b ∧ b ≤ 100000) (hp : 0 ≤ p ∧ p ≤ 100000) (hj : j.B) (hd : 0 ≤ d ∧ d ≤ 9) : Sig Try.prog 52 [.e (.g [ai (b), ai (p)]), .e (.g [ai (j.beat), ai (j.lo), ai (j.hi), ai (j.pour), ai (j.due), ai (j.worth)]), .i (d)] [] (.e (.g [ai (b + j.beat), ai (max p (b + j.beat + d) + j.pour)])) [] := by
  have hj1 := hj.b
  have hj2 := hj.p
  refine Sig.intro Try.func52 rfl 0 [(0, .e (.g [ai (b), ai (p)])), (1, .e (.g [ai (j.beat), ai (j.lo), ai (j.hi), ai (j.pour), ai (j.due), ai (j.worth)])), (2, .i (d))] rfl w52 rfl rfl fun I w => ?_
  refine WP.seq ?_
  refine WP.region ?_
  refine WPl.l 0 1 rfl rfl rfl (o_boxg rfl) ?_
  refine WPl.l 1 2 rfl rfl rfl (o_boxg rfl) ?_
  refine WPl.l 2 3 rfl rfl rfl (o_alloc Z89) ?_
  refine WPl.nil ?_
  refine EX.then ?_
  refine WP.seq ?_
  refine WP.region ?_
  refine WPl.v rfl (o_fldp F89_0 rfl) ?_
  refine WPl.v rfl (o_ldp S3 rfl rfl rfl) ?_
  refine WPl.v rfl (o_fldp F30_0 rfl) ?_
  refine WPl.v rfl (o_ldp S3 rfl rfl rfl) ?_
  refine WPl.v rfl (o_add rfl rfl (by first | omega | (simp; omega)) (by first | omega | (simp; omega))) ?_
  refine WPl.v rfl (o_fldp F89_0 rfl) ?_
  refine WPl.s1 (o_sta S3 rfl rfl rfl rfl rfl) ?_
  refine WPl.nil ?_
  refine EX.then ?_
  refine WP.seq ?_
  refine WP.region ?_
  refine WPl.v rfl (o_fldp F89_1 rfl) ?_
  refine WPl.v rfl (o_ldp S3 rfl rfl rfl) ?_
  refine WPl.v rfl (o_fldp F89_0 rfl) ?_
  refine WPl.v rfl (o_ldp S3 rfl rfl rfl) ?_
  refine WPl.v rfl (o_move rfl) ?_
  refine WPl.v rfl (o_add rfl rfl (by first | omega | (simp; omega)) (by first | omega | (simp; omega))) ?_
  refine WPl.v rfl (o_max rfl rfl) ?_
  refine WPl.v rfl (o_fldp F30_2 rfl) ?_
  refine WPl.v rfl (o_ldp S3 rfl rfl rfl) ?_
  refine WPl.v rfl (o_add rfl rfl (by first | omega | (simp; omega)) (by first | omega | (simp; omega))) ?_
  refine WPl.v rfl (o_fldp F89_1 rfl) ?_
  refine WPl.s1 (o_sta S3 rfl rfl rfl rfl rfl) ?_
  refine WPl.nil ?_
  refine EX.then ?_
  refine WP.seq ?_
  refine WP.region ?_
  refine WPl.v rfl (o_ldpa G89 rfl rfl rfl) ?_
  refine WPl.s1 (o_stag G89 rfl rfl rfl ⟨rfl, rfl, trivial⟩ rfl rfl) ?_
  refine WPl.nil ?_
  refine EX.then ?_
  refine WP.ret ?_
  exact EX.fin id (.inl rfl) rfl (.cellg G89 rfl rfl rfl (.nil)) rfl r52 trivial (by simp) (by simp)
theorem w46 {r : Rn} {j : Job} : ∀ x ∈ ([.e (.g [ai (r.fb), ai (r.fp), ai (r.sb), ai (r.sp)]), .e (.g [ai (j.beat), ai (j.lo), ai (j.hi), ai (j.pour), ai (j.due), ai (j.worth)])] : List SV), x.res (keys (α := Pred) []) := by simp [SV.res, El.res, At.res, keys]
theorem r46 {r : Rn} {j : Job} : SV.res (keys (α := Pred) []) (.e (.g [ai ((r.go j).fb), ai ((r.go j).fp), ai ((r.go j).sb), ai ((r.go j).sp)])) := by simp [SV.res, El.res, At.res, keys]
set_option maxHeartbeats 4000000 in
theorem c46 (r : Rn) (j : Job) (hr : ∃ k : Int, r.B k ∧ 0 ≤ k ∧ k ≤ 1000) (hj : j.B) : Sig Try.prog 46 [.e (.g [ai (r.fb), ai (r.fp), ai (r.sb), ai (r.sp)]), .e (.g [ai (j.beat), ai (j.lo), ai (j.hi), ai (j.pour), ai (j.due), ai (j.worth)])] [] (.e (.g [ai ((r.go j).fb), ai ((r.go j).fp), ai ((r.go j).sb), ai ((r.go j).sp)])) [] := by
  obtain ⟨k, ⟨ha, hb, hc, hd⟩, hk⟩ := hr
  have hj1 := hj.h
  have hj2 := hj.l
  refine Sig.intro Try.func46 rfl 0 [(0, .e (.g [ai (r.fb), ai (r.fp), ai (r.sb), ai (r.sp)])), (1, .e (.g [ai (j.beat), ai (j.lo), ai (j.hi), ai (j.pour), ai (j.due), ai (j.worth)]))] rfl w46 rfl rfl fun I w => ?_
  refine WP.seq ?_
  refine WP.region ?_
  refine WPl.l 0 1 rfl rfl rfl (o_boxg rfl) ?_
  refine WPl.l 1 2 rfl rfl rfl (o_boxg rfl) ?_
  refine WPl.l 2 3 rfl rfl rfl (o_alloc Z91) ?_
  refine WPl.nil ?_
  refine EX.then ?_
  refine WP.seq ?_
  refine WP.draw (nf := 3) [⟨[7, 8, 9, 10, 12, 13, 14, 15, 16, 17], [], [], [], []⟩, ⟨[7, 8, 9, 10, 12, 13, 14, 15, 16, 17], [], [], [], [0]⟩, ⟨[5, 6, 8, 9, 10, 12, 13, 14, 15, 16, 17], [], [], [], []⟩, ⟨[5, 6, 7, 12, 13, 14, 15, 16, 17], [], [], [], []⟩, ⟨[5, 6, 7, 12, 13, 14, 15, 16, 17], [], [], [], [3]⟩, ⟨[5, 6, 7, 12, 13, 14, 15, 16, 17], [], [], [], [3, 4]⟩, ⟨[12, 13, 14, 15, 16, 17], [], [], [], [0, 1, 2, 3, 4, 5]⟩, ⟨[5, 6, 7, 8, 9, 10, 11, 14, 15, 16, 17], [], [], [], []⟩, ⟨[5, 6, 7, 8, 9, 10, 11, 14, 15, 16, 17], [], [], [], [7]⟩, ⟨[5, 6, 7, 8, 9, 10, 11, 12, 13, 15, 16, 17], [], [], [], []⟩, ⟨[5, 6, 7, 8, 9, 10, 11, 12, 13, 14], [], [], [], []⟩, ⟨[5, 6, 7, 8, 9, 10, 11, 12, 13, 14], [], [], [], [10]⟩, ⟨[5, 6, 7, 8, 9, 10, 11, 12, 13, 14], [], [], [], [10, 11]⟩, ⟨[], [], [], [], [0, 1, 2, 3, 4, 5, 6, 7, 8, 9, 10, 11, 12]⟩, ⟨[], [], [], [], [0, 1, 2, 3, 4, 5, 6, 7, 8, 9, 10, 11, 12, 13]⟩, ⟨[], [], [], [2], [0, 1, 2, 3, 4, 5, 6, 7, 8, 9, 10, 11, 12, 13, 14]⟩] (by kernel_rfl) (by kernel_rfl) ?_
  refine DRQ.v rfl rfl rfl (o_fldp F91_0 rfl) ?_
  refine DRQ.v rfl rfl rfl (o_ldpg G89 rfl rfl rfl) ?_
  refine DRQ.v rfl rfl rfl (o_ldpa G30 rfl rfl rfl) ?_
  refine DRQ.v rfl rfl rfl (o_fldp F30_1 rfl) ?_
  refine DRQ.v rfl rfl rfl (o_fldp F28_0 rfl) ?_
  refine DRQ.v rfl rfl rfl (o_ldp S3 rfl rfl rfl) ?_
  refine DRQ.cs rfl rfl rfl rfl (o_sig 3 id (c52 r.fb r.fp j j.lo (by omega) (by omega) hj (by omega)) e52 rfl rfl rfl w52 trivial r52) ?_
  refine DRQ.v rfl rfl rfl (o_fldp F91_1 rfl) ?_
  refine DRQ.v rfl rfl rfl (o_ldpg G89 rfl rfl rfl) ?_
  refine DRQ.v rfl rfl rfl (o_ldpa G30 rfl rfl rfl) ?_
  refine DRQ.v rfl rfl rfl (o_fldp F30_1 rfl) ?_
  refine DRQ.v rfl rfl rfl (o_fldp F28_1 rfl) ?_
  refine DRQ.v rfl rfl rfl (o_ldp S3 rfl rfl rfl) ?_
  refine DRQ.cs rfl rfl rfl rfl (o_sig 3 id (c52 r.sb r.sp j j.hi (by omega) (by omega) hj (by omega)) e52 rfl rfl rfl w52 trivial r52) ?_
  refine DRQ.v rfl rfl rfl (o_build B91 rfl trivial rfl rfl) ?_
  refine DRQ.s 2 rfl rfl rfl (o_stag G91 rfl rfl rfl ⟨rfl, rfl, rfl, rfl, trivial⟩ rfl rfl) ?_
  refine DRQ.nil' ?_
  refine EX.then ?_
  refine WP.ret ?_
  exact EX.fin id (.inl rfl) rfl (.cellg G91 rfl rfl rfl (.nil)) rfl r46 trivial (by simp) (by simp)
theorem w47 {r : Rn} : ∀ x ∈ ([.e (.g [ai (r.fb), ai (r.fp), ai (r.sb), ai (r.sp)])] : List SV), x.res (keys (α := Pred) []) := by simp [SV.res, El.res, At.res, keys]
theorem r47 {r : Rn} : SV.res (keys (α := Pred) []) (.e (.g [ai (r.fp), ai (r.sp)])) := by simp [SV.res, El.res, At.res, keys]
set_option maxHeartbeats 4000000 in
theorem c47 (r : Rn)  : Sig Try.prog 47 [.e (.g [ai (r.fb), ai (r.fp), ai (r.sb), ai (r.sp)])] [] (.e (.g [ai (r.fp), ai (r.sp)])) [] := by
  refine Sig.intro Try.func47 rfl 0 [(0, .e (.g [ai (r.fb), ai (r.fp), ai (r.sb), ai (r.sp)]))] rfl w47 rfl rfl fun I w => ?_
  refine WP.seq ?_
  refine WP.region ?_
  refine WPl.l 0 1 rfl rfl rfl (o_boxg rfl) ?_
  refine WPl.l 1 2 rfl rfl rfl (o_alloc Z28) ?_
  refine WPl.nil ?_
  refine EX.then ?_
  refine WP.seq ?_
  refine WP.region ?_
  refine WPl.v rfl (o_fldp F91_0 rfl) ?_
  refine WPl.v rfl (o_fldp F89_1 rfl) ?_
  refine WPl.v rfl (o_ldp S3 rfl rfl rfl) ?_
  refine WPl.v rfl (o_fldp F91_1 rfl) ?_
  refine WPl.v rfl (o_fldp F89_1 rfl) ?_
  refine WPl.v rfl (o_ldp S3 rfl rfl rfl) ?_
  refine WPl.v rfl (o_build B28 rfl ⟨rfl, rfl, trivial⟩ rfl rfl) ?_
  refine WPl.s1 (o_stag G28 rfl rfl rfl ⟨rfl, rfl, trivial⟩ rfl rfl) ?_
  refine WPl.nil ?_
  refine EX.then ?_
  refine WP.ret ?_
  exact EX.fin id (.inl rfl) rfl (.cellg G28 rfl rfl rfl (.nil)) rfl r47 trivial (by simp) (by simp)
theorem w45 {s : List Job} {o : List Int} : ∀ x ∈ ([.e (.a (.q 0)), .e (.a (.q 1))] : List SV), x.res (keys (α := Pred) [(0, PP (EP.box (PL EP.int (o))) ()), (1, PP ESj (s))]) := by simp [SV.res, El.res, At.res, keys]
set_option maxHeartbeats 4000000 in
theorem c45 (s : List Job) (o : List Int) (hs : jobsB' s) (hl : s.length ≤ 6) (ho : jobsIn s.length o) (hol : o.length ≤ s.length) : SigI Try.prog 45 [.e (.a (.q 0)), .e (.a (.q 1))] [(0, PP (EP.box (PL EP.int (o))) ()), (1, PP ESj (s))] (plateItems s o) := by
  refine SigI.intro Try.func45 rfl 3 2 w45 rfl rfl rfl fun I w l Y K F0 hround => ?_
  have hF : ∀ c, F0 c → F0 c := fun _ h => h
  refine WP.seq ?_
  refine WP.region ?_
  refine WPl.l 3 4 rfl rfl rfl (o_alloc Z91) ?_
  refine WPl.nil ?_
  refine EX.then ?_
  refine WP.seq ?_
  refine WP.region ?_
  refine WPl.x 4 5 rfl rfl rfl (o_ldqx S24 rfl (lx rfl) boxx) ?_
  refine WPl.v rfl (o_lenq L24 rfl (lx rfl)) ?_
  refine WPl.v rfl (o_move rfl) ?_
  refine WPl.nil ?_
  refine EX.then ?_
  refine WP.block ?_
  refine WP.loop (Gh := Nat × (Nat → Prop)) (fun (⟨i, F⟩ : Nat × (Nat → Prop)) => ⟨5, [(0, .e (.a (.v (yv l)))), (2, .e (.a (.q 1))), (4, .e (.a (.p 3 (0)))), (7, .e (.a (.q 4))), (8, .i ((o.length : Int))), (9, .i ((i : Int)))], [(1, PP ESj (s)), (4, PL EP.int (o))], [(2, .ext ((Y i).xp F)), (3, .blk [ai ((runTo s o i).fb), ai ((runTo s o i).fp), ai ((runTo s o i).sb), ai ((runTo s o i).sp)] 91)], [], []⟩) (fun (⟨i, F⟩ : Nat × (Nat → Prop)) => i ≤ o.length ∧ ∀ c, F0 c → F c) (fun (⟨i, F⟩ : Nat × (Nat → Prop)) => o.length - i) ((0, F0)) id ?_ (LeR.of ⟨rfl, rfl, rfl, rfl, rfl, rfl, trivial⟩ ⟨(lx rfl), (lx rfl), trivial⟩ ⟨rfl, rfl, trivial⟩ rfl rfl rfl rfl rfl) ?_
  · exact ⟨by omega, fun _ h => h⟩
  rintro ⟨i, F⟩ hφ
  obtain ⟨hi, hF⟩ : i ≤ o.length ∧ ∀ c, F0 c → F c := hφ
  refine WP.seq ?_
  refine WP.region ?_
  refine WPl.v rfl (o_lss rfl rfl) ?_
  refine WPl.nil ?_
  refine EX.then ?_
  refine WP.seq ?_
  refine WP.cond rfl (fun hc1 => ?_) (fun hc1 => ?_)
  · try simp only [decide_eq_true_eq, decide_eq_false_iff_not, Bool.and_eq_true, Bool.or_eq_true, Bool.and_eq_false_iff, Bool.or_eq_false_iff, Bool.not_eq_true', Bool.not_eq_false', ne_eq, Decidable.not_not] at hc1
    refine WP.skip ?_
    refine EX.then ?_
    refine WP.seq ?_
    refine WP.block ?_
    refine WP.seq ?_
    refine WP.region ?_
    refine WPl.x 5 6 rfl rfl rfl (o_idx L24 rfl (lx rfl) rfl (by first | omega | (simp; omega)) (by first | omega | (simp; omega))) ?_
    refine WPl.v rfl (o_ldq S3 rfl (lx rfl) intc) ?_
    refine WPl.v rfl (o_assign rfl) ?_
    refine WPl.nil ?_
    refine EX.then ?_
    refine WP.seq ?_
    refine WP.draw (nf := 8) [⟨[14, 15, 16, 17, 18, 19], [6, 7], [], [], []⟩, ⟨[13, 17], [], [], [], []⟩, ⟨[13, 17], [], [], [], [1]⟩, ⟨[13, 17], [], [6], [6], [1, 2]⟩, ⟨[13, 14, 15, 16], [6], [], [], []⟩, ⟨[13], [], [7], [7], [1, 2, 3, 4]⟩, ⟨[13], [], [], [], [1, 2, 3, 4, 5]⟩, ⟨[], [], [], [], [0, 1, 2, 3, 4, 5, 6]⟩, ⟨[], [], [], [3], [0, 1, 2, 3, 4, 5, 6, 7]⟩] (by kernel_rfl) (by kernel_rfl) ?_
    have ho1 := ho i (by omega)
    have hjb := hs (nth o (i : Int)).toNat (by omega)
    rw [show (((nth o (i : Int)).toNat : Nat) : Int) = nth o (i : Int) by omega] at hjb
    refine DRQ.v rfl rfl rfl (o_ldpa G91 rfl rfl rfl) ?_
    refine DRQ.v rfl rfl rfl (o_fldq F57_0 rfl (lx rfl)) ?_
    refine DRQ.v rfl rfl rfl (o_flde F37_0 rfl (lx rfl)) ?_
    refine DRQ.x 6 rfl rfl rfl rfl (o_ldex S35 rfl (lx rfl) (strS rfl)) ?_
    refine DRQ.v rfl rfl rfl (o_move rfl) ?_
    refine DRQ.x 7 rfl rfl rfl rfl (o_idx L35 rfl (lx rfl) rfl (by first | omega | (simp; omega)) (by first | omega | (simp; omega))) ?_
    refine DRQ.v rfl rfl rfl (o_ldqg G30 rfl (lx rfl) (strG rfl) rfl rfl) ?_
    refine DRQ.cs rfl rfl rfl rfl (o_sig 8 id (c46 (runTo s o i) (nth s (nth o (i : Int))) ⟨(i : Int), runTo_B hs ho i (by omega), by omega, by omega⟩ hjb) e46 rfl rfl rfl w46 trivial r46) ?_
    refine DRQ.s 3 rfl rfl rfl (o_stag G91 rfl rfl rfl ⟨rfl, rfl, rfl, rfl, trivial⟩ rfl rfl) ?_
    refine DRQ.nil' ?_
    refine EX.then ?_
    refine WP.seq ?_
    refine WP.region ?_
    refine WPl.v rfl (o_move rfl) ?_
    refine WPl.v rfl (o_move rfl) ?_
    refine WPl.v rfl (o_ldpa G91 rfl rfl rfl) ?_
    refine WPl.cs 8 rfl rfl rfl rfl (o_sig 8 id (c47 (runTo s o (i + 1))) e47 rfl rfl rfl w47 trivial r47) ?_
    refine WPl.yield (Y' := Y (i + 1)) (K' := K) 2 rfl rfl rfl rfl rfl rfl (yieldH (ky := 2) (J := []) (it := ⟨[.i (nth o (i : Int)), .e (.g [ai ((runTo s o (i + 1)).fp), ai ((runTo s o (i + 1)).sp)])], [], []⟩) id (hround (i) _ (range_at (by omega))) rfl (hF) SvsOK.rf (by simp [SV.res, El.res, At.res, keys]) trivial trivial) fun by25 F1 hF1 => ?_
    have hF : ∀ c, F0 c → F1 c := fun c hc => hF1 c (hF c hc)
    cases by25
    · skip
      refine WPl.v rfl (o_not rfl) ?_
      refine WPl.nil ?_
      refine EX.then ?_
      refine WP.cond rfl (fun _ => ?_) (fun h => by cases h)
      refine WP.ret ?_
      refine EX.ret_blk ?_
      refine EX.ret_then ?_
      refine EX.ret_then ?_
      refine EX.ret_blk ?_
      exact EX.finI (.inl rfl) rfl rfl (ky := 2) (Y := K) rfl (fun _ _ h => .inr h)
    · skip
      refine WPl.v rfl (o_not rfl) ?_
      refine WPl.nil ?_
      refine EX.then ?_
      refine WP.cond rfl (fun h => by cases h) (fun _ => ?_)
      refine WP.skip ?_
      refine EX.blk ?_
      refine EX.then ?_
      refine WP.region ?_
      refine WPl.v rfl (o_add rfl rfl (by first | omega | (simp; omega)) (by first | omega | (simp; omega))) ?_
      refine WPl.v rfl (o_move rfl) ?_
      refine WPl.nil ?_
      refine EX.again ((i + 1, F1)) id (by exact ⟨by omega, hF⟩) (by first | omega | (dsimp only; omega) | (simp only []; omega)) (LeR.of ⟨rfl, rfl, rfl, rfl, rfl, rfl, trivial⟩ ⟨(lx rfl), (lx rfl), trivial⟩ ⟨rfl, rfl, trivial⟩ rfl rfl rfl rfl rfl)
  · try simp only [decide_eq_true_eq, decide_eq_false_iff_not, Bool.and_eq_true, Bool.or_eq_true, Bool.and_eq_false_iff, Bool.or_eq_false_iff, Bool.not_eq_true', Bool.not_eq_false', ne_eq, Decidable.not_not] at hc1
    refine WP.exit ?_
    refine EX.exit_then ?_
    refine EX.exit_then ?_
    refine EX.exit_blk ?_
    have hend : i = (plateItems s o).length := by simp [plateItems]; omega
    exact EX.finI (.inr rfl) rfl rfl (ky := 2) (Y := Y (i)) rfl (fun _ _ h => .inl (by rw [hend] at h; exact h))
theorem w29 {s : List Job} {o : List Int} : ∀ x ∈ ([.e (.g [.q 0]), .e (.a (.q 1))] : List SV), x.res (keys (α := Pred) [(0, PL EJo (s)), (1, PL EP.int (o))]) := by simp [SV.res, El.res, At.res, keys]
theorem r29 {s : List Job} {o : List Int} : SV.res (keys (α := Pred) [(0, ItP Try.prog (plateItems s o))]) (.e (.a (.q 0))) := by simp [SV.res, El.res, At.res, keys]
set_option maxHeartbeats 4000000 in
theorem c29 (s : List Job) (o : List Int) (hs : jobsB' s) (hl : s.length ≤ 6) (ho : jobsIn s.length o) (hol : o.length ≤ s.length) : Sig Try.prog 29 [.e (.g [.q 0]), .e (.a (.q 1))] [(0, PL EJo (s)), (1, PL EP.int (o))] (.e (.a (.q 0))) [(0, ItP Try.prog (plateItems s o))] := by
  refine Sig.intro Try.func29 rfl 2 [(0, .e (.g [.q 0])), (1, .e (.a (.q 1)))] rfl w29 rfl rfl fun I w => ?_
  refine WP.seq ?_
  refine WP.region ?_
  refine WPl.l 2 3 rfl rfl rfl (o_boxg rfl) ?_
  refine WPl.l 3 4 rfl rfl rfl (o_boxa rfl (.inl ⟨_, (lx rfl), PL.one⟩)) ?_
  refine WPl.v rfl (o_assign rfl) ?_
  refine WPl.nil ?_
  refine EX.then ?_
  refine WP.seq ?_
  refine WP.region ?_
  refine WPl.imp (Imp.frzb (E := EP.box (PL EP.int (o))) (y := ()) 3 4 5 rfl rfl (bok_box (lx rfl)) rfl rfl rfl) ?_
  refine WPl.imp (Imp.frzb (E := ESj) (y := s) 2 5 6 rfl rfl (bok_str ⟨⟨_, rfl, (lx rfl)⟩, trivial⟩) rfl rfl rfl) ?_
  refine WPl.x 6 7 rfl rfl rfl (o_mkit 6 (ren [(0, 4), (1, 5)]) (c45 s o hs hl ho hol) e45 rfl SvsOK.rf w45 ⟨(lx rfl), (lx rfl), trivial⟩) ?_
  refine WPl.v rfl (o_assign rfl) ?_
  refine WPl.nil ?_
  refine EX.then ?_
  refine WP.ret ?_
  exact EX.fin (ren [(0, 6)]) (.inl rfl) rfl (.tmp rfl .nil) rfl r29 ⟨(lx rfl), trivial⟩ (by simp) (by simp)
theorem w23 {s : List Job} {o : List Int} : ∀ x ∈ ([.e (.g [.q 0]), .e (.a (.q 1))] : List SV), x.res (keys (α := Pred) [(0, PL EJo (s)), (1, PL EP.int (o))]) := by simp [SV.res, El.res, At.res, keys]
theorem r23 {s : List Job} {o : List Int} : SV.res (keys (α := Pred) []) (.t [.a (ai (surW s o o.length)), .a (ai (surJ s o o.length)), .a (ai (surM s o o.length))]) := by simp [SV.res, El.res, At.res, keys]
set_option maxHeartbeats 4000000 in
theorem c23 (s : List Job) (o : List Int) (hs : jobsB' s) (hl : s.length ≤ 6) (ho : jobsIn s.length o) (hol : o.length ≤ s.length) : Sig Try.prog 23 [.e (.g [.q 0]), .e (.a (.q 1))] [(0, PL EJo (s)), (1, PL EP.int (o))] (.t [.a (ai (surW s o o.length)), .a (ai (surJ s o o.length)), .a (ai (surM s o o.length))]) [] := by
  refine Sig.intro Try.func23 rfl 2 [(0, .e (.g [.q 0])), (1, .e (.a (.q 1)))] rfl w23 rfl rfl fun I w => ?_
  refine WP.seq ?_
  refine WP.region ?_
  refine WPl.l 2 3 rfl rfl rfl (o_boxg rfl) ?_
  refine WPl.l 3 4 rfl rfl rfl (o_alloc Z3) ?_
  refine WPl.l 4 5 rfl rfl rfl (o_alloc Z3) ?_
  refine WPl.l 5 6 rfl rfl rfl (o_alloc Z3) ?_
  refine WPl.nil ?_
  refine EX.then ?_
  refine WP.seq ?_
  refine WP.seq ?_
  refine WP.region ?_
  refine WPl.v rfl (o_ldpa G57 rfl rfl rfl) ?_
  refine WPl.v rfl (o_move rfl) ?_
  refine WPl.cs 7 rfl rfl rfl rfl (o_sig 6 (ren [(0, 0), (1, 1)]) (c29 s o hs hl ho hol) e29 rfl rfl rfl w29 ⟨(lx rfl), (lx rfl), trivial⟩ r29) ?_
  refine WPl.nil ?_
  refine EX.then ?_
  refine WP.block ?_
  refine WP.leR (S' := ⟨7, [(2, .e (.a (.p 2 (0)))), (4, .e (.a (.p 3 (0)))), (5, .e (.a (.p 4 (0)))), (6, .e (.a (.p 5 (0)))), (12, .e (.a (.q 6)))], [(0, PL EJo (s)), (6, ItP Try.prog (plateItems s o))], [(2, .blk [.q 0] 57), (3, .blk [ai (0)] 3), (4, .blk [ai (0)] 3), (5, .blk [ai (0)] 3)], [], []⟩) id (LeR.of ⟨rfl, rfl, rfl, rfl, rfl, trivial⟩ ⟨(lx rfl), (lx rfl), trivial⟩ ⟨rfl, rfl, rfl, rfl, trivial⟩ rfl rfl rfl rfl rfl) ?_
  refine WP.rangeG 9 0 (o.length) (fun g => ⟨[.i (nth o (g : Int)), .e (.g [ai ((runTo s o (g + 1)).fp), ai ((runTo s o (g + 1)).sp)])], [], []⟩) (fun g => ⟨9, [(2, .e (.a (.p 2 (0)))), (4, .e (.a (.p 3 (0)))), (5, .e (.a (.p 4 (0)))), (6, .e (.a (.p 5 (0)))), (12, .e (.a (.q 6)))], [(0, PL EJo (s)), (6, ItP Try.prog (plateItems s o))], [(2, .blk [.q 0] 57), (3, .blk [ai (surW s o g)] 3), (4, .blk [ai (surJ s o g)] 3), (5, .blk [ai (surM s o g)] 3), (7, .ob (.deferred (some [])))], [7], []⟩) (fun _ _ => False) rfl rfl (lx rfl) (rfl) (fun _ => RSt.of rfl rfl rfl rfl rfl rfl) (fun _ _ h => h.elim) rfl rfl rfl (fun _ _ => ItemOK.of rfl) rfl rfl id (LeR.of ⟨rfl, rfl, rfl, rfl, rfl, trivial⟩ ⟨(lx rfl), (lx rfl), trivial⟩ ⟨rfl, rfl, rfl, rfl, rfl, trivial⟩ rfl rfl rfl rfl rfl) ?_ ?_ ?_
  · intro g hg w1 E1 I1 R1 pβ1 pν1 us1
    have ho1 := ho g (by omega)
    have hjb := hs (nth o (g : Int)).toNat (by omega)
    rw [show (((nth o (g : Int)).toNat : Nat) : Int) = nth o (g : Int) by omega] at hjb
    have hw := surW_b hs ho g (by omega)
    have hm := surM_b s o g
    have hwj := hjb.w
    refine WP.seq ?_
    refine WP.region ?_
    refine WPl.v rfl (o_assign rfl) ?_
    refine WPl.nil ?_
    refine EX.then ?_
    refine WP.region ?_
    refine WPl.l 9 10 rfl rfl rfl (o_alloc Z28) ?_
    refine WPl.s1 (o_stag G28 rfl rfl rfl ⟨rfl, rfl, trivial⟩ rfl rfl) ?_
    refine WPl.nil ?_
    refine EX.beg rfl ?_
    refine WP.block ?_
    refine WP.seq ?_
    refine WP.region ?_
    refine WPl.v rfl (o_fldp F57_0 rfl) ?_
    refine WPl.v rfl (o_fldp F37_0 rfl) ?_
    refine WPl.v rfl (o_ldp S35 rfl rfl rfl) ?_
    refine WPl.v rfl (o_move rfl) ?_
    refine WPl.x 10 11 rfl rfl rfl (o_idx L35 rfl (lx rfl) rfl (by first | omega | (simp; omega)) (by first | omega | (simp; omega))) ?_
    refine WPl.v rfl (o_ldqg G30 rfl (lx rfl) (strG rfl) rfl rfl) ?_
    refine WPl.l 11 12 rfl rfl rfl (o_alloc Z30) ?_
    refine WPl.s1 (o_stag G30 rfl rfl rfl ⟨rfl, rfl, rfl, rfl, rfl, rfl, trivial⟩ rfl rfl) ?_
    refine WPl.nil ?_
    refine EX.then ?_
    refine WP.seq ?_
    refine WP.region ?_
    refine WPl.v rfl (o_fldp F28_1 rfl) ?_
    refine WPl.v rfl (o_ldp S3 rfl rfl rfl) ?_
    refine WPl.v rfl (o_fldp F30_3 rfl) ?_
    refine WPl.v rfl (o_ldp S3 rfl rfl rfl) ?_
    refine WPl.v rfl (o_leq rfl rfl) ?_
    refine WPl.nil ?_
    refine EX.then ?_
    refine WP.cond rfl (fun hc1 => ?_) (fun hc1 => ?_)
    · try simp only [decide_eq_true_eq, decide_eq_false_iff_not, Bool.and_eq_true, Bool.or_eq_true, Bool.and_eq_false_iff, Bool.or_eq_false_iff, Bool.not_eq_true', Bool.not_eq_false', ne_eq, Decidable.not_not] at hc1
      refine WP.seq ?_
      refine WP.region ?_
      refine WPl.v rfl (o_ldp S3 rfl rfl rfl) ?_
      refine WPl.v rfl (o_fldp F30_4 rfl) ?_
      refine WPl.v rfl (o_ldp S3 rfl rfl rfl) ?_
      refine WPl.v rfl (o_add rfl rfl (by first | omega | (simp; omega)) (by first | omega | (simp; omega))) ?_
      refine WPl.s1 (o_sta S3 rfl rfl rfl rfl rfl) ?_
      refine WPl.nil ?_
      refine EX.then ?_
      refine WP.seq ?_
      refine WP.draw (nf := 12) [⟨[31, 32], [], [], [], []⟩, ⟨[30], [], [], [], []⟩, ⟨[30], [], [], [], [1]⟩, ⟨[], [], [], [], [0, 1, 2]⟩, ⟨[], [], [], [4], [0, 1, 2, 3]⟩] (by kernel_rfl) (by kernel_rfl) ?_
      refine DRQ.v rfl rfl rfl (o_ldp S3 rfl rfl rfl) ?_
      refine DRQ.v rfl rfl rfl (o_move rfl) ?_
      refine DRQ.v rfl rfl rfl (o_ishl rfl rfl (by omega) rfl) ?_
      refine DRQ.v rfl rfl rfl (o_ior rfl rfl rfl) ?_
      refine DRQ.s 4 rfl rfl rfl (o_sta S3 rfl rfl rfl rfl rfl) ?_
      refine DRQ.nil' ?_
      refine EX.then ?_
      refine WP.region ?_
      refine WPl.v rfl (o_ldp S3 rfl rfl rfl) ?_
      refine WPl.v rfl (o_add rfl rfl (by first | omega | (simp; omega)) (by first | omega | (simp; omega))) ?_
      refine WPl.s1 (o_sta S3 rfl rfl rfl rfl rfl) ?_
      refine WPl.nil ?_
      refine EX.blk ?_
      exact EX.next id (LeR.of trivial ⟨(lx rfl), (lx rfl), trivial⟩ ⟨rfl, rfl, (congrArg (fun z => some (Ent.blk z 3)) (List.cons_eq_cons.2 ⟨(congrArg (fun z => ai z) (show ((surW s o g) + ((nth s (nth o (g : Int))).worth)) = ((fun g => surW s o g) (g + 1)) from by dsimp only; simp only [surW]; rw [if_pos (show timeOK s o g = true from decide_eq_true hc1)])), (Eq.refl [])⟩)), (congrArg (fun z => some (Ent.blk z 3)) (List.cons_eq_cons.2 ⟨(congrArg (fun z => ai z) (show (iOr (surJ s o g) (iShl 1 (nth o (g : Int)))) = ((fun g => surJ s o g) (g + 1)) from by dsimp only; simp only [surJ]; rw [if_pos (show timeOK s o g = true from decide_eq_true hc1)])), (Eq.refl [])⟩)), (congrArg (fun z => some (Ent.blk z 3)) (List.cons_eq_cons.2 ⟨(congrArg (fun z => ai z) (show ((surM s o g) + 1) = ((fun g => surM s o g) (g + 1)) from by dsimp only; simp only [surM]; rw [if_pos (show timeOK s o g = true from decide_eq_true hc1)])), (Eq.refl [])⟩)), rfl, trivial⟩ rfl rfl rfl rfl rfl)
    · try simp only [decide_eq_true_eq, decide_eq_false_iff_not, Bool.and_eq_true, Bool.or_eq_true, Bool.and_eq_false_iff, Bool.or_eq_false_iff, Bool.not_eq_true', Bool.not_eq_false', ne_eq, Decidable.not_not] at hc1
      refine WP.skip ?_
      refine EX.blk ?_
      exact EX.next id (LeR.of trivial ⟨(lx rfl), (lx rfl), trivial⟩ ⟨rfl, rfl, (congrArg (fun z => some (Ent.blk z 3)) (List.cons_eq_cons.2 ⟨(congrArg (fun z => ai z) (show (surW s o g) = ((fun g => surW s o g) (g + 1)) from by dsimp only; simp only [surW]; rw [if_neg (by unfold timeOK; rw [decide_eq_false hc1]; simp)])), (Eq.refl [])⟩)), (congrArg (fun z => some (Ent.blk z 3)) (List.cons_eq_cons.2 ⟨(congrArg (fun z => ai z) (show (surJ s o g) = ((fun g => surJ s o g) (g + 1)) from by dsimp only; simp only [surJ]; rw [if_neg (by unfold timeOK; rw [decide_eq_false hc1]; simp)])), (Eq.refl [])⟩)), (congrArg (fun z => some (Ent.blk z 3)) (List.cons_eq_cons.2 ⟨(congrArg (fun z => ai z) (show (surM s o g) = ((fun g => surM s o g) (g + 1)) from by dsimp only; simp only [surM]; rw [if_neg (by unfold timeOK; rw [decide_eq_false hc1]; simp)])), (Eq.refl [])⟩)), rfl, trivial⟩ rfl rfl rfl rfl rfl)
  · exact fun _ _ h => h.elim
  · skip
    refine EX.blk ?_
    refine EX.then ?_
    refine WP.seq ?_
    refine WP.draw (nf := 9) [⟨[37, 38], [], [], [], []⟩, ⟨[36, 38], [3], [], [], []⟩, ⟨[36, 37], [3, 4], [], [], []⟩, ⟨[37, 38], [], [], [3], [0]⟩, ⟨[38], [], [], [4], [0, 1, 3]⟩, ⟨[], [], [], [5], [0, 1, 2, 3, 4]⟩] (by kernel_rfl) (by kernel_rfl) ?_
    refine DRQ.v rfl rfl rfl (o_ldp S3 rfl rfl rfl) ?_
    refine DRQ.v rfl rfl rfl (o_ldp S3 rfl rfl rfl) ?_
    refine DRQ.v rfl rfl rfl (o_ldp S3 rfl rfl rfl) ?_
    refine DRQ.s 3 rfl rfl rfl (o_sta S3 rfl rfl rfl rfl rfl) ?_
    refine DRQ.s 4 rfl rfl rfl (o_sta S3 rfl rfl rfl rfl rfl) ?_
    refine DRQ.s 5 rfl rfl rfl (o_sta S3 rfl rfl rfl rfl rfl) ?_
    refine DRQ.nil' ?_
    refine EX.then ?_
    refine WP.ret ?_
    exact EX.fin id (.inl rfl) rfl (.cell1 S3 rfl rfl (.cell1 S3 rfl rfl (.cell1 S3 rfl rfl (.nil)))) rfl r23 trivial (marks rfl) (by simp)
theorem w30 {l : List Int} : ∀ x ∈ ([.e (.a (.q 0))] : List SV), x.res (keys (α := Pred) [(0, PZ EP.int (l))]) := by simp [SV.res, El.res, At.res, keys]
theorem r30 {l : List Int} : SV.res (keys (α := Pred) [(0, PZ EP.int (l))]) (.e (.a (.q 0))) := by simp [SV.res, El.res, At.res, keys]
set_option maxHeartbeats 4000000 in
theorem c30 (l : List Int) (hl : l.length ≤ 1000) : Sig Try.prog 30 [.e (.a (.q 0))] [(0, PZ EP.int (l))] (.e (.a (.q 0))) [(0, PZ EP.int (l))] := by
  refine Sig.intro Try.func30 rfl 1 [(0, .e (.a (.q 0)))] rfl w30 rfl rfl fun I w => ?_
  refine WP.seq ?_
  refine WP.region ?_
  refine WPl.v rfl (o_assign rfl) ?_
  refine WPl.nil ?_
  refine EX.then ?_
  refine WP.seq ?_
  refine WP.seq ?_
  refine WP.region ?_
  refine WPl.v rfl (o_move rfl) ?_
  refine WPl.v rfl (o_eqz Try.underlying24 rfl (lx rfl)) ?_
  refine WPl.nil ?_
  refine EX.then ?_
  refine WP.cond rfl (fun hc1 => ?_) (fun hc1 => ?_)
  · try simp only [decide_eq_true_eq, decide_eq_false_iff_not, Bool.and_eq_true, Bool.or_eq_true, Bool.and_eq_false_iff, Bool.or_eq_false_iff, Bool.not_eq_true', Bool.not_eq_false', ne_eq, Decidable.not_not] at hc1
    obtain rfl : l = [] := List.length_eq_zero_iff.1 (by omega)
    refine WP.seq ?_
    refine WP.region ?_
    refine WPl.v rfl (o_assign rfl) ?_
    refine WPl.nil ?_
    refine EX.then ?_
    refine WP.ret ?_
    refine EX.ret_then ?_
    refine EX.imp (Imp.nam 1 2 (.slice none 0 0) (R := (PZ EP.int []).and (Pred.is (.slice none 0 0))) (fun I => ⟨pz_ok I, rfl⟩) rfl rfl) ?_
    refine EX.imp (Imp.swF 2 1 rfl (lxr rfl)) ?_
    exact EX.fin (ren [(0, 1)]) (.inl rfl) rfl (.tmp rfl .nil) rfl r30 ⟨lxl rfl, trivial⟩ (by simp) (by simp)
  · try simp only [decide_eq_true_eq, decide_eq_false_iff_not, Bool.and_eq_true, Bool.or_eq_true, Bool.and_eq_false_iff, Bool.or_eq_false_iff, Bool.not_eq_true', Bool.not_eq_false', ne_eq, Decidable.not_not] at hc1
    have hne : l ≠ [] := fun e => hc1 (by rw [e]; rfl)
    refine WP.skip ?_
    refine EX.then ?_
    refine WP.seq ?_
    refine WP.region ?_
    refine WPl.l 1 2 rfl rfl rfl (o_bsl (E := EP.int) (l := []) R24 rfl rfl (.nil) rfl rfl) ?_
    refine WPl.v rfl (o_move rfl) ?_
    refine WPl.u1 (k := 2) (m := 3) rfl rfl rfl (o_apps R24 EP.int_one rfl rfl rfl (lxz rfl) (by first | omega | (simp; omega) | (simp at *; omega)) (by first | omega | (simp; omega) | (simp at *; omega))) ?_
    refine WPl.v rfl (o_assign rfl) ?_
    refine WPl.nil ?_
    refine EX.then ?_
    refine WP.ret ?_
    refine EX.imp (Imp.frz (E := EP.int) (l := [] ++ l) 2 rfl rfl) ?_
    exact EX.fin (ren [(0, 2)]) (.inl rfl) rfl (.tmp rfl .nil) rfl r30 ⟨(Has.of (lx rfl) (PZ.of (by exact hne))), trivial⟩ (by simp) (by simp)
theorem w21 {s : List Job} : ∀ x ∈ ([.e (.g [.q 0])] : List SV), x.res (keys (α := Pred) [(0, PL EJo (s))]) := by simp [SV.res, El.res, At.res, keys]
theorem r21 {s : List Job} : SV.res (keys (α := Pred) [(0, PZ EP.int ((quickV s).2))]) (.t [.a (ai ((quickV s).1)), .a (.q 0)]) := by simp [SV.res, El.res, At.res, keys]
set_option maxHeartbeats 4000000 in
theorem c21 (s : List Job) (hs : jobsB' s) (hl : s.length ≤ 6) : Sig Try.prog 21 [.e (.g [.q 0])] [(0, PL EJo (s))] (.t [.a (ai ((quickV s).1)), .a (.q 0)]) [(0, PZ EP.int ((quickV s).2))] := by
  refine Sig.intro Try.func21 rfl 1 [(0, .e (.g [.q 0]))] rfl w21 rfl rfl fun I w => ?_
  refine WP.seq ?_
  refine WP.region ?_
  refine WPl.l 1 2 rfl rfl rfl (o_boxg rfl) ?_
  refine WPl.l 2 3 rfl rfl rfl (o_alloc Z3) ?_
  refine WPl.l 3 4 rfl rfl rfl (o_alloc Z24) ?_
  refine WPl.nil ?_
  refine EX.then ?_
  refine WP.seq ?_
  refine WP.seq ?_
  refine WP.region ?_
  refine WPl.v rfl (o_ldpa G57 rfl rfl rfl) ?_
  refine WPl.x 4 5 rfl rfl rfl (o_mkbit 4 (ren [(0, 0)]) (c22 s (by omega)) e22 rfl SvsOK.rf w22 ⟨(lx rfl), trivial⟩) ?_
  refine WPl.nil ?_
  refine EX.then ?_
  refine WP.block ?_
  refine WP.leR (S' := ⟨5, [(1, .e (.a (.p 1 (0)))), (2, .e (.a (.p 2 (0)))), (3, .e (.a (.p 3 (0)))), (9, .e (.a (.q 4)))], [(0, PL EJo (s)), (4, ItQ Try.prog (orderItems s))], [(1, .blk [.q 0] 57), (2, .blk [ai (0)] 3), (3, .blk [.v (.slice none 0 0)] 24)], [], []⟩) id (LeR.of ⟨rfl, rfl, rfl, rfl, trivial⟩ ⟨(lx rfl), (lx rfl), trivial⟩ ⟨rfl, rfl, rfl, trivial⟩ rfl rfl rfl rfl rfl) ?_
  refine WP.imp (Imp.nam 5 6 (.slice none 0 0) (R := PZ EP.int []) pz_ok rfl rfl) ?_
  refine WP.imp (Imp.swL 3 0 5 rfl rfl (lxzn rfl)) ?_
  refine WP.rangeV 9 1 ((ordersV s).length) (fun i => ⟨[.e (.a (.q 0))], [(0, PZ EP.int ((nth (ordersV s) (i : Int))))], []⟩) (fun i => ⟨9, [(1, .e (.a (.p 1 (0)))), (2, .e (.a (.p 2 (0)))), (3, .e (.a (.p 3 (0)))), (9, .e (.a (.q 4)))], [(0, PL EJo (s)), (4, ItQ Try.prog (orderItems s)), (8, PZ EP.int ((quickTo s i).2))], [(1, .blk [.q 0] 57), (2, .blk [ai ((quickTo s i).1)] 3), (3, .blk [.q 8] 24), (6, .ob (.deferred (some [])))], [6], []⟩) (fun _ _ => False) rfl  rfl (ItQ.hit (lx rfl)) (rfl) (fun _ => RSt.of rfl rfl rfl rfl rfl rfl) (fun _ _ h => h.elim) rfl rfl rfl (fun _ _ => ItemOK.of rfl) rfl rfl (ren [(8, 5)]) (LeR.of ⟨rfl, rfl, rfl, rfl, trivial⟩ ⟨(lx rfl), (lx rfl), (lx rfl), trivial⟩ ⟨rfl, rfl, rfl, rfl, trivial⟩ rfl rfl rfl rfl rfl) ?_ ?_ ?_
  · intro i hi w1 E1 I1 R1 pβ1 pν1 us1
    have hoi := ordersV_at hi
    refine WP.region ?_
    refine WPl.v rfl (o_assign rfl) ?_
    refine WPl.nil ?_
    refine EX.beg rfl ?_
    refine WP.block ?_
    refine WP.seq ?_
    refine WP.seq ?_
    refine WP.region ?_
    refine WPl.v rfl (o_move rfl) ?_
    refine WPl.v rfl (o_lenq L24 rfl (lxz rfl)) ?_
    refine WPl.v rfl (o_fldp F57_0 rfl) ?_
    refine WPl.v rfl (o_fldp F37_0 rfl) ?_
    refine WPl.v rfl (o_ldp S35 rfl rfl rfl) ?_
    refine WPl.v rfl (o_lenq L35 rfl (lx rfl)) ?_
    refine WPl.v rfl (o_lss rfl rfl) ?_
    refine WPl.nil ?_
    refine EX.then ?_
    refine WP.cond rfl (fun hc1 => ?_) (fun hc1 => ?_)
    · try simp only [decide_eq_true_eq, decide_eq_false_iff_not, Bool.and_eq_true, Bool.or_eq_true, Bool.and_eq_false_iff, Bool.or_eq_false_iff, Bool.not_eq_true', Bool.not_eq_false', ne_eq, Decidable.not_not] at hc1
      refine WP.exit ?_
      refine EX.exit_then ?_
      refine EX.exit_blk ?_
      have hbr : quickTo s (i + 1) = quickTo s i := by simp only [quickTo]; rw [if_pos hc1]
      exact EX.next id (LeR.of trivial ⟨(lx rfl), (lx rfl), (has_eq (F := fun z => PZ EP.int z) (show ((quickTo s i).2) = ((fun i => (quickTo s i).2) (i + 1)) from by dsimp only; rw [hbr]; try rfl) (lx rfl)), trivial⟩ ⟨rfl, rfl, (congrArg (fun z => some (Ent.blk z 3)) (List.cons_eq_cons.2 ⟨(congrArg (fun z => ai z) (show ((quickTo s i).1) = ((fun i => (quickTo s i).1) (i + 1)) from by dsimp only; rw [hbr]; try rfl)), (Eq.refl [])⟩)), rfl, rfl, trivial⟩ rfl rfl rfl rfl rfl)
    · try simp only [decide_eq_true_eq, decide_eq_false_iff_not, Bool.and_eq_true, Bool.or_eq_true, Bool.and_eq_false_iff, Bool.or_eq_false_iff, Bool.not_eq_true', Bool.not_eq_false', ne_eq, Decidable.not_not] at hc1
      refine WP.skip ?_
      refine EX.then ?_
      refine WP.seq ?_
      refine WP.region ?_
      refine WPl.l 10 11 rfl rfl rfl (o_alloc Z3) ?_
      refine WPl.s1 (o_sta S3 rfl rfl rfl rfl rfl) ?_
      refine WPl.nil ?_
      refine EX.then ?_
      refine WP.seq ?_
      refine WP.seq ?_
      refine WP.region ?_
      refine WPl.v rfl (o_ldpa G57 rfl rfl rfl) ?_
      refine WPl.v rfl (o_move rfl) ?_
      refine WPl.cs 12 rfl rfl rfl rfl (o_sig 11 (ren [(0, 0), (1, 9)]) (c29 s (nth (ordersV s) (i : Int)) hs hl hoi.2 hoi.1) e29 rfl rfl rfl w29 ⟨(lx rfl), (lxz rfl), trivial⟩ r29) ?_
      refine WPl.nil ?_
      refine EX.then ?_
      refine WP.block ?_
      refine WP.leR (S' := ⟨12, [(1, .e (.a (.p 1 (0)))), (2, .e (.a (.p 2 (0)))), (3, .e (.a (.p 3 (0)))), (9, .e (.a (.q 4))), (10, .e (.a (.q 9))), (4, .e (.a (.q 9))), (11, .e (.a (.q 9))), (12, .i (((nth (ordersV s) (i : Int)).length : Int))), (13, .e (.a (.p 1 (0)))), (14, .e (.a (.p 1 (0)))), (15, .e (.a (.q 0))), (16, .i ((s.length : Int))), (17, .b (decide (((nth (ordersV s) (i : Int)).length : Int) < (s.length : Int)))), (5, .e (.a (.p 10 (0)))), (18, .e (.g [.q 0])), (19, .e (.a (.q 9))), (20, .e (.a (.q 11)))], [(0, PL EJo (s)), (4, ItQ Try.prog (orderItems s)), (8, PZ EP.int ((quickTo s i).2)), (9, PZ EP.int ((nth (ordersV s) (i : Int)))), (11, ItP Try.prog (plateItems s (nth (ordersV s) (i : Int))))], [(1, .blk [.q 0] 57), (2, .blk [ai ((quickTo s i).1)] 3), (3, .blk [.q 8] 24), (6, .ob (.deferred (some []))), (7, .ob (.loop { R1 with state := .busy })), (10, .blk [ai (0)] 3)], [], []⟩) id (LeR.of ⟨rfl, rfl, rfl, rfl, rfl, rfl, rfl, rfl, rfl, rfl, rfl, rfl, rfl, rfl, rfl, rfl, rfl, trivial⟩ ⟨(lx rfl), (lx rfl), (lx rfl), (lx rfl), (lx rfl), trivial⟩ ⟨rfl, rfl, rfl, rfl, rfl, rfl, trivial⟩ rfl rfl rfl rfl rfl) ?_
      refine WP.rangeG2 7 14 0 ((nth (ordersV s) (i : Int)).length) (fun g => ⟨[.i (nth (nth (ordersV s) (i : Int)) (g : Int)), .e (.g [ai ((runTo s (nth (ordersV s) (i : Int)) (g + 1)).fp), ai ((runTo s (nth (ordersV s) (i : Int)) (g + 1)).sp)])], [], []⟩) (fun g => ⟨14, [(1, .e (.a (.p 1 (0)))), (2, .e (.a (.p 2 (0)))), (3, .e (.a (.p 3 (0)))), (9, .e (.a (.q 4))), (10, .e (.a (.q 9))), (4, .e (.a (.q 9))), (11, .e (.a (.q 9))), (12, .i (((nth (ordersV s) (i : Int)).length : Int))), (13, .e (.a (.p 1 (0)))), (14, .e (.a (.p 1 (0)))), (15, .e (.a (.q 0))), (16, .i ((s.length : Int))), (17, .b (decide (((nth (ordersV s) (i : Int)).length : Int) < (s.length : Int)))), (5, .e (.a (.p 10 (0)))), (18, .e (.g [.q 0])), (19, .e (.a (.q 9))), (20, .e (.a (.q 11)))], [(0, PL EJo (s)), (4, ItQ Try.prog (orderItems s)), (8, PZ EP.int ((quickTo s i).2)), (9, PZ EP.int ((nth (ordersV s) (i : Int)))), (11, ItP Try.prog (plateItems s (nth (ordersV s) (i : Int))))], [(1, .blk [.q 0] 57), (2, .blk [ai ((quickTo s i).1)] 3), (3, .blk [.q 8] 24), (6, .ob (.deferred (some []))), (7, .ob (.loop { R1 with state := .busy })), (10, .blk [ai ((runTo s (nth (ordersV s) (i : Int)) g).sp)] 3)], [], []⟩) (fun _ _ => False) rfl rfl rfl rfl rfl (lx rfl) (rfl) (fun _ => RSt.of rfl rfl rfl rfl rfl rfl) (fun _ _ h => h.elim) rfl rfl rfl (fun _ _ => ItemOK.of rfl) rfl rfl id (LeR.of ⟨rfl, rfl, rfl, rfl, rfl, rfl, rfl, rfl, rfl, rfl, rfl, rfl, rfl, rfl, rfl, rfl, rfl, trivial⟩ ⟨(lx rfl), (lx rfl), (lx rfl), (lx rfl), (lx rfl), trivial⟩ ⟨rfl, rfl, rfl, rfl, rfl, rfl, trivial⟩ rfl rfl rfl rfl rfl) ?_ ?_ ?_
      · intro g hg w2 E2 I2 R2 pβ2 pν2 us2
        refine WP.region ?_
        refine WPl.l 14 15 rfl rfl rfl (o_alloc Z28) ?_
        refine WPl.s1 (o_stag G28 rfl rfl rfl ⟨rfl, rfl, trivial⟩ rfl rfl) ?_
        refine WPl.nil ?_
        refine EX.beg rfl ?_
        refine WP.block ?_
        refine WP.region ?_
        refine WPl.v rfl (o_fldp F28_1 rfl) ?_
        refine WPl.v rfl (o_ldp S3 rfl rfl rfl) ?_
        refine WPl.s1 (o_sta S3 rfl rfl rfl rfl rfl) ?_
        refine WPl.nil ?_
        refine EX.blk ?_
        exact EX.next id (LeR.of trivial ⟨(lx rfl), (lx rfl), (lx rfl), (lx rfl), (lx rfl), trivial⟩ ⟨rfl, rfl, rfl, rfl, rfl, rfl, rfl, trivial⟩ rfl rfl rfl rfl rfl)
      · exact fun _ _ h => h.elim
      · skip
        refine EX.blk ?_
        refine EX.then ?_
        refine WP.seq ?_
        refine WP.region ?_
        refine WPl.v rfl (o_ldp S24 rfl rfl rfl) ?_
        refine WPl.v rfl (o_eqz Try.underlying24 rfl (lx rfl)) ?_
        refine WPl.v rfl (o_move rfl) ?_
        refine WPl.bit 14 15 (!(decide ((((quickTo s i).2).length : Int) = 0))) rfl rfl ?_
        refine WPl.gv 14 rfl rfl (.plain rfl (by simp) rfl) (fun hb => o_ldp S3 rfl rfl rfl) ?_
        refine WPl.gv 14 rfl rfl (.plain rfl (by simp) rfl) (fun hb => o_ldp S3 rfl rfl rfl) ?_
        refine WPl.gv 14 rfl rfl (.plain rfl (by simp) rfl) (fun hb => o_lss rfl rfl) ?_
        refine WPl.v rfl (o_or rfl rfl rfl (by first | (simp; done) | simp_all)) ?_
        refine WPl.nil ?_
        refine EX.then ?_
        refine WP.cond rfl (fun hc2 => ?_) (fun hc2 => ?_)
        · try simp only [decide_eq_true_eq, decide_eq_false_iff_not, Bool.and_eq_true, Bool.or_eq_true, Bool.and_eq_false_iff, Bool.or_eq_false_iff, Bool.not_eq_true', Bool.not_eq_false', ne_eq, Decidable.not_not] at hc2
          refine WP.draw (nf := 16) [⟨[33, 34], [15], [], [], []⟩, ⟨[32], [], [], [], []⟩, ⟨[32], [], [15], [15], [1]⟩, ⟨[], [], [], [2], [0, 1, 2]⟩, ⟨[], [], [], [3], [0, 1, 2, 3]⟩] (by kernel_rfl) (by kernel_rfl) ?_
          refine DRQ.v rfl rfl rfl (o_ldp S3 rfl rfl rfl) ?_
          refine DRQ.v rfl rfl rfl (o_move rfl) ?_
          refine DRQ.cs rfl rfl rfl rfl (o_sig 15 (ren [(0, 9)]) (c30 (nth (ordersV s) (i : Int)) (by omega)) e30 rfl rfl rfl w30 ⟨(lx rfl), trivial⟩ r30) ?_
          refine DRQ.s 2 rfl rfl rfl (o_sta S3 rfl rfl rfl rfl rfl) ?_
          refine DRQ.s 3 rfl rfl rfl (o_sta S24 rfl rfl rfl (.inl ⟨_, (lxz rfl), PL.one⟩) rfl) ?_
          refine DRQ.nil' ?_
          refine EX.blk ?_
          have hbr : quickTo s (i + 1) = (endOf s (nth (ordersV s) (i : Int)), (nth (ordersV s) (i : Int))) := by simp only [quickTo]; rw [if_neg hc1, if_pos (show ((quickTo s i).2.length : Int) = 0 ∨ endOf s (nth (ordersV s) (i : Int)) < (quickTo s i).1 from hc2)]
          exact EX.next (ren [(8, 15)]) (LeR.of trivial ⟨(lx rfl), (lx rfl), (has_eq (F := fun z => PZ EP.int z) (show ((nth (ordersV s) (i : Int))) = ((fun i => (quickTo s i).2) (i + 1)) from by dsimp only; rw [hbr]; try rfl) (lx rfl)), trivial⟩ ⟨rfl, rfl, (congrArg (fun z => some (Ent.blk z 3)) (List.cons_eq_cons.2 ⟨(congrArg (fun z => ai z) (show ((runTo s (nth (ordersV s) (i : Int)) ((nth (ordersV s) (i : Int)).length)).sp) = ((fun i => (quickTo s i).1) (i + 1)) from by dsimp only; rw [hbr]; try rfl)), (Eq.refl [])⟩)), rfl, rfl, trivial⟩ rfl rfl rfl rfl rfl)
        · try simp only [decide_eq_true_eq, decide_eq_false_iff_not, Bool.and_eq_true, Bool.or_eq_true, Bool.and_eq_false_iff, Bool.or_eq_false_iff, Bool.not_eq_true', Bool.not_eq_false', ne_eq, Decidable.not_not] at hc2
          refine WP.skip ?_
          refine EX.blk ?_
          have hbr : quickTo s (i + 1) = quickTo s i := by simp only [quickTo]; rw [if_neg hc1, if_neg (show ¬(((quickTo s i).2.length : Int) = 0 ∨ endOf s (nth (ordersV s) (i : Int)) < (quickTo s i).1) from by rintro (h | h); exact hc2.1 h; exact hc2.2 h)]
          exact EX.next id (LeR.of trivial ⟨(lx rfl), (lx rfl), (has_eq (F := fun z => PZ EP.int z) (show ((quickTo s i).2) = ((fun i => (quickTo s i).2) (i + 1)) from by dsimp only; rw [hbr]; try rfl) (lx rfl)), trivial⟩ ⟨rfl, rfl, (congrArg (fun z => some (Ent.blk z 3)) (List.cons_eq_cons.2 ⟨(congrArg (fun z => ai z) (show ((quickTo s i).1) = ((fun i => (quickTo s i).1) (i + 1)) from by dsimp only; rw [hbr]; try rfl)), (Eq.refl [])⟩)), rfl, rfl, trivial⟩ rfl rfl rfl rfl rfl)
  · exact fun _ _ h => h.elim
  · skip
    refine EX.blk ?_
    refine EX.then ?_
    refine WP.seq ?_
    refine WP.draw (nf := 9) [⟨[36], [], [], [], []⟩, ⟨[35], [2], [], [], []⟩, ⟨[36], [], [], [2], [0]⟩, ⟨[], [], [], [3], [0, 1, 2]⟩] (by kernel_rfl) (by kernel_rfl) ?_
    refine DRQ.v rfl rfl rfl (o_ldp S3 rfl rfl rfl) ?_
    refine DRQ.v rfl rfl rfl (o_ldp S24 rfl rfl rfl) ?_
    refine DRQ.s 2 rfl rfl rfl (o_sta S3 rfl rfl rfl rfl rfl) ?_
    refine DRQ.s 3 rfl rfl rfl (o_sta S24 rfl rfl rfl (.inl ⟨_, (lxz rfl), PL.one⟩) rfl) ?_
    refine DRQ.nil' ?_
    refine EX.then ?_
    refine WP.ret ?_
    exact EX.fin (ren [(0, 8)]) (.inl rfl) rfl (.cell1 S3 rfl rfl (.cell1 S24 rfl rfl (.nil))) rfl r21 ⟨(lx rfl), trivial⟩ (marks rfl) (by simp)
theorem w20 {s : List Job} : ∀ x ∈ ([.e (.g [.q 0]), .e (.a (.v (.nilFunc)))] : List SV), x.res (keys (α := Pred) [(0, PL EJo (s))]) := by simp [SV.res, El.res, At.res, keys]
theorem r20 {s : List Job} : SV.res (keys (α := Pred) [(0, PL EJo (s))]) (.t [.g [.q 0], .a (ai (errP (jobsOK s)))]) := by simp [SV.res, El.res, At.res, keys]
set_option maxHeartbeats 4000000 in
theorem c20 (s : List Job) (hl : s.length ≤ 1000) : Sig Try.prog 20 [.e (.g [.q 0]), .e (.a (.v (.nilFunc)))] [(0, PL EJo (s))] (.t [.g [.q 0], .a (ai (errP (jobsOK s)))]) [(0, PL EJo (s))] := by
  refine Sig.intro Try.func20 rfl 1 [(0, .e (.g [.q 0])), (1, .e (.a (.v (.nilFunc))))] rfl w20 rfl rfl fun I w => ?_
  refine WP.seq ?_
  refine WP.region ?_
  refine WPl.l 1 2 rfl rfl rfl (o_boxg rfl) ?_
  refine WPl.l 2 3 rfl rfl rfl (o_alloc Z57) ?_
  refine WPl.v rfl (o_assign rfl) ?_
  refine WPl.nil ?_
  refine EX.then ?_
  refine WP.seq ?_
  refine WP.region ?_
  refine WPl.v rfl (o_ldpa G37 rfl rfl rfl) ?_
  refine WPl.v rfl (o_build B57 rfl trivial rfl rfl) ?_
  refine WPl.l 3 4 rfl rfl rfl (o_alloc Z57) ?_
  refine WPl.s1 (o_stag G57 rfl rfl rfl ⟨(.inl ⟨_, (lx rfl), PL.one⟩), trivial⟩ rfl rfl) ?_
  refine WPl.nil ?_
  refine EX.then ?_
  refine WP.seq ?_
  refine WP.block ?_
  refine WP.seq ?_
  refine WP.region ?_
  refine WPl.v rfl (o_ldpa G37 rfl rfl rfl) ?_
  refine WPl.cs 4 rfl rfl rfl rfl (o_sig 4 (ren [(0, 0)]) (c28 s hl) e28 rfl rfl rfl w28 ⟨(lx rfl), trivial⟩ r28) ?_
  refine WPl.v rfl (o_neq rfl rfl) ?_
  refine WPl.v rfl (o_assign rfl) ?_
  refine WPl.nil ?_
  refine EX.then ?_
  refine WP.cond rfl (fun hc1 => ?_) (fun hc1 => ?_)
  · try simp only [decide_eq_true_eq, decide_eq_false_iff_not, Bool.and_eq_true, Bool.or_eq_true, Bool.and_eq_false_iff, Bool.or_eq_false_iff, Bool.not_eq_true', Bool.not_eq_false', ne_eq, Decidable.not_not] at hc1
    refine WP.seq ?_
    refine WP.region ?_
    refine WPl.v rfl (o_ldpa G57 rfl rfl rfl) ?_
    refine WPl.s1 (o_stag G57 rfl rfl rfl ⟨(.inl ⟨_, (lx rfl), PL.one⟩), trivial⟩ rfl rfl) ?_
    refine WPl.v rfl (o_assign rfl) ?_
    refine WPl.nil ?_
    refine EX.then ?_
    refine WP.ret ?_
    refine EX.ret_blk ?_
    refine EX.ret_then ?_
    rw [show errP (jobsOK s) = 50 from by unfold errP at hc1 ⊢; split <;> simp_all]
    exact EX.fin (ren [(0, 0)]) (.inl rfl) rfl (.cellg G57 rfl rfl rfl (.tmp rfl .nil)) rfl (by simp [SV.res, El.res, At.res, keys]) ⟨(lx rfl), trivial⟩ (by simp) (by simp)
  · try simp only [decide_eq_true_eq, decide_eq_false_iff_not, Bool.and_eq_true, Bool.or_eq_true, Bool.and_eq_false_iff, Bool.or_eq_false_iff, Bool.not_eq_true', Bool.not_eq_false', ne_eq, Decidable.not_not] at hc1
    refine WP.seq ?_
    refine WP.region ?_
    refine WPl.v rfl (o_move rfl) ?_
    refine WPl.v rfl (o_nenil Try.underlying73 rfl) ?_
    refine WPl.v rfl (o_move rfl) ?_
    refine WPl.off rfl ⟨_, _, rfl, rfl, rfl⟩ ?_
    refine WPl.off rfl ⟨_, _, rfl, rfl, rfl⟩ ?_
    refine WPl.off rfl ⟨_, _, rfl, rfl, rfl⟩ ?_
    refine WPl.off rfl ⟨_, _, rfl, rfl, rfl⟩ ?_
    refine WPl.v rfl (o_pickF rfl rfl) ?_
    refine WPl.v rfl (o_assign rfl) ?_
    refine WPl.nil ?_
    refine EX.then ?_
    refine WP.cond rfl (fun h => by cases h) (fun _ => ?_)
    refine WP.skip ?_
    refine EX.blk ?_
    refine EX.then ?_
    refine WP.seq ?_
    refine WP.region ?_
    refine WPl.v rfl (o_ldpa G57 rfl rfl rfl) ?_
    refine WPl.s1 (o_stag G57 rfl rfl rfl ⟨(.inl ⟨_, (lx rfl), PL.one⟩), trivial⟩ rfl rfl) ?_
    refine WPl.v rfl (o_assign rfl) ?_
    refine WPl.nil ?_
    refine EX.then ?_
    refine WP.ret ?_
    rw [show errP (jobsOK s) = 0 from by simpa using hc1]
    exact EX.fin (ren [(0, 0)]) (.inl rfl) rfl (.cellg G57 rfl rfl rfl (.tmp rfl .nil)) rfl (by simp [SV.res, El.res, At.res, keys]) ⟨(lx rfl), trivial⟩ (by simp) (by simp)
theorem w9 {s : List Job} : ∀ x ∈ ([.e (.g [.q 0])] : List SV), x.res (keys (α := Pred) [(0, PL EJo (s))]) := by simp [SV.res, El.res, At.res, keys]
theorem r9 {s : List Job} : SV.res (keys (α := Pred) []) (.t [.a (ai ((quickV s).1)), .a (ai (0))]) := by simp [SV.res, El.res, At.res, keys]
set_option maxHeartbeats 4000000 in
theorem c9 (s : List Job) (hc : jobsOK s = true) : Sig Try.prog 9 [.e (.g [.q 0])] [(0, PL EJo (s))] (.t [.a (ai ((quickV s).1)), .a (ai (0))]) [] := by
  obtain ⟨hl, hs⟩ := jobsB hc
  refine Sig.intro Try.func9 rfl 1 [(0, .e (.g [.q 0]))] rfl w9 rfl rfl fun I w => ?_
  refine WP.seq ?_
  refine WP.region ?_
  refine WPl.l 1 2 rfl rfl rfl (o_boxg rfl) ?_
  refine WPl.v rfl (o_assign rfl) ?_
  refine WPl.v rfl (o_assign rfl) ?_
  refine WPl.nil ?_
  refine EX.then ?_
  refine WP.seq ?_
  refine WP.region ?_
  refine WPl.v rfl (o_ldpa G37 rfl rfl rfl) ?_
  refine WPl.cs 3 rfl rfl rfl rfl (o_sig 2 (ren [(0, 0)]) (c20 s (by omega)) e20 rfl rfl rfl w20 ⟨(lx rfl), trivial⟩ r20) ?_
  refine WPl.v rfl (o_move rfl) ?_
  refine WPl.v rfl (o_extract rfl rfl) ?_
  refine WPl.v rfl (o_extract rfl rfl) ?_
  refine WPl.l 3 4 rfl rfl rfl (o_alloc Z57) ?_
  refine WPl.s1 (o_stag G57 rfl rfl rfl ⟨(.inl ⟨_, (lx rfl), PL.one⟩), trivial⟩ rfl rfl) ?_
  refine WPl.v rfl (o_assign rfl) ?_
  refine WPl.nil ?_
  refine EX.then ?_
  refine WP.seq ?_
  refine WP.seq ?_
  refine WP.region ?_
  refine WPl.v rfl (o_move rfl) ?_
  refine WPl.v rfl (o_neq rfl rfl) ?_
  refine WPl.nil ?_
  refine EX.then ?_
  refine WP.cond rfl (fun hc1 => ?_) (fun hc1 => ?_)
  · try simp only [decide_eq_true_eq, decide_eq_false_iff_not, Bool.and_eq_true, Bool.or_eq_true, Bool.and_eq_false_iff, Bool.or_eq_false_iff, Bool.not_eq_true', Bool.not_eq_false', ne_eq, Decidable.not_not] at hc1
    exact absurd (errP_eq.2 hc) (by simpa using hc1)
  · try simp only [decide_eq_true_eq, decide_eq_false_iff_not, Bool.and_eq_true, Bool.or_eq_true, Bool.and_eq_false_iff, Bool.or_eq_false_iff, Bool.not_eq_true', Bool.not_eq_false', ne_eq, Decidable.not_not] at hc1
    refine WP.skip ?_
    refine EX.then ?_
    refine WP.seq ?_
    refine WP.region ?_
    refine WPl.v rfl (o_ldpa G57 rfl rfl rfl) ?_
    refine WPl.cs 5 rfl rfl rfl rfl (o_sig 4 (ren [(0, 2)]) (c21 s hs hl) e21 rfl rfl rfl w21 ⟨(lx rfl), trivial⟩ r21) ?_
    refine WPl.v rfl (o_move rfl) ?_
    refine WPl.v rfl (o_extract rfl rfl) ?_
    refine WPl.v rfl (o_extract rfl rfl) ?_
    refine WPl.v rfl (o_assign rfl) ?_
    refine WPl.v rfl (o_assign rfl) ?_
    refine WPl.nil ?_
    refine EX.then ?_
    refine WP.seq ?_
    refine WP.region ?_
    refine WPl.v rfl (o_move rfl) ?_
    refine WPl.v rfl (o_assign rfl) ?_
    refine WPl.v rfl (o_assign rfl) ?_
    refine WPl.nil ?_
    refine EX.then ?_
    refine WP.ret ?_
    exact EX.fin id (.inl rfl) rfl (.tmp rfl (.tmp rfl .nil)) rfl r9 trivial (by simp) (by simp)
theorem w10 {s : List Job} : ∀ x ∈ ([.e (.g [.q 0])] : List SV), x.res (keys (α := Pred) [(0, PL EJo (s))]) := by simp [SV.res, El.res, At.res, keys]
theorem r10 {s : List Job} : SV.res (keys (α := Pred) []) (.t [.a (ai (mostV s)), .a (ai (0))]) := by simp [SV.res, El.res, At.res, keys]
set_option maxHeartbeats 4000000 in
theorem c10 (s : List Job) (hc : jobsOK s = true) : Sig Try.prog 10 [.e (.g [.q 0])] [(0, PL EJo (s))] (.t [.a (ai (mostV s)), .a (ai (0))]) [] := by
  obtain ⟨hl, hs⟩ := jobsB hc
  refine Sig.intro Try.func10 rfl 1 [(0, .e (.g [.q 0]))] rfl w10 rfl rfl fun I w => ?_
  refine WP.seq ?_
  refine WP.region ?_
  refine WPl.l 1 2 rfl rfl rfl (o_boxg rfl) ?_
  refine WPl.v rfl (o_assign rfl) ?_
  refine WPl.v rfl (o_assign rfl) ?_
  refine WPl.nil ?_
  refine EX.then ?_
  refine WP.seq ?_
  refine WP.region ?_
  refine WPl.v rfl (o_ldpa G37 rfl rfl rfl) ?_
  refine WPl.cs 3 rfl rfl rfl rfl (o_sig 2 (ren [(0, 0)]) (c20 s (by omega)) e20 rfl rfl rfl w20 ⟨(lx rfl), trivial⟩ r20) ?_
  refine WPl.v rfl (o_move rfl) ?_
  refine WPl.v rfl (o_extract rfl rfl) ?_
  refine WPl.v rfl (o_extract rfl rfl) ?_
  refine WPl.l 3 4 rfl rfl rfl (o_alloc Z57) ?_
  refine WPl.s1 (o_stag G57 rfl rfl rfl ⟨(.inl ⟨_, (lx rfl), PL.one⟩), trivial⟩ rfl rfl) ?_
  refine WPl.v rfl (o_assign rfl) ?_
  refine WPl.nil ?_
  refine EX.then ?_
  refine WP.seq ?_
  refine WP.seq ?_
  refine WP.region ?_
  refine WPl.v rfl (o_move rfl) ?_
  refine WPl.v rfl (o_neq rfl rfl) ?_
  refine WPl.nil ?_
  refine EX.then ?_
  refine WP.cond rfl (fun hc1 => ?_) (fun hc1 => ?_)
  · try simp only [decide_eq_true_eq, decide_eq_false_iff_not, Bool.and_eq_true, Bool.or_eq_true, Bool.and_eq_false_iff, Bool.or_eq_false_iff, Bool.not_eq_true', Bool.not_eq_false', ne_eq, Decidable.not_not] at hc1
    exact absurd (errP_eq.2 hc) (by simpa using hc1)
  · try simp only [decide_eq_true_eq, decide_eq_false_iff_not, Bool.and_eq_true, Bool.or_eq_true, Bool.and_eq_false_iff, Bool.or_eq_false_iff, Bool.not_eq_true', Bool.not_eq_false', ne_eq, Decidable.not_not] at hc1
    refine WP.skip ?_
    refine EX.then ?_
    refine WP.seq ?_
    refine WP.region ?_
    refine WPl.l 4 5 rfl rfl rfl (o_alloc Z3) ?_
    refine WPl.s1 (o_sta S3 rfl rfl rfl rfl rfl) ?_
    refine WPl.nil ?_
    refine EX.then ?_
    refine WP.seq ?_
    refine WP.seq ?_
    refine WP.region ?_
    refine WPl.v rfl (o_ldpa G57 rfl rfl rfl) ?_
    refine WPl.x 5 6 rfl rfl rfl (o_mkbit 5 (ren [(0, 2)]) (c22 s (by omega)) e22 rfl SvsOK.rf w22 ⟨(lx rfl), trivial⟩) ?_
    refine WPl.nil ?_
    refine EX.then ?_
    refine WP.block ?_
    refine WP.leR (S' := ⟨6, [(2, .i (0)), (3, .i (0)), (4, .e (.a (.p 3 (0)))), (6, .e (.a (.p 4 (0)))), (20, .e (.a (.q 5)))], [(2, PL EJo (s)), (5, ItQ Try.prog (orderItems s))], [(3, .blk [.q 2] 57), (4, .blk [ai (0)] 3)], [], []⟩) id (LeR.of ⟨rfl, rfl, rfl, rfl, rfl, trivial⟩ ⟨(lx rfl), (lx rfl), trivial⟩ ⟨rfl, rfl, trivial⟩ rfl rfl rfl rfl rfl) ?_
    refine WP.rangeV 8 1 ((ordersV s).length) (fun i => ⟨[.e (.a (.q 0))], [(0, PZ EP.int ((nth (ordersV s) (i : Int))))], []⟩) (fun i => ⟨8, [(2, .i (0)), (3, .i (0)), (4, .e (.a (.p 3 (0)))), (6, .e (.a (.p 4 (0)))), (20, .e (.a (.q 5)))], [(2, PL EJo (s)), (5, ItQ Try.prog (orderItems s))], [(3, .blk [.q 2] 57), (4, .blk [ai (mostTo s i)] 3), (6, .ob (.deferred (some [])))], [6], []⟩) (fun _ _ => False) rfl  rfl (ItQ.hit (lx rfl)) (rfl) (fun _ => RSt.of rfl rfl rfl rfl rfl rfl) (fun _ _ h => h.elim) rfl rfl rfl (fun _ _ => ItemOK.of rfl) rfl rfl id (LeR.of ⟨rfl, rfl, rfl, rfl, rfl, trivial⟩ ⟨(lx rfl), (lx rfl), trivial⟩ ⟨rfl, rfl, rfl, trivial⟩ rfl rfl rfl rfl rfl) ?_ ?_ ?_
    · intro i hi w1 E1 I1 R1 pβ1 pν1 us1
      have hoi := ordersV_at hi
      refine WP.region ?_
      refine WPl.v rfl (o_assign rfl) ?_
      refine WPl.nil ?_
      refine EX.beg rfl ?_
      refine WP.block ?_
      refine WP.seq ?_
      refine WP.region ?_
      refine WPl.v rfl (o_ldpa G57 rfl rfl rfl) ?_
      refine WPl.v rfl (o_move rfl) ?_
      refine WPl.cs 9 rfl rfl rfl rfl (o_sig 9 (ren [(0, 2), (1, 8)]) (c23 s (nth (ordersV s) (i : Int)) hs hl hoi.2 hoi.1) e23 rfl rfl rfl w23 ⟨(lx rfl), (lxz rfl), trivial⟩ r23) ?_
      refine WPl.v rfl (o_move rfl) ?_
      refine WPl.v rfl (o_extract rfl rfl) ?_
      refine WPl.v rfl (o_extract rfl rfl) ?_
      refine WPl.v rfl (o_extract rfl rfl) ?_
      refine WPl.v rfl (o_assign rfl) ?_
      refine WPl.v rfl (o_assign rfl) ?_
      refine WPl.v rfl (o_assign rfl) ?_
      refine WPl.nil ?_
      refine EX.then ?_
      refine WP.region ?_
      refine WPl.v rfl (o_ldp S3 rfl rfl rfl) ?_
      refine WPl.v rfl (o_move rfl) ?_
      refine WPl.v rfl (o_max rfl rfl) ?_
      refine WPl.s1 (o_sta S3 rfl rfl rfl rfl rfl) ?_
      refine WPl.nil ?_
      refine EX.blk ?_
      exact EX.next id (LeR.of trivial ⟨(lx rfl), (lx rfl), trivial⟩ ⟨rfl, rfl, rfl, rfl, trivial⟩ rfl rfl rfl rfl rfl)
    · exact fun _ _ h => h.elim
    · skip
      refine EX.blk ?_
      refine EX.then ?_
      refine WP.seq ?_
      refine WP.region ?_
      refine WPl.v rfl (o_ldp S3 rfl rfl rfl) ?_
      refine WPl.v rfl (o_assign rfl) ?_
      refine WPl.v rfl (o_assign rfl) ?_
      refine WPl.nil ?_
      refine EX.then ?_
      refine WP.ret ?_
      exact EX.fin id (.inl rfl) rfl (.tmp rfl (.tmp rfl .nil)) rfl r10 trivial (marks rfl) (by simp)
end Go.Flong
namespace Go.Eng
open Go
theorem EArr_one {n : Nat} : (EArr n).one := fun I cs x h y hy => by
  rw [show cs = _ from h] at hy
  obtain ⟨j, _, rfl⟩ := List.mem_map.1 hy
  rfl
theorem arrP_get {pre : List At} {n : Nat} {l : List Int} {i r : Int} (h0 : 0 ≤ i) (h1 : i < n) (hr : r.toNat = pre.length + i.toNat) : (pre ++ arrA n l)[r.toNat]? = some (ai (nth l i)) := by
  rw [hr, List.getElem?_append_right (by omega), Nat.add_sub_cancel_left]; exact arrA_get h0 h1
theorem arrP_set {pre : List At} {n : Nat} {l : List Int} {i r v : Int} (hl : l.length = n) (h0 : 0 ≤ i) (h1 : i < n) (hr : r.toNat = pre.length + i.toNat) : splice (pre ++ arrA n l) r.toNat [ai v] = pre ++ arrA n (lset l i v) := by
  rw [← arrA_set hl h0 h1, hr]
  unfold splice
  rw [List.take_append, List.drop_append, List.take_of_length_le (by omega), List.drop_of_length_le (by omega), Nat.add_sub_cancel_left, show pre.length + i.toNat + [ai v].length - pre.length = i.toNat + [ai v].length by omega]
  simp
section
variable {cx : Cx} {S : St} {dst : Option Tmp} {ty : TypeId} {pos : String} {af : Array Edge} {gd : Option (Nat × Bool)}
theorem o_ldpm {x : Operand} {T T' : TypeId} {k n : Nat} (pre : List At) {cs : List At} {l : List Int} {i r : Int} (hT : TyS cx.P T) (hx : S.op x = some (.e (.a (.p k r.toNat)))) (hk : look k S.L = some (.blk cs T')) (hcs : cs = pre ++ arrA n l) (h0 : 0 ≤ i) (h1 : i < n) (hr : r.toNat = pre.length + i.toNat) :
    OpG cx S ⟨dst, .load T x, ty, pos, af, gd⟩ (.val (.i (nth l i))) := by
  subst hcs
  exact o_ldp hT hx hk (arrP_get h0 h1 hr)
theorem o_stpm {x y : Operand} {T T' : TypeId} {k n : Nat} (pre : List At) {cs cs' : List At} {l : List Int} {i v r : Int} (hT : TyS cx.P T) (hx : S.op x = some (.e (.a (.p k r.toNat)))) (hk : look k S.L = some (.blk cs T')) (hy : S.op y = some (.i v)) (hcs : cs = pre ++ arrA n l) (hcs' : cs' = pre ++ arrA n (lset l i v)) (hl : l.length = n) (h0 : 0 ≤ i) (h1 : i < n) (hr : r.toNat = pre.length + i.toNat) :
    OpG cx S ⟨none, .store T x y, ty, pos, af, none⟩ ⟨.e (.a (.v undef)), [], [], [(k, .blk cs' T')], []⟩ := by
  subst hcs
  subst hcs'
  rw [← arrP_set hl h0 h1 hr]
  refine o_sta hT hx hk hy rfl ?_
  have : (arrA n l).length = n := by simp [arrA]
  rw [List.length_append, this, hr, Nat.ble_eq]; omega
end
end Go.Eng
namespace Go.Flong
open Go Go.Eng
def agreeAt (f : FSh) (w : List Int) (i : Nat) : Bool := !(decide (nth w (i : Int) < (nth f.moulds (i : Int)).used) || (decide ((nth f.moulds (i : Int)).broke = 1) && decide ((nth f.moulds (i : Int)).used < nth w (i : Int))))
def FSh.agrees (f : FSh) (w : List Int) : Bool := allI (agreeAt f w) f.moulds.length
def FSh.agTo (f : FSh) : Nat → List Int
  | 0 => []
  | i + 1 => if f.agrees (nth f.worlds (i : Int)) = true then f.agTo i ++ [(i : Int)] else f.agTo i
def FSh.agL (f : FSh) : List Int := f.agTo f.worlds.length
def FSh.wAt (f : FSh) (g : Nat) : List Int := nth f.worlds (nth f.agL (g : Int))
def agItems (f : FSh) : List Eng.Item := (List.range f.agL.length).map fun (g : Nat) => ⟨[.i (nth f.agL (g : Int)), .e (.a (.q 0))], [(0, PL EP.int (nth f.worlds (nth f.agL (g : Int))))], []⟩
theorem agTo_pre (f : FSh) : ∀ k i : Nat, i ≤ k → ∃ t, f.agTo k = f.agTo i ++ t
  | 0, i, h => ⟨[], by have : i = 0 := by omega
                       subst this; simp⟩
  | k + 1, i, h => by
    rcases Nat.lt_or_ge i (k + 1) with h1 | h1
    · obtain ⟨t, ht⟩ := agTo_pre f k i (by omega)
      rw [FSh.agTo]
      split
      · exact ⟨t ++ [(k : Int)], by rw [ht, List.append_assoc]⟩
      · exact ⟨t, ht⟩
    · have : i = k + 1 := by omega
      subst this; exact ⟨[], by simp⟩
theorem agTo_at {f : FSh} {i : Nat} (hi : i < f.worlds.length) (ha : f.agrees (nth f.worlds (i : Int)) = true) : f.agL[(f.agTo i).length]? = some (i : Int) := by
  obtain ⟨t, ht⟩ := agTo_pre f f.worlds.length (i + 1) hi
  rw [FSh.agL, ht, FSh.agTo, if_pos ha, List.append_assoc, List.getElem?_append_right (Nat.le_refl _), Nat.sub_self]; rfl
theorem agTo_mem (f : FSh) : ∀ (i : Nat) (x : Int), x ∈ f.agTo i → 0 ≤ x ∧ x < i ∧ f.agrees (nth f.worlds x) = true
  | 0, _, h => by simp [FSh.agTo] at h
  | i + 1, x, h => by
    rw [FSh.agTo] at h
    split at h
    · rename_i hc
      rcases List.mem_append.1 h with h | h
      · obtain ⟨a, b, c⟩ := agTo_mem f i x h; exact ⟨a, by omega, c⟩
      · rw [List.mem_singleton] at h; subst h; exact ⟨by omega, by omega, hc⟩
    · obtain ⟨a, b, c⟩ := agTo_mem f i x h; exact ⟨a, by omega, c⟩
theorem agL_at {f : FSh} {g : Nat} (h : g < f.agL.length) : 0 ≤ nth f.agL (g : Int) ∧ nth f.agL (g : Int) < f.worlds.length ∧ f.agrees (f.wAt g) = true := agTo_mem f _ _ (nth_mem (l := f.agL) (by omega) (by omega))
theorem agTo_len (f : FSh) : ∀ i : Nat, (f.agTo i).length ≤ i
  | 0 => by simp [FSh.agTo]
  | i + 1 => by
    have := agTo_len f i
    rw [FSh.agTo]; split
    · rw [List.length_append, List.length_singleton]; omega
    · omega
theorem agItems_at {f : FSh} {i : Nat} (hi : i < f.worlds.length) (ha : f.agrees (nth f.worlds (i : Int)) = true) : (agItems f)[(f.agTo i).length]? = some ⟨[.i (i : Int), .e (.a (.q 0))], [(0, PL EP.int (nth f.worlds (i : Int)))], []⟩ := by
  obtain ⟨h1, h2⟩ := List.getElem?_eq_some_iff.1 (agTo_at hi ha)
  rw [agItems, List.getElem?_map, List.getElem?_range h1]
  simp only [Option.map_some]
  rw [nthG h1, h2]
def FSh.leftAt (f : FSh) (w : List Int) (i : Nat) : Int := nth w (i : Int) - (nth f.moulds (i : Int)).used
def FSh.lefTo (f : FSh) (w : List Int) : Nat → List Int
  | 0 => List.replicate 5 0
  | i + 1 => lset (f.lefTo w i) (i : Int) (f.leftAt w i)
theorem lefTo_len (f : FSh) (w : List Int) : ∀ i, (f.lefTo w i).length = 5
  | 0 => rfl
  | i + 1 => by rw [FSh.lefTo, lset_len]; exact lefTo_len f w i
theorem lefTo_self {f : FSh} {w : List Int} {i : Nat} (h : i < 5) : nth (f.lefTo w (i + 1)) (i : Int) = f.leftAt w i := by
  rw [FSh.lefTo, nth_lset (by rw [lefTo_len]; exact h), if_pos rfl]
def FSh.sureIn (f : FSh) (w : List Int) (n : Nat) (p : List Int) : Nat → List Int
  | 0 => p
  | i + 1 => if f.leftAt w i < nth (f.sureIn w n p i) (i : Int) ∨ (n : Int) = 0 then lset (f.sureIn w n p i) (i : Int) (f.leftAt w i) else f.sureIn w n p i
def FSh.rowsTo (f : FSh) : Nat → List (List Int)
  | 0 => []
  | g + 1 => f.rowsTo g ++ [f.lefTo (f.wAt g) f.moulds.length]
theorem rowsTo_len (f : FSh) : ∀ g, (f.rowsTo g).length = g
  | 0 => rfl
  | g + 1 => by rw [FSh.rowsTo, List.length_append, rowsTo_len f g]; rfl
def FSh.sureTo (f : FSh) : Nat → List Int
  | 0 => List.replicate 5 0
  | g + 1 => f.sureIn (f.wAt g) (f.rowsTo g).length (f.sureTo g) f.moulds.length
theorem sureIn_len {f : FSh} {w : List Int} {n : Nat} {p : List Int} (hp : p.length = 5) : ∀ i, (f.sureIn w n p i).length = 5
  | 0 => hp
  | i + 1 => by
    rw [FSh.sureIn]; split
    · rw [lset_len]; exact sureIn_len hp i
    · exact sureIn_len hp i
theorem sureTo_len (f : FSh) : ∀ g, (f.sureTo g).length = 5
  | 0 => rfl
  | g + 1 => by rw [FSh.sureTo]; exact sureIn_len (sureTo_len f g) _
structure FlShop where
  f : FSh
  rows : List (List Int)
  sure : List Int
abbrev flFs : List (Eng.Fd FlShop) := [.s EMo (·.f.moulds), .s (EP.sl EP.int) (·.f.worlds), .s EP.int (·.f.wants), .i (·.f.fresh), .s (EArr 5) FlShop.rows, .i fun p => nth p.sure 0, .i fun p => nth p.sure 1, .i fun p => nth p.sure 2, .i fun p => nth p.sure 3, .i fun p => nth p.sure 4]
abbrev EFl : EP FlShop := .str flFs
def FSh.shopV (f : FSh) : FlShop := ⟨f, f.rowsTo f.agL.length, f.sureTo f.agL.length⟩
theorem sure_at {p : FlShop} {i r : Int} (h0 : 0 ≤ i) (h1 : i < 5) (hr : r = 5 + i) : ∀ I cs, EFl.h I cs p → cs[r.toNat]? = some (.int .i64 (nth p.sure i)) := by
  subst hr
  have h : i = 0 ∨ i = 1 ∨ i = 2 ∨ i = 3 ∨ i = 4 := by omega
  rcases h with rfl | rfl | rfl | rfl | rfl
  · exact fun I cs h => strI (o := 5) (fs := flFs) (f := fun p => nth p.sure 0) (x := p) rfl I cs h
  · exact fun I cs h => strI (o := 6) (fs := flFs) (f := fun p => nth p.sure 1) (x := p) rfl I cs h
  · exact fun I cs h => strI (o := 7) (fs := flFs) (f := fun p => nth p.sure 2) (x := p) rfl I cs h
  · exact fun I cs h => strI (o := 8) (fs := flFs) (f := fun p => nth p.sure 3) (x := p) rfl I cs h
  · exact fun I cs h => strI (o := 9) (fs := flFs) (f := fun p => nth p.sure 4) (x := p) rfl I cs h
def b12 (l : List Int) : Prop := ∀ j : Nat, -12 ≤ nth l (j : Int) ∧ nth l (j : Int) ≤ 12
theorem b12_lset {l : List Int} {i : Nat} {x : Int} (hl : b12 l) (h1 : -12 ≤ x) (h2 : x ≤ 12) (hi : i < l.length) : b12 (lset l (i : Int) x) := fun j => by
  rw [nth_lset hi]; split
  · exact ⟨h1, h2⟩
  · exact hl j
theorem left_b {f : FSh} (hf : f.B) {g i : Nat} (hg : g < f.agL.length) (hi : i < f.moulds.length) : -12 ≤ f.leftAt (f.wAt g) i ∧ f.leftAt (f.wAt g) i ≤ 12 := by
  obtain ⟨h1, h2, _⟩ := agL_at hg
  have h3 := (hf.ws (nth f.agL (g : Int)).toNat (by omega)).2 i hi
  rw [show (((nth f.agL (g : Int)).toNat : Nat) : Int) = nth f.agL (g : Int) by omega] at h3
  have h4 := (hf.ms i hi).2.1
  unfold FSh.leftAt FSh.wAt; omega
theorem sureIn_b {f : FSh} (hf : f.B) {g n : Nat} (hg : g < f.agL.length) {p : List Int} (hp : b12 p) (hl : p.length = 5) : ∀ i, i ≤ f.moulds.length → b12 (f.sureIn (f.wAt g) n p i)
  | 0, _ => hp
  | i + 1, h => by
    have ih := sureIn_b hf hg (n := n) hp hl i (by omega)
    have h5 := hf.m
    have hb := left_b hf hg (show i < f.moulds.length by omega)
    rw [FSh.sureIn]; split
    · exact b12_lset ih hb.1 hb.2 (by rw [sureIn_len hl]; omega)
    · exact ih
theorem sureTo_b {f : FSh} (hf : f.B) : ∀ g, g ≤ f.agL.length → b12 (f.sureTo g)
  | 0, _ => fun j => by
    have : nth (f.sureTo 0) (j : Int) = 0 := nth_rep
    omega
  | g + 1, h => by rw [FSh.sureTo]; exact sureIn_b hf (show g < f.agL.length by omega) (sureTo_b hf g (by omega)) (sureTo_len f g) _ (Nat.le_refl _)
def FlShop.platTo (p : FlShop) (page : Int) : Nat → Int
  | 0 => 0
  | i + 1 => if (nth p.f.moulds (i : Int)).page = page then p.platTo page i + nth p.sure (i : Int) else p.platTo page i
def FlShop.plates (p : FlShop) (page : Int) : Int := p.platTo page p.f.moulds.length
theorem platTo_b {p : FlShop} (hp : b12 p.sure) (page : Int) : ∀ i : Nat, -(12 * (i : Int)) ≤ p.platTo page i ∧ p.platTo page i ≤ 12 * (i : Int)
  | 0 => by simp [FlShop.platTo]
  | i + 1 => by
    have := platTo_b hp page i
    have := hp i
    rw [FlShop.platTo]; split <;> omega
def FSh.newTo (f : FSh) : Nat → Int
  | 0 => 0
  | i + 1 => f.newTo i + (max 0 (nth f.wants (i : Int) - f.shopV.plates (i : Int)) + f.fresh - 1).tdiv f.fresh
def FSh.newE (f : FSh) : Int := if f.chk then (if f.agL.length = 0 then 3 else 0) else 20
def FSh.newV (f : FSh) : Int := if f.newE = 0 then f.newTo f.wants.length else 0
theorem newE_eq {f : FSh} : f.newE = 0 ↔ f.chk = true ∧ f.agL.length ≠ 0 := by
  unfold FSh.newE
  cases f.chk <;> simp
theorem tdiv_b {x fr : Int} (h0 : 0 ≤ x) (h1 : 1 ≤ fr) : 0 ≤ x.tdiv fr ∧ x.tdiv fr ≤ x := by
  rw [Int.tdiv_eq_ediv_of_nonneg h0]
  exact ⟨Int.ediv_nonneg h0 (by omega), Int.ediv_le_self _ h0⟩
theorem shopV_b {f : FSh} (hf : f.B) : b12 f.shopV.sure := sureTo_b hf _ (Nat.le_refl _)
theorem newTerm_b {f : FSh} (hf : f.B) {i : Nat} (hi : i < f.wants.length) : 0 ≤ max 0 (nth f.wants (i : Int) - f.shopV.plates (i : Int)) + f.fresh - 1 ∧ max 0 (nth f.wants (i : Int) - f.shopV.plates (i : Int)) + f.fresh - 1 ≤ 1000 := by
  have h1 := platTo_b (shopV_b hf) (i : Int) f.shopV.f.moulds.length
  have h2 := hf.ps i hi
  have h3 := hf.fr
  have h4 := hf.m
  have h5 : f.shopV.f.moulds.length = f.moulds.length := rfl
  unfold FlShop.plates; omega
theorem newTo_b {f : FSh} (hf : f.B) : ∀ i : Nat, i ≤ f.wants.length → 0 ≤ f.newTo i ∧ f.newTo i ≤ 1000 * (i : Int)
  | 0, _ => by simp [FSh.newTo]
  | i + 1, h => by
    have h1 := newTo_b hf i (by omega)
    have h2 := newTerm_b hf (show i < f.wants.length by omega)
    have h3 := tdiv_b h2.1 hf.fr.1
    rw [FSh.newTo]; omega
end Go.Flong
