/- Walks (printed by gen.py off the specs). -/
import Derived.Test.YtglbnodjcngefaaBase
import Derived.Test.YtglbnodjcngefaaProg
set_option linter.unusedSimpArgs false
set_option linter.unusedVariables false
namespace Go.Flong
open Go Go.Eng Go.Proofs
theorem e35 : Enters' Try.prog 35 := Try.call35
theorem F23_1 : Fld Try.prog 23 1 1 := .mk Try.underlying23 rfl rfl rfl Try.sizeOf3 rfl
theorem S3 : TyS Try.prog 3 := ⟨Try.isAgg3, Try.sizeOf3⟩
theorem F23_0 : Fld Try.prog 23 0 0 := .mk Try.underlying23 rfl rfl rfl Try.sizeOf3 rfl
theorem e133 : Enters' Try.prog 133 := Try.call133
theorem F25_0 : Fld Try.prog 25 0 0 := .mk Try.underlying25 rfl rfl rfl Try.sizeOf3 rfl
theorem F25_1 : Fld Try.prog 25 1 1 := .mk Try.underlying25 rfl rfl rfl Try.sizeOf23 rfl
theorem G23 : TyG Try.prog 23 2 := ⟨Try.isAgg23, Try.sizeOf23⟩
theorem e85 : Enters' Try.prog 85 := Try.call85
theorem F25_2 : Fld Try.prog 25 2 3 := .mk Try.underlying25 rfl rfl rfl Try.sizeOf23 rfl
theorem e134 : Enters' Try.prog 134 := Try.call134
theorem F78_0 : Fld Try.prog 78 0 0 := .mk Try.underlying78 rfl rfl rfl Try.sizeOf3 rfl
theorem F78_1 : Fld Try.prog 78 1 1 := .mk Try.underlying78 rfl rfl rfl Try.sizeOf3 rfl
theorem F78_2 : Fld Try.prog 78 2 2 := .mk Try.underlying78 rfl rfl rfl Try.sizeOf3 rfl
theorem F78_3 : Fld Try.prog 78 3 3 := .mk Try.underlying78 rfl rfl rfl Try.sizeOf3 rfl
theorem F78_4 : Fld Try.prog 78 4 4 := .mk Try.underlying78 rfl rfl rfl Try.sizeOf3 rfl
theorem F28_0 : Fld Try.prog 28 0 0 := .mk Try.underlying28 rfl rfl rfl Try.sizeOf25 rfl
theorem G25 : TyG Try.prog 25 5 := ⟨Try.isAgg25, Try.sizeOf25⟩
theorem e123 : Enters' Try.prog 123 := Try.call123
theorem F28_1 : Fld Try.prog 28 1 5 := .mk Try.underlying28 rfl rfl rfl Try.sizeOf3 rfl
theorem F28_2 : Fld Try.prog 28 2 6 := .mk Try.underlying28 rfl rfl rfl Try.sizeOf23 rfl
theorem F28_3 : Fld Try.prog 28 3 8 := .mk Try.underlying28 rfl rfl rfl Try.sizeOf23 rfl
theorem F28_4 : Fld Try.prog 28 4 10 := .mk Try.underlying28 rfl rfl rfl Try.sizeOf26 rfl
theorem S26 : TyS Try.prog 26 := ⟨Try.isAgg26, Try.sizeOf26⟩
theorem L26 : IsSl Try.prog 26 78 5 := ⟨Try.underlying26, Try.sizeOf78⟩
theorem G78 : TyG Try.prog 78 5 := ⟨Try.isAgg78, Try.sizeOf78⟩
theorem e124 : Enters' Try.prog 124 := Try.call124
theorem e132 : Enters' Try.prog 132 := Try.call132
theorem Z78 : Zero Try.prog 78 [ai (0), ai (0), ai (0), ai (0), ai (0)] := .mk Try.zeroValue78 rfl rfl
theorem F31_0 : Fld Try.prog 31 0 0 := .mk Try.underlying31 rfl rfl rfl Try.sizeOf28 rfl
theorem G28 : TyG Try.prog 28 11 := ⟨Try.isAgg28, Try.sizeOf28⟩
theorem e71 : Enters' Try.prog 71 := Try.call71
theorem F31_1 : Fld Try.prog 31 1 11 := .mk Try.underlying31 rfl rfl rfl Try.sizeOf29 rfl
theorem S29 : TyS Try.prog 29 := ⟨Try.isAgg29, Try.sizeOf29⟩
theorem L29 : IsSl Try.prog 29 75 3 := ⟨Try.underlying29, Try.sizeOf75⟩
theorem F75_0 : Fld Try.prog 75 0 0 := .mk Try.underlying75 rfl rfl rfl Try.sizeOf23 rfl
theorem F75_1 : Fld Try.prog 75 1 2 := .mk Try.underlying75 rfl rfl rfl Try.sizeOf3 rfl
theorem e86 : Enters' Try.prog 86 := Try.call86
theorem L44 : IsSl Try.prog 44 3 1 := ⟨Try.underlying44, Try.sizeOf3⟩
theorem Z28 : Zero Try.prog 28 [ai (0), ai (0), ai (0), ai (0), ai (0), ai (0), ai (0), ai (0), ai (0), ai (0), .v (.slice none 0 0)] := .mk Try.zeroValue28 rfl rfl
theorem R26 : RowT Try.prog 26 78 5 40 [.int .i64 0, .int .i64 0, .int .i64 0, .int .i64 0, .int .i64 0] := ⟨Try.underlying26, ⟨Try.t78, _, by kernel_rfl, rfl, rfl, rfl, rfl⟩, rfl, by decide⟩
theorem Z31 : Zero Try.prog 31 [ai (0), ai (0), ai (0), ai (0), ai (0), ai (0), ai (0), ai (0), ai (0), ai (0), .v (.slice none 0 0), .v (.slice none 0 0)] := .mk Try.zeroValue31 rfl rfl
theorem e70 : Enters' Try.prog 70 := Try.call70
theorem R29 : RowT Try.prog 29 75 3 24 [.int .i64 0, .int .i64 0, .int .i64 0] := ⟨Try.underlying29, ⟨Try.t75, _, by kernel_rfl, rfl, rfl, rfl, rfl⟩, rfl, by decide⟩
theorem B31 : BldT Try.prog 31 [(0, 11), (11, 1)] [.int .i64 0, .int .i64 0, .int .i64 0, .int .i64 0, .int .i64 0, .int .i64 0, .int .i64 0, .int .i64 0, .int .i64 0, .int .i64 0, .slice none 0 0, .slice none 0 0] := BldT.mk (ns := [11, 1]) Try.underlying31 ⟨Try.sizeOf28, Try.sizeOf29, trivial⟩ rfl Try.zeroValue31 rfl
theorem G31 : TyG Try.prog 31 12 := ⟨Try.isAgg31, Try.sizeOf31⟩
theorem w35 {n lo hi : Int} : ∀ x ∈ ([.i (n), .i (lo), .i (hi)] : List SV), x.res (keys (α := Pred) []) := by simp [SV.res, El.res, At.res, keys]
theorem r35 {n lo hi : Int} : SV.res (keys (α := Pred) []) (.b (within n lo hi)) := by simp [SV.res, El.res, At.res, keys]
set_option maxHeartbeats 4000000 in
theorem c35 (n lo hi : Int)  : Sig Try.prog 35 [.i (n), .i (lo), .i (hi)] [] (.b (within n lo hi)) [] := by
  refine Sig.intro Try.func35 rfl 0 [(0, .i (n)), (1, .i (lo)), (2, .i (hi))] rfl w35 rfl rfl fun I w => ?_
  refine WP.seq ?_
  refine WP.region ?_
  refine WPl.v rfl (o_assign rfl) ?_
  refine WPl.nil ?_
  refine EX.then ?_
  refine WP.seq ?_
  refine WP.region ?_
  refine WPl.v rfl (o_move rfl) ?_
  refine WPl.v rfl (o_move rfl) ?_
  refine WPl.v rfl (o_leq rfl rfl) ?_
  refine WPl.v rfl (o_move rfl) ?_
  refine WPl.bit 0 1 (decide (lo ≤ n)) rfl rfl ?_
  refine WPl.gv 0 rfl rfl (.plain rfl Iff.rfl rfl) (fun hb => o_move rfl) ?_
  refine WPl.gv 0 rfl rfl (.plain rfl Iff.rfl rfl) (fun hb => o_move rfl) ?_
  refine WPl.gv 0 rfl rfl (.plain rfl Iff.rfl rfl) (fun hb => o_leq rfl rfl) ?_
  refine WPl.v rfl (o_and rfl rfl rfl id) ?_
  refine WPl.v rfl (o_assign rfl) ?_
  refine WPl.nil ?_
  refine EX.then ?_
  refine WP.ret ?_
  exact EX.fin id (.inl rfl) rfl (.tmp rfl .nil) rfl r35 trivial (by simp) (by simp)
theorem w79 {n lo hi : Int} : ∀ x ∈ ([.i (n), .i (lo), .i (hi)] : List SV), x.res (keys (α := Pred) []) := by simp [SV.res, El.res, At.res, keys]
theorem r79 {n lo hi : Int} : SV.res (keys (α := Pred) []) (.b (within n lo hi)) := by simp [SV.res, El.res, At.res, keys]
set_option maxHeartbeats 4000000 in
theorem c79 (n lo hi : Int)  : Sig Try.prog 79 [.i (n), .i (lo), .i (hi)] [] (.b (within n lo hi)) [] := by
  refine Sig.intro Try.func79 rfl 0 [(0, .i (n)), (1, .i (lo)), (2, .i (hi))] rfl w79 rfl rfl fun I w => ?_
  refine WP.seq ?_
  refine WP.region ?_
  refine WPl.v rfl (o_assign rfl) ?_
  refine WPl.nil ?_
  refine EX.then ?_
  refine WP.seq ?_
  refine WP.region ?_
  refine WPl.v rfl (o_move rfl) ?_
  refine WPl.v rfl (o_move rfl) ?_
  refine WPl.v rfl (o_geq rfl rfl) ?_
  refine WPl.v rfl (o_move rfl) ?_
  refine WPl.bit 0 1 (decide (lo ≤ n)) rfl rfl ?_
  refine WPl.gv 0 rfl rfl (.plain rfl Iff.rfl rfl) (fun hb => o_move rfl) ?_
  refine WPl.gv 0 rfl rfl (.plain rfl Iff.rfl rfl) (fun hb => o_move rfl) ?_
  refine WPl.gv 0 rfl rfl (.plain rfl Iff.rfl rfl) (fun hb => o_leq rfl rfl) ?_
  refine WPl.v rfl (o_and rfl rfl rfl id) ?_
  refine WPl.v rfl (o_assign rfl) ?_
  refine WPl.nil ?_
  refine EX.then ?_
  refine WP.ret ?_
  exact EX.fin id (.inl rfl) rfl (.tmp rfl .nil) rfl r79 trivial (by simp) (by simp)
theorem w133 {n lo hi : Int} : ∀ x ∈ ([.i (n), .i (lo), .i (hi)] : List SV), x.res (keys (α := Pred) []) := by simp [SV.res, El.res, At.res, keys]
theorem r133 {n lo hi : Int} : SV.res (keys (α := Pred) []) (.b (within n lo hi)) := by simp [SV.res, El.res, At.res, keys]
set_option maxHeartbeats 4000000 in
theorem c133 (n lo hi : Int)  : Sig Try.prog 133 [.i (n), .i (lo), .i (hi)] [] (.b (within n lo hi)) [] := by
  refine Sig.intro Try.func133 rfl 0 [(0, .i (n)), (1, .i (lo)), (2, .i (hi))] rfl w133 rfl rfl fun I w => ?_
  refine WP.seq ?_
  refine WP.region ?_
  refine WPl.v rfl (o_assign rfl) ?_
  refine WPl.nil ?_
  refine EX.then ?_
  refine WP.seq ?_
  refine WP.region ?_
  refine WPl.v rfl (o_move rfl) ?_
  refine WPl.v rfl (o_move rfl) ?_
  refine WPl.v rfl (o_geq rfl rfl) ?_
  refine WPl.v rfl (o_move rfl) ?_
  refine WPl.bit 0 1 (decide (lo ≤ n)) rfl rfl ?_
  refine WPl.gv 0 rfl rfl (.plain rfl Iff.rfl rfl) (fun hb => o_move rfl) ?_
  refine WPl.gv 0 rfl rfl (.plain rfl Iff.rfl rfl) (fun hb => o_move rfl) ?_
  refine WPl.gv 0 rfl rfl (.plain rfl Iff.rfl rfl) (fun hb => o_leq rfl rfl) ?_
  refine WPl.v rfl (o_and rfl rfl rfl id) ?_
  refine WPl.v rfl (o_assign rfl) ?_
  refine WPl.nil ?_
  refine EX.then ?_
  refine WP.ret ?_
  exact EX.fin id (.inl rfl) rfl (.tmp rfl .nil) rfl r133 trivial (by simp) (by simp)
theorem w86 {n lo hi : Int} : ∀ x ∈ ([.i (n), .i (lo), .i (hi)] : List SV), x.res (keys (α := Pred) []) := by simp [SV.res, El.res, At.res, keys]
theorem r86 {n lo hi : Int} : SV.res (keys (α := Pred) []) (.b (within n lo hi)) := by simp [SV.res, El.res, At.res, keys]
set_option maxHeartbeats 4000000 in
theorem c86 (n lo hi : Int)  : Sig Try.prog 86 [.i (n), .i (lo), .i (hi)] [] (.b (within n lo hi)) [] := by
  refine Sig.intro Try.func86 rfl 0 [(0, .i (n)), (1, .i (lo)), (2, .i (hi))] rfl w86 rfl rfl fun I w => ?_
  refine WP.seq ?_
  refine WP.region ?_
  refine WPl.v rfl (o_assign rfl) ?_
  refine WPl.nil ?_
  refine EX.then ?_
  refine WP.seq ?_
  refine WP.region ?_
  refine WPl.v rfl (o_move rfl) ?_
  refine WPl.v rfl (o_move rfl) ?_
  refine WPl.v rfl (o_move rfl) ?_
  refine WPl.cs 0 rfl rfl rfl rfl (o_sig 0 id (c35 n lo hi) e35 rfl rfl rfl w35 trivial r35) ?_
  refine WPl.v rfl (o_assign rfl) ?_
  refine WPl.nil ?_
  refine EX.then ?_
  refine WP.ret ?_
  exact EX.fin id (.inl rfl) rfl (.tmp rfl .nil) rfl r86 trivial (by simp) (by simp)
theorem w85 {lo hi most : Int} : ∀ x ∈ ([.e (.g [ai (lo), ai (hi)]), .i (most)] : List SV), x.res (keys (α := Pred) []) := by simp [SV.res, El.res, At.res, keys]
theorem r85 {lo hi most : Int} : SV.res (keys (α := Pred) []) (.b (isSpan lo hi most)) := by simp [SV.res, El.res, At.res, keys]
set_option maxHeartbeats 4000000 in
theorem c85 (lo hi most : Int)  : Sig Try.prog 85 [.e (.g [ai (lo), ai (hi)]), .i (most)] [] (.b (isSpan lo hi most)) [] := by
  refine Sig.intro Try.func85 rfl 0 [(0, .e (.g [ai (lo), ai (hi)])), (1, .i (most))] rfl w85 rfl rfl fun I w => ?_
  refine WP.seq ?_
  refine WP.region ?_
  refine WPl.l 0 1 rfl rfl rfl (o_boxg rfl) ?_
  refine WPl.v rfl (o_assign rfl) ?_
  refine WPl.nil ?_
  refine EX.then ?_
  refine WP.seq ?_
  refine WP.region ?_
  refine WPl.v rfl (o_fldp F23_1 rfl) ?_
  refine WPl.v rfl (o_ldp S3 rfl rfl rfl) ?_
  refine WPl.v rfl (o_move rfl) ?_
  refine WPl.cs 1 rfl rfl rfl rfl (o_sig 1 id (c35 hi 0 most) e35 rfl rfl rfl w35 trivial r35) ?_
  refine WPl.v rfl (o_move rfl) ?_
  refine WPl.bit 1 2 (within hi 0 most) rfl rfl ?_
  refine WPl.gv 1 rfl rfl (.plain rfl Iff.rfl rfl) (fun hb => o_fldp F23_0 rfl) ?_
  refine WPl.gv 1 rfl rfl (.plain rfl Iff.rfl rfl) (fun hb => o_ldp S3 rfl rfl rfl) ?_
  refine WPl.gv 1 rfl rfl (.plain rfl Iff.rfl rfl) (fun hb => o_fldp F23_1 rfl) ?_
  refine WPl.gv 1 rfl rfl (.plain rfl Iff.rfl rfl) (fun hb => o_ldp S3 rfl rfl rfl) ?_
  refine WPl.gc0 1 rfl rfl (.plain rfl Iff.rfl rfl) (fun hb => o_sig 2 id (c35 lo 0 hi) e35 rfl rfl rfl w35 trivial r35) ?_
  refine WPl.v rfl (o_and rfl rfl rfl id) ?_
  refine WPl.v rfl (o_assign rfl) ?_
  refine WPl.nil ?_
  refine EX.then ?_
  refine WP.ret ?_
  exact EX.fin id (.inl rfl) rfl (.tmp rfl .nil) rfl r85 trivial (by simp) (by simp)
theorem w134 {lo hi most : Int} : ∀ x ∈ ([.e (.g [ai (lo), ai (hi)]), .i (most)] : List SV), x.res (keys (α := Pred) []) := by simp [SV.res, El.res, At.res, keys]
theorem r134 {lo hi most : Int} : SV.res (keys (α := Pred) []) (.b (isSpan lo hi most)) := by simp [SV.res, El.res, At.res, keys]
set_option maxHeartbeats 4000000 in
theorem c134 (lo hi most : Int)  : Sig Try.prog 134 [.e (.g [ai (lo), ai (hi)]), .i (most)] [] (.b (isSpan lo hi most)) [] := by
  refine Sig.intro Try.func134 rfl 0 [(0, .e (.g [ai (lo), ai (hi)])), (1, .i (most))] rfl w134 rfl rfl fun I w => ?_
  refine WP.seq ?_
  refine WP.region ?_
  refine WPl.l 0 1 rfl rfl rfl (o_boxg rfl) ?_
  refine WPl.v rfl (o_assign rfl) ?_
  refine WPl.nil ?_
  refine EX.then ?_
  refine WP.seq ?_
  refine WP.region ?_
  refine WPl.v rfl (o_fldp F23_1 rfl) ?_
  refine WPl.v rfl (o_ldp S3 rfl rfl rfl) ?_
  refine WPl.v rfl (o_move rfl) ?_
  refine WPl.cs 1 rfl rfl rfl rfl (o_sig 1 id (c133 hi 0 most) e133 rfl rfl rfl w133 trivial r133) ?_
  refine WPl.v rfl (o_move rfl) ?_
  refine WPl.bit 1 2 (within hi 0 most) rfl rfl ?_
  refine WPl.gv 1 rfl rfl (.plain rfl Iff.rfl rfl) (fun hb => o_fldp F23_0 rfl) ?_
  refine WPl.gv 1 rfl rfl (.plain rfl Iff.rfl rfl) (fun hb => o_ldp S3 rfl rfl rfl) ?_
  refine WPl.gv 1 rfl rfl (.plain rfl Iff.rfl rfl) (fun hb => o_fldp F23_1 rfl) ?_
  refine WPl.gv 1 rfl rfl (.plain rfl Iff.rfl rfl) (fun hb => o_ldp S3 rfl rfl rfl) ?_
  refine WPl.gc0 1 rfl rfl (.plain rfl Iff.rfl rfl) (fun hb => o_sig 2 id (c133 lo 0 hi) e133 rfl rfl rfl w133 trivial r133) ?_
  refine WPl.v rfl (o_and rfl rfl rfl id) ?_
  refine WPl.v rfl (o_assign rfl) ?_
  refine WPl.nil ?_
  refine EX.then ?_
  refine WP.ret ?_
  exact EX.fin id (.inl rfl) rfl (.tmp rfl .nil) rfl r134 trivial (by simp) (by simp)
theorem w123 {p tl th al ah : Int} : ∀ x ∈ ([.e (.g [ai (p), ai (tl), ai (th), ai (al), ai (ah)])] : List SV), x.res (keys (α := Pred) []) := by simp [SV.res, El.res, At.res, keys]
theorem r123 {p tl th al ah : Int} : SV.res (keys (α := Pred) []) (.b (isPot p tl th al ah)) := by simp [SV.res, El.res, At.res, keys]
set_option maxHeartbeats 4000000 in
theorem c123 (p tl th al ah : Int)  : Sig Try.prog 123 [.e (.g [ai (p), ai (tl), ai (th), ai (al), ai (ah)])] [] (.b (isPot p tl th al ah)) [] := by
  refine Sig.intro Try.func123 rfl 0 [(0, .e (.g [ai (p), ai (tl), ai (th), ai (al), ai (ah)]))] rfl w123 rfl rfl fun I w => ?_
  refine WP.seq ?_
  refine WP.region ?_
  refine WPl.l 0 1 rfl rfl rfl (o_boxg rfl) ?_
  refine WPl.v rfl (o_assign rfl) ?_
  refine WPl.nil ?_
  refine EX.then ?_
  refine WP.seq ?_
  refine WP.region ?_
  refine WPl.v rfl (o_fldp F25_0 rfl) ?_
  refine WPl.v rfl (o_ldp S3 rfl rfl rfl) ?_
  refine WPl.cs 1 rfl rfl rfl rfl (o_sig 1 id (c35 p 0 400) e35 rfl rfl rfl w35 trivial r35) ?_
  refine WPl.v rfl (o_move rfl) ?_
  refine WPl.bit 1 2 (within p 0 400) rfl rfl ?_
  refine WPl.gv 1 rfl rfl (.plain rfl Iff.rfl rfl) (fun hb => o_fldp F25_1 rfl) ?_
  refine WPl.gv 1 rfl rfl (.plain rfl Iff.rfl rfl) (fun hb => o_ldpg G23 rfl rfl rfl) ?_
  refine WPl.gv 1 rfl rfl (.plain rfl Iff.rfl rfl) (fun hb => o_fldp F25_0 rfl) ?_
  refine WPl.gv 1 rfl rfl (.plain rfl Iff.rfl rfl) (fun hb => o_ldp S3 rfl rfl rfl) ?_
  refine WPl.gc0 1 rfl rfl (.plain rfl Iff.rfl rfl) (fun hb => o_sig 2 id (c85 tl th p) e85 rfl rfl rfl w85 trivial r85) ?_
  refine WPl.v rfl (o_and rfl rfl rfl id) ?_
  refine WPl.v rfl (o_move rfl) ?_
  refine WPl.bit 2 3 ((within p 0 400) && (isSpan tl th p)) rfl rfl ?_
  refine WPl.gv 2 rfl rfl (.plain rfl Iff.rfl rfl) (fun hb => o_fldp F25_2 rfl) ?_
  refine WPl.gv 2 rfl rfl (.plain rfl Iff.rfl rfl) (fun hb => o_ldpg G23 rfl rfl rfl) ?_
  refine WPl.gv 2 rfl rfl (.plain rfl Iff.rfl rfl) (fun hb => o_fldp F25_0 rfl) ?_
  refine WPl.gv 2 rfl rfl (.plain rfl Iff.rfl rfl) (fun hb => o_ldp S3 rfl rfl rfl) ?_
  refine WPl.gc0 2 rfl rfl (.plain rfl Iff.rfl rfl) (fun hb => o_sig 3 id (c85 al ah p) e85 rfl rfl rfl w85 trivial r85) ?_
  refine WPl.v rfl (o_and rfl rfl rfl id) ?_
  refine WPl.v rfl (o_move rfl) ?_
  refine WPl.bit 3 4 (((within p 0 400) && (isSpan tl th p)) && (isSpan al ah p)) rfl rfl ?_
  refine WPl.gv 3 rfl rfl (.plain rfl Iff.rfl rfl) (fun hb => o_fldp F25_1 rfl) ?_
  refine WPl.gv 3 rfl rfl (.plain rfl Iff.rfl rfl) (fun hb => o_fldp F23_1 rfl) ?_
  refine WPl.gv 3 rfl rfl (.plain rfl Iff.rfl rfl) (fun hb => o_ldp S3 rfl rfl rfl) ?_
  refine WPl.gv 3 rfl rfl (.plain rfl Iff.rfl rfl) (fun hb => o_fldp F25_2 rfl) ?_
  refine WPl.gv 3 rfl rfl (.plain rfl Iff.rfl rfl) (fun hb => o_fldp F23_1 rfl) ?_
  refine WPl.gv 3 rfl rfl (.plain rfl Iff.rfl rfl) (fun hb => o_ldp S3 rfl rfl rfl) ?_
  refine WPl.gv 3 rfl rfl (.plain rfl Iff.rfl rfl) (fun hb => o_add rfl rfl (by simp [within, isSpan] at hb; omega) (by simp [within, isSpan] at hb; omega)) ?_
  refine WPl.gv 3 rfl rfl (.plain rfl Iff.rfl rfl) (fun hb => o_fldp F25_0 rfl) ?_
  refine WPl.gv 3 rfl rfl (.plain rfl Iff.rfl rfl) (fun hb => o_ldp S3 rfl rfl rfl) ?_
  refine WPl.gv 3 rfl rfl (.plain rfl Iff.rfl rfl) (fun hb => o_leq rfl rfl) ?_
  refine WPl.v rfl (o_and rfl rfl rfl id) ?_
  refine WPl.v rfl (o_assign rfl) ?_
  refine WPl.nil ?_
  refine EX.then ?_
  refine WP.ret ?_
  exact EX.fin id (.inl rfl) rfl (.tmp rfl .nil) rfl r123 trivial (by simp) (by simp)
theorem w132 {p tl th al ah : Int} : ∀ x ∈ ([.e (.g [ai (p), ai (tl), ai (th), ai (al), ai (ah)])] : List SV), x.res (keys (α := Pred) []) := by simp [SV.res, El.res, At.res, keys]
theorem r132 {p tl th al ah : Int} : SV.res (keys (α := Pred) []) (.b (isPot p tl th al ah)) := by simp [SV.res, El.res, At.res, keys]
set_option maxHeartbeats 4000000 in
theorem c132 (p tl th al ah : Int)  : Sig Try.prog 132 [.e (.g [ai (p), ai (tl), ai (th), ai (al), ai (ah)])] [] (.b (isPot p tl th al ah)) [] := by
  refine Sig.intro Try.func132 rfl 0 [(0, .e (.g [ai (p), ai (tl), ai (th), ai (al), ai (ah)]))] rfl w132 rfl rfl fun I w => ?_
  refine WP.seq ?_
  refine WP.region ?_
  refine WPl.l 0 1 rfl rfl rfl (o_boxg rfl) ?_
  refine WPl.v rfl (o_assign rfl) ?_
  refine WPl.nil ?_
  refine EX.then ?_
  refine WP.seq ?_
  refine WP.region ?_
  refine WPl.v rfl (o_fldp F25_0 rfl) ?_
  refine WPl.v rfl (o_ldp S3 rfl rfl rfl) ?_
  refine WPl.cs 1 rfl rfl rfl rfl (o_sig 1 id (c133 p 0 400) e133 rfl rfl rfl w133 trivial r133) ?_
  refine WPl.v rfl (o_move rfl) ?_
  refine WPl.bit 1 2 (within p 0 400) rfl rfl ?_
  refine WPl.gv 1 rfl rfl (.plain rfl Iff.rfl rfl) (fun hb => o_fldp F25_1 rfl) ?_
  refine WPl.gv 1 rfl rfl (.plain rfl Iff.rfl rfl) (fun hb => o_ldpg G23 rfl rfl rfl) ?_
  refine WPl.gv 1 rfl rfl (.plain rfl Iff.rfl rfl) (fun hb => o_fldp F25_0 rfl) ?_
  refine WPl.gv 1 rfl rfl (.plain rfl Iff.rfl rfl) (fun hb => o_ldp S3 rfl rfl rfl) ?_
  refine WPl.gc0 1 rfl rfl (.plain rfl Iff.rfl rfl) (fun hb => o_sig 2 id (c134 tl th p) e134 rfl rfl rfl w134 trivial r134) ?_
  refine WPl.v rfl (o_and rfl rfl rfl id) ?_
  refine WPl.v rfl (o_move rfl) ?_
  refine WPl.bit 2 3 ((within p 0 400) && (isSpan tl th p)) rfl rfl ?_
  refine WPl.gv 2 rfl rfl (.plain rfl Iff.rfl rfl) (fun hb => o_fldp F25_2 rfl) ?_
  refine WPl.gv 2 rfl rfl (.plain rfl Iff.rfl rfl) (fun hb => o_ldpg G23 rfl rfl rfl) ?_
  refine WPl.gv 2 rfl rfl (.plain rfl Iff.rfl rfl) (fun hb => o_fldp F25_0 rfl) ?_
  refine WPl.gv 2 rfl rfl (.plain rfl Iff.rfl rfl) (fun hb => o_ldp S3 rfl rfl rfl) ?_
  refine WPl.gv 2 rfl rfl (.plain rfl Iff.rfl rfl) (fun hb => o_fldp F25_1 rfl) ?_
  refine WPl.gv 2 rfl rfl (.plain rfl Iff.rfl rfl) (fun hb => o_fldp F23_1 rfl) ?_
  refine WPl.gv 2 rfl rfl (.plain rfl Iff.rfl rfl) (fun hb => o_ldp S3 rfl rfl rfl) ?_
  refine WPl.gv 2 rfl rfl (.plain rfl Iff.rfl rfl) (fun hb => o_sub rfl rfl (by simp [within, isSpan] at hb; omega) (by simp [within, isSpan] at hb; omega)) ?_
  refine WPl.gc0 2 rfl rfl (.plain rfl Iff.rfl rfl) (fun hb => o_sig 3 id (c134 al ah (p - th)) e134 rfl rfl rfl w134 trivial r134) ?_
  refine WPl.v rfl (o_and rfl rfl rfl id) ?_
  refine WPl.v rfl (o_assign rfl) ?_
  refine WPl.nil ?_
  refine EX.then ?_
  refine WP.ret ?_
  rw [← isPotP_eq]
  exact EX.fin id (.inl rfl) rfl (.tmp rfl .nil) rfl (by simp [SV.res, El.res, At.res, keys]) trivial (by simp) (by simp)
theorem w124 {p : Pig} : ∀ x ∈ ([.e (.g [ai (p.pounds), ai (p.tin), ai (p.ant), ai (p.pence), ai (p.many)])] : List SV), x.res (keys (α := Pred) []) := by simp [SV.res, El.res, At.res, keys]
theorem r124 {p : Pig} : SV.res (keys (α := Pred) []) (.b (p.chk)) := by simp [SV.res, El.res, At.res, keys]
set_option maxHeartbeats 4000000 in
theorem c124 (p : Pig)  : Sig Try.prog 124 [.e (.g [ai (p.pounds), ai (p.tin), ai (p.ant), ai (p.pence), ai (p.many)])] [] (.b (p.chk)) [] := by
  refine Sig.intro Try.func124 rfl 0 [(0, .e (.g [ai (p.pounds), ai (p.tin), ai (p.ant), ai (p.pence), ai (p.many)]))] rfl w124 rfl rfl fun I w => ?_
  refine WP.seq ?_
  refine WP.region ?_
  refine WPl.l 0 1 rfl rfl rfl (o_boxg rfl) ?_
  refine WPl.v rfl (o_assign rfl) ?_
  refine WPl.nil ?_
  refine EX.then ?_
  refine WP.seq ?_
  refine WP.region ?_
  refine WPl.v rfl (o_fldp F78_0 rfl) ?_
  refine WPl.v rfl (o_ldp S3 rfl rfl rfl) ?_
  refine WPl.cs 1 rfl rfl rfl rfl (o_sig 1 id (c35 p.pounds 1 40) e35 rfl rfl rfl w35 trivial r35) ?_
  refine WPl.v rfl (o_move rfl) ?_
  refine WPl.bit 1 2 (within p.pounds 1 40) rfl rfl ?_
  refine WPl.gv 1 rfl rfl (.plain rfl Iff.rfl rfl) (fun hb => o_fldp F78_1 rfl) ?_
  refine WPl.gv 1 rfl rfl (.plain rfl Iff.rfl rfl) (fun hb => o_ldp S3 rfl rfl rfl) ?_
  refine WPl.gv 1 rfl rfl (.plain rfl Iff.rfl rfl) (fun hb => o_fldp F78_0 rfl) ?_
  refine WPl.gv 1 rfl rfl (.plain rfl Iff.rfl rfl) (fun hb => o_ldp S3 rfl rfl rfl) ?_
  refine WPl.gc0 1 rfl rfl (.plain rfl Iff.rfl rfl) (fun hb => o_sig 2 id (c35 p.tin 0 p.pounds) e35 rfl rfl rfl w35 trivial r35) ?_
  refine WPl.v rfl (o_and rfl rfl rfl id) ?_
  refine WPl.v rfl (o_move rfl) ?_
  refine WPl.bit 2 3 ((within p.pounds 1 40) && (within p.tin 0 p.pounds)) rfl rfl ?_
  refine WPl.gv 2 rfl rfl (.plain rfl Iff.rfl rfl) (fun hb => o_fldp F78_2 rfl) ?_
  refine WPl.gv 2 rfl rfl (.plain rfl Iff.rfl rfl) (fun hb => o_ldp S3 rfl rfl rfl) ?_
  refine WPl.gv 2 rfl rfl (.plain rfl Iff.rfl rfl) (fun hb => o_fldp F78_0 rfl) ?_
  refine WPl.gv 2 rfl rfl (.plain rfl Iff.rfl rfl) (fun hb => o_ldp S3 rfl rfl rfl) ?_
  refine WPl.gv 2 rfl rfl (.plain rfl Iff.rfl rfl) (fun hb => o_fldp F78_1 rfl) ?_
  refine WPl.gv 2 rfl rfl (.plain rfl Iff.rfl rfl) (fun hb => o_ldp S3 rfl rfl rfl) ?_
  refine WPl.gv 2 rfl rfl (.plain rfl Iff.rfl rfl) (fun hb => o_sub rfl rfl (by simp [within, isSpan] at hb; omega) (by simp [within, isSpan] at hb; omega)) ?_
  refine WPl.gc0 2 rfl rfl (.plain rfl Iff.rfl rfl) (fun hb => o_sig 3 id (c35 p.ant 0 (p.pounds - p.tin)) e35 rfl rfl rfl w35 trivial r35) ?_
  refine WPl.v rfl (o_and rfl rfl rfl id) ?_
  refine WPl.v rfl (o_move rfl) ?_
  refine WPl.bit 3 4 (((within p.pounds 1 40) && (within p.tin 0 p.pounds)) && (within p.ant 0 (p.pounds - p.tin))) rfl rfl ?_
  refine WPl.gv 3 rfl rfl (.plain rfl Iff.rfl rfl) (fun hb => o_fldp F78_3 rfl) ?_
  refine WPl.gv 3 rfl rfl (.plain rfl Iff.rfl rfl) (fun hb => o_ldp S3 rfl rfl rfl) ?_
  refine WPl.gc0 3 rfl rfl (.plain rfl Iff.rfl rfl) (fun hb => o_sig 4 id (c35 p.pence 0 99) e35 rfl rfl rfl w35 trivial r35) ?_
  refine WPl.v rfl (o_and rfl rfl rfl id) ?_
  refine WPl.v rfl (o_move rfl) ?_
  refine WPl.bit 4 5 ((((within p.pounds 1 40) && (within p.tin 0 p.pounds)) && (within p.ant 0 (p.pounds - p.tin))) && (within p.pence 0 99)) rfl rfl ?_
  refine WPl.gv 4 rfl rfl (.plain rfl Iff.rfl rfl) (fun hb => o_fldp F78_4 rfl) ?_
  refine WPl.gv 4 rfl rfl (.plain rfl Iff.rfl rfl) (fun hb => o_ldp S3 rfl rfl rfl) ?_
  refine WPl.gc0 4 rfl rfl (.plain rfl Iff.rfl rfl) (fun hb => o_sig 5 id (c35 p.many 0 5) e35 rfl rfl rfl w35 trivial r35) ?_
  refine WPl.v rfl (o_and rfl rfl rfl id) ?_
  refine WPl.v rfl (o_assign rfl) ?_
  refine WPl.nil ?_
  refine EX.then ?_
  refine WP.ret ?_
  exact EX.fin id (.inl rfl) rfl (.tmp rfl .nil) rfl r124 trivial (by simp) (by simp)
theorem w71 {s : Shop} : ∀ x ∈ ([.e (.g [ai (s.pounds), ai (s.tl), ai (s.th), ai (s.al), ai (s.ah), ai (s.room), ai (s.tpl), ai (s.tph), ai (s.apl), ai (s.aph), .q 0])] : List SV), x.res (keys (α := Pred) [(0, PL EPig (s.pigs))]) := by simp [SV.res, El.res, At.res, keys]
theorem r71 {s : Shop} : SV.res (keys (α := Pred) []) (.i (errM s.chk)) := by simp [SV.res, El.res, At.res, keys]
set_option maxHeartbeats 4000000 in
theorem c71 (s : Shop)  : Sig Try.prog 71 [.e (.g [ai (s.pounds), ai (s.tl), ai (s.th), ai (s.al), ai (s.ah), ai (s.room), ai (s.tpl), ai (s.tph), ai (s.apl), ai (s.aph), .q 0])] [(0, PL EPig (s.pigs))] (.i (errM s.chk)) [] := by
  refine Sig.intro Try.func71 rfl 1 [(0, .e (.g [ai (s.pounds), ai (s.tl), ai (s.th), ai (s.al), ai (s.ah), ai (s.room), ai (s.tpl), ai (s.tph), ai (s.apl), ai (s.aph), .q 0]))] rfl w71 rfl rfl fun I w => ?_
  refine WP.seq ?_
  refine WP.region ?_
  refine WPl.l 1 2 rfl rfl rfl (o_boxg rfl) ?_
  refine WPl.v rfl (o_assign rfl) ?_
  refine WPl.nil ?_
  refine EX.then ?_
  refine WP.seq ?_
  refine WP.seq ?_
  refine WP.region ?_
  refine WPl.v rfl (o_fldp F28_0 rfl) ?_
  refine WPl.v rfl (o_ldpg G25 rfl rfl rfl) ?_
  refine WPl.cs 2 rfl rfl rfl rfl (o_sig 2 id (c123 s.pounds s.tl s.th s.al s.ah) e123 rfl rfl rfl w123 trivial r123) ?_
  refine WPl.v rfl (o_not rfl) ?_
  refine WPl.v rfl (o_move rfl) ?_
  refine WPl.bit 2 3 (!(!(isPot s.pounds s.tl s.th s.al s.ah))) rfl rfl ?_
  refine WPl.gv 2 rfl rfl (.plain rfl (by simp) rfl) (fun hb => o_fldp F28_1 rfl) ?_
  refine WPl.gv 2 rfl rfl (.plain rfl (by simp) rfl) (fun hb => o_ldp S3 rfl rfl rfl) ?_
  refine WPl.gv 2 rfl rfl (.plain rfl (by simp) rfl) (fun hb => o_fldp F28_0 rfl) ?_
  refine WPl.gv 2 rfl rfl (.plain rfl (by simp) rfl) (fun hb => o_fldp F25_0 rfl) ?_
  refine WPl.gv 2 rfl rfl (.plain rfl (by simp) rfl) (fun hb => o_ldp S3 rfl rfl rfl) ?_
  refine WPl.gc0 2 rfl rfl (.plain rfl (by simp) rfl) (fun hb => o_sig 3 id (c35 s.room s.pounds 999) e35 rfl rfl rfl w35 trivial r35) ?_
  refine WPl.gv 2 rfl rfl (.plain rfl (by simp) rfl) (fun hb => o_not rfl) ?_
  refine WPl.v rfl (o_or rfl rfl rfl (by first | (simp; done) | simp_all)) ?_
  refine WPl.v rfl (o_move rfl) ?_
  refine WPl.bit 3 4 (!((!(isPot s.pounds s.tl s.th s.al s.ah)) || (!(within s.room s.pounds 999)))) rfl rfl ?_
  refine WPl.gv 3 rfl rfl (.plain rfl (by simp) rfl) (fun hb => o_fldp F28_2 rfl) ?_
  refine WPl.gv 3 rfl rfl (.plain rfl (by simp) rfl) (fun hb => o_ldpg G23 rfl rfl rfl) ?_
  refine WPl.gc0 3 rfl rfl (.plain rfl (by simp) rfl) (fun hb => o_sig 4 id (c85 s.tpl s.tph 1000) e85 rfl rfl rfl w85 trivial r85) ?_
  refine WPl.gv 3 rfl rfl (.plain rfl (by simp) rfl) (fun hb => o_not rfl) ?_
  refine WPl.v rfl (o_or rfl rfl rfl (by first | (simp; done) | simp_all)) ?_
  refine WPl.v rfl (o_move rfl) ?_
  refine WPl.bit 4 5 (!(((!(isPot s.pounds s.tl s.th s.al s.ah)) || (!(within s.room s.pounds 999))) || (!(isSpan s.tpl s.tph 1000)))) rfl rfl ?_
  refine WPl.gv 4 rfl rfl (.plain rfl (by simp) rfl) (fun hb => o_fldp F28_3 rfl) ?_
  refine WPl.gv 4 rfl rfl (.plain rfl (by simp) rfl) (fun hb => o_ldpg G23 rfl rfl rfl) ?_
  refine WPl.gc0 4 rfl rfl (.plain rfl (by simp) rfl) (fun hb => o_sig 5 id (c85 s.apl s.aph 1000) e85 rfl rfl rfl w85 trivial r85) ?_
  refine WPl.gv 4 rfl rfl (.plain rfl (by simp) rfl) (fun hb => o_not rfl) ?_
  refine WPl.v rfl (o_or rfl rfl rfl (by first | (simp; done) | simp_all)) ?_
  refine WPl.v rfl (o_move rfl) ?_
  refine WPl.bit 5 6 (!((((!(isPot s.pounds s.tl s.th s.al s.ah)) || (!(within s.room s.pounds 999))) || (!(isSpan s.tpl s.tph 1000))) || (!(isSpan s.apl s.aph 1000)))) rfl rfl ?_
  refine WPl.gv 5 rfl rfl (.plain rfl (by simp) rfl) (fun hb => o_fldp F28_4 rfl) ?_
  refine WPl.gv 5 rfl rfl (.plain rfl (by simp) rfl) (fun hb => o_ldp S26 rfl rfl rfl) ?_
  refine WPl.gv 5 rfl rfl (.plain rfl (by simp) rfl) (fun hb => o_lenq L26 rfl (lx rfl)) ?_
  refine WPl.gv 5 rfl rfl (.plain rfl (by simp) rfl) (fun hb => o_gtr rfl rfl) ?_
  refine WPl.v rfl (o_or rfl rfl rfl (by first | (simp; done) | simp_all)) ?_
  refine WPl.nil ?_
  refine EX.then ?_
  refine WP.cond rfl (fun hc1 => ?_) (fun hc1 => ?_)
  · try simp only [decide_eq_true_eq, decide_eq_false_iff_not, Bool.and_eq_true, Bool.or_eq_true, Bool.and_eq_false_iff, Bool.or_eq_false_iff, Bool.not_eq_true', Bool.not_eq_false', ne_eq, Decidable.not_not] at hc1
    refine WP.seq ?_
    refine WP.region ?_
    refine WPl.v rfl (o_assign rfl) ?_
    refine WPl.nil ?_
    refine EX.then ?_
    refine WP.ret ?_
    refine EX.ret_then ?_
    have h0 : s.head = false := by simp [Shop.head]; (try simp at hc1); grind
    rw [show errM s.chk = 10 from by simp [errM, Shop.chk, h0]]
    exact EX.fin id (.inl rfl) rfl (.tmp rfl .nil) rfl (by simp [SV.res, El.res, At.res, keys]) trivial (by simp) (by simp)
  · try simp only [decide_eq_true_eq, decide_eq_false_iff_not, Bool.and_eq_true, Bool.or_eq_true, Bool.and_eq_false_iff, Bool.or_eq_false_iff, Bool.not_eq_true', Bool.not_eq_false', ne_eq, Decidable.not_not] at hc1
    refine WP.skip ?_
    refine EX.then ?_
    refine WP.seq ?_
    refine WP.seq ?_
    refine WP.region ?_
    refine WPl.v rfl (o_assign rfl) ?_
    refine WPl.nil ?_
    refine EX.then ?_
    refine WP.block ?_
    refine WP.loop (Gh := Nat) (fun i => ⟨6, [(1, .e (.a (.p 1 (0)))), (2, .i (0)), (3, .i ((i : Int)))], [(0, PL EPig (s.pigs))], [(1, .blk [ai (s.pounds), ai (s.tl), ai (s.th), ai (s.al), ai (s.ah), ai (s.room), ai (s.tpl), ai (s.tph), ai (s.apl), ai (s.aph), .q 0] 28)], [], []⟩) (fun i => (i : Int) ≤ s.pigs.length ∧ ∀ j : Nat, j < i → (nth s.pigs j).chk = true) (fun i => s.pigs.length - i) (0) id ?_ (LeR.of ⟨rfl, rfl, rfl, trivial⟩ ⟨(lx rfl), trivial⟩ ⟨rfl, trivial⟩ rfl rfl rfl rfl rfl) ?_
    · exact ⟨by omega, fun j hj => absurd hj (Nat.not_lt_zero j)⟩
    intro i hφ
    obtain ⟨hi, hall⟩ := hφ
    refine WP.seq ?_
    refine WP.seq ?_
    refine WP.region ?_
    refine WPl.v rfl (o_move rfl) ?_
    refine WPl.v rfl (o_fldp F28_4 rfl) ?_
    refine WPl.v rfl (o_ldp S26 rfl rfl rfl) ?_
    refine WPl.v rfl (o_lenq L26 rfl (lx rfl)) ?_
    refine WPl.v rfl (o_lss rfl rfl) ?_
    refine WPl.nil ?_
    refine EX.then ?_
    refine WP.cond rfl (fun hc2 => ?_) (fun hc2 => ?_)
    · try simp only [decide_eq_true_eq, decide_eq_false_iff_not, Bool.and_eq_true, Bool.or_eq_true, Bool.and_eq_false_iff, Bool.or_eq_false_iff, Bool.not_eq_true', Bool.not_eq_false', ne_eq, Decidable.not_not] at hc2
      refine WP.skip ?_
      refine EX.then ?_
      refine WP.seq ?_
      refine WP.block ?_
      refine WP.seq ?_
      refine WP.region ?_
      refine WPl.v rfl (o_fldp F28_4 rfl) ?_
      refine WPl.v rfl (o_ldp S26 rfl rfl rfl) ?_
      refine WPl.v rfl (o_move rfl) ?_
      refine WPl.x 6 7 rfl rfl rfl (o_idx L26 rfl (lx rfl) rfl (by first | omega | (simp; omega)) (by first | omega | (simp; omega))) ?_
      refine WPl.v rfl (o_ldqg G78 rfl (lx rfl) (strG rfl) rfl rfl) ?_
      refine WPl.cs 7 rfl rfl rfl rfl (o_sig 7 id (c124 (nth s.pigs (i : Int))) e124 rfl rfl rfl w124 trivial r124) ?_
      refine WPl.v rfl (o_not rfl) ?_
      refine WPl.nil ?_
      refine EX.then ?_
      refine WP.cond rfl (fun hc3 => ?_) (fun hc3 => ?_)
      · try simp only [decide_eq_true_eq, decide_eq_false_iff_not, Bool.and_eq_true, Bool.or_eq_true, Bool.and_eq_false_iff, Bool.or_eq_false_iff, Bool.not_eq_true', Bool.not_eq_false', ne_eq, Decidable.not_not] at hc3
        refine WP.seq ?_
        refine WP.region ?_
        refine WPl.v rfl (o_assign rfl) ?_
        refine WPl.nil ?_
        refine EX.then ?_
        refine WP.ret ?_
        refine EX.ret_blk ?_
        refine EX.ret_then ?_
        refine EX.ret_then ?_
        refine EX.ret_blk ?_
        refine EX.ret_then ?_
        rw [show errM s.chk = 10 from by simp [errM, Shop.chk, not_all (show i < s.pigs.length by omega) (by simpa using hc3)]]
        exact EX.fin id (.inl rfl) rfl (.tmp rfl .nil) rfl (by simp [SV.res, El.res, At.res, keys]) trivial (by simp) (by simp)
      · try simp only [decide_eq_true_eq, decide_eq_false_iff_not, Bool.and_eq_true, Bool.or_eq_true, Bool.and_eq_false_iff, Bool.or_eq_false_iff, Bool.not_eq_true', Bool.not_eq_false', ne_eq, Decidable.not_not] at hc3
        refine WP.skip ?_
        refine EX.blk ?_
        refine EX.then ?_
        refine WP.region ?_
        refine WPl.v rfl (o_move rfl) ?_
        refine WPl.v rfl (o_add rfl rfl (by first | omega | (simp; omega)) (by first | omega | (simp; omega))) ?_
        refine WPl.v rfl (o_assign rfl) ?_
        refine WPl.nil ?_
        refine EX.again (i + 1) id (by exact ⟨by omega, fun j hj => by rcases Nat.lt_succ_iff_lt_or_eq.1 hj with h | rfl; exact hall j h; simpa using hc3⟩) (by omega) (LeR.of ⟨rfl, rfl, rfl, trivial⟩ ⟨(lx rfl), trivial⟩ ⟨rfl, trivial⟩ rfl rfl rfl rfl rfl)
    · try simp only [decide_eq_true_eq, decide_eq_false_iff_not, Bool.and_eq_true, Bool.or_eq_true, Bool.and_eq_false_iff, Bool.or_eq_false_iff, Bool.not_eq_true', Bool.not_eq_false', ne_eq, Decidable.not_not] at hc2
      refine WP.exit ?_
      refine EX.exit_then ?_
      refine EX.exit_then ?_
      refine EX.exit_blk ?_
      refine EX.then ?_
      refine WP.seq ?_
      refine WP.region ?_
      refine WPl.v rfl (o_assign rfl) ?_
      refine WPl.nil ?_
      refine EX.then ?_
      refine WP.ret ?_
      have h0 : s.head = true := by simp [Shop.head]; (try simp at hc1); grind
      rw [show errM s.chk = 0 from by simp [errM, Shop.chk, h0, all_of (fun j hj => hall j (by omega))]]
      exact EX.fin id (.inl rfl) rfl (.tmp rfl .nil) rfl (by simp [SV.res, El.res, At.res, keys]) trivial (by simp) (by simp)
theorem w84 {s : Shop} : ∀ x ∈ ([.e (.g [ai (s.pounds), ai (s.tl), ai (s.th), ai (s.al), ai (s.ah), ai (s.room), ai (s.tpl), ai (s.tph), ai (s.apl), ai (s.aph), .q 0])] : List SV), x.res (keys (α := Pred) [(0, PL EPig (s.pigs))]) := by simp [SV.res, El.res, At.res, keys]
theorem r84 {s : Shop} : SV.res (keys (α := Pred) []) (.i (errM s.chk)) := by simp [SV.res, El.res, At.res, keys]
set_option maxHeartbeats 4000000 in
theorem c84 (s : Shop) (hl : s.pigs.length ≤ 40) : Sig Try.prog 84 [.e (.g [ai (s.pounds), ai (s.tl), ai (s.th), ai (s.al), ai (s.ah), ai (s.room), ai (s.tpl), ai (s.tph), ai (s.apl), ai (s.aph), .q 0])] [(0, PL EPig (s.pigs))] (.i (errM s.chk)) [] := by
  refine Sig.intro Try.func84 rfl 1 [(0, .e (.g [ai (s.pounds), ai (s.tl), ai (s.th), ai (s.al), ai (s.ah), ai (s.room), ai (s.tpl), ai (s.tph), ai (s.apl), ai (s.aph), .q 0]))] rfl w84 rfl rfl fun I w => ?_
  refine WP.seq ?_
  refine WP.region ?_
  refine WPl.l 1 2 rfl rfl rfl (o_boxg rfl) ?_
  refine WPl.v rfl (o_assign rfl) ?_
  refine WPl.nil ?_
  refine EX.then ?_
  refine WP.seq ?_
  refine WP.region ?_
  refine WPl.v rfl (o_fldp F28_0 rfl) ?_
  refine WPl.v rfl (o_ldpg G25 rfl rfl rfl) ?_
  refine WPl.cs 2 rfl rfl rfl rfl (o_sig 2 id (c132 s.pounds s.tl s.th s.al s.ah) e132 rfl rfl rfl w132 trivial r132) ?_
  refine WPl.v rfl (o_move rfl) ?_
  refine WPl.bit 2 3 (isPot s.pounds s.tl s.th s.al s.ah) rfl rfl ?_
  refine WPl.gv 2 rfl rfl (.plain rfl Iff.rfl rfl) (fun hb => o_fldp F28_1 rfl) ?_
  refine WPl.gv 2 rfl rfl (.plain rfl Iff.rfl rfl) (fun hb => o_ldp S3 rfl rfl rfl) ?_
  refine WPl.gv 2 rfl rfl (.plain rfl Iff.rfl rfl) (fun hb => o_fldp F28_0 rfl) ?_
  refine WPl.gv 2 rfl rfl (.plain rfl Iff.rfl rfl) (fun hb => o_fldp F25_0 rfl) ?_
  refine WPl.gv 2 rfl rfl (.plain rfl Iff.rfl rfl) (fun hb => o_ldp S3 rfl rfl rfl) ?_
  refine WPl.gc0 2 rfl rfl (.plain rfl Iff.rfl rfl) (fun hb => o_sig 3 id (c133 s.room s.pounds 999) e133 rfl rfl rfl w133 trivial r133) ?_
  refine WPl.v rfl (o_and rfl rfl rfl id) ?_
  refine WPl.v rfl (o_move rfl) ?_
  refine WPl.bit 3 4 ((isPot s.pounds s.tl s.th s.al s.ah) && (within s.room s.pounds 999)) rfl rfl ?_
  refine WPl.gv 3 rfl rfl (.plain rfl Iff.rfl rfl) (fun hb => o_fldp F28_2 rfl) ?_
  refine WPl.gv 3 rfl rfl (.plain rfl Iff.rfl rfl) (fun hb => o_ldpg G23 rfl rfl rfl) ?_
  refine WPl.gc0 3 rfl rfl (.plain rfl Iff.rfl rfl) (fun hb => o_sig 4 id (c134 s.tpl s.tph 1000) e134 rfl rfl rfl w134 trivial r134) ?_
  refine WPl.v rfl (o_and rfl rfl rfl id) ?_
  refine WPl.v rfl (o_move rfl) ?_
  refine WPl.bit 4 5 (((isPot s.pounds s.tl s.th s.al s.ah) && (within s.room s.pounds 999)) && (isSpan s.tpl s.tph 1000)) rfl rfl ?_
  refine WPl.gv 4 rfl rfl (.plain rfl Iff.rfl rfl) (fun hb => o_fldp F28_3 rfl) ?_
  refine WPl.gv 4 rfl rfl (.plain rfl Iff.rfl rfl) (fun hb => o_ldpg G23 rfl rfl rfl) ?_
  refine WPl.gc0 4 rfl rfl (.plain rfl Iff.rfl rfl) (fun hb => o_sig 5 id (c134 s.apl s.aph 1000) e134 rfl rfl rfl w134 trivial r134) ?_
  refine WPl.v rfl (o_and rfl rfl rfl id) ?_
  refine WPl.v rfl (o_move rfl) ?_
  refine WPl.bit 5 6 ((((isPot s.pounds s.tl s.th s.al s.ah) && (within s.room s.pounds 999)) && (isSpan s.tpl s.tph 1000)) && (isSpan s.apl s.aph 1000)) rfl rfl ?_
  refine WPl.gv 5 rfl rfl (.plain rfl Iff.rfl rfl) (fun hb => o_fldp F28_4 rfl) ?_
  refine WPl.gv 5 rfl rfl (.plain rfl Iff.rfl rfl) (fun hb => o_ldp S26 rfl rfl rfl) ?_
  refine WPl.gv 5 rfl rfl (.plain rfl Iff.rfl rfl) (fun hb => o_lenq L26 rfl (lx rfl)) ?_
  refine WPl.gv 5 rfl rfl (.plain rfl Iff.rfl rfl) (fun hb => o_leq rfl rfl) ?_
  refine WPl.v rfl (o_and rfl rfl rfl id) ?_
  refine WPl.v rfl (o_assign rfl) ?_
  refine WPl.nil ?_
  refine EX.then ?_
  refine WP.seq ?_
  refine WP.seq ?_
  refine WP.region ?_
  refine WPl.v rfl (o_fldp F28_4 rfl) ?_
  refine WPl.v rfl (o_ldp S26 rfl rfl rfl) ?_
  refine WPl.v rfl (o_lenq L26 rfl (lx rfl)) ?_
  refine WPl.v rfl (o_move rfl) ?_
  refine WPl.nil ?_
  refine EX.then ?_
  refine WP.block ?_
  refine WP.loop (Gh := Nat) (fun i => ⟨6, [(2, .i (0)), (3, .b (s.head && allTo Pig.chk s.pigs i)), (34, .e (.a (.q 0))), (35, .i ((s.pigs.length : Int))), (36, .i ((i : Int)))], [(0, PL EPig (s.pigs))], [], [], []⟩) (fun i => i ≤ s.pigs.length) (fun i => s.pigs.length - i) (0) id ?_ (LeR.of ⟨rfl, (congrArg (fun z => some (SV.b z)) (show (((((isPot s.pounds s.tl s.th s.al s.ah) && (within s.room s.pounds 999)) && (isSpan s.tpl s.tph 1000)) && (isSpan s.apl s.aph 1000)) && (decide ((s.pigs.length : Int) ≤ 4))) = ((fun i => s.head && allTo Pig.chk s.pigs i) 0) from by simp [Shop.head, allTo])), rfl, rfl, rfl, trivial⟩ ⟨(lx rfl), trivial⟩ trivial rfl rfl rfl rfl rfl) ?_
  · first | trivial | omega | (constructor <;> omega) | simp
  intro i hφ
  try simp only [] at hφ
  refine WP.seq ?_
  refine WP.region ?_
  refine WPl.v rfl (o_lss rfl rfl) ?_
  refine WPl.nil ?_
  refine EX.then ?_
  refine WP.seq ?_
  refine WP.cond rfl (fun hc1 => ?_) (fun hc1 => ?_)
  · try simp only [decide_eq_true_eq, decide_eq_false_iff_not, Bool.and_eq_true, Bool.or_eq_true, Bool.and_eq_false_iff, Bool.or_eq_false_iff, Bool.not_eq_true', Bool.not_eq_false', ne_eq, Decidable.not_not] at hc1
    refine WP.skip ?_
    refine EX.then ?_
    refine WP.seq ?_
    refine WP.block ?_
    refine WP.seq ?_
    refine WP.region ?_
    refine WPl.x 6 7 rfl rfl rfl (o_idx L26 rfl (lx rfl) rfl (by first | omega | (simp; omega)) (by first | omega | (simp; omega))) ?_
    refine WPl.v rfl (o_ldqg G78 rfl (lx rfl) (strG rfl) rfl rfl) ?_
    refine WPl.l 7 8 rfl rfl rfl (o_alloc Z78) ?_
    refine WPl.s1 (o_stag G78 rfl rfl rfl ⟨rfl, rfl, rfl, rfl, rfl, trivial⟩ rfl rfl) ?_
    refine WPl.nil ?_
    refine EX.then ?_
    refine WP.region ?_
    refine WPl.v rfl (o_move rfl) ?_
    refine WPl.v rfl (o_move rfl) ?_
    refine WPl.bit 8 9 (s.head && allTo Pig.chk s.pigs i) rfl rfl ?_
    refine WPl.gv 8 rfl rfl (.plain rfl Iff.rfl rfl) (fun hb => o_fldp F78_0 rfl) ?_
    refine WPl.gv 8 rfl rfl (.plain rfl Iff.rfl rfl) (fun hb => o_ldp S3 rfl rfl rfl) ?_
    refine WPl.gc0 8 rfl rfl (.plain rfl Iff.rfl rfl) (fun hb => o_sig 9 id (c133 ((nth s.pigs (i : Int)).pounds) 1 40) e133 rfl rfl rfl w133 trivial r133) ?_
    refine WPl.v rfl (o_and rfl rfl rfl id) ?_
    refine WPl.v rfl (o_move rfl) ?_
    refine WPl.bit 9 10 ((s.head && allTo Pig.chk s.pigs i) && (within ((nth s.pigs (i : Int)).pounds) 1 40)) rfl rfl ?_
    refine WPl.gv 9 rfl rfl (.plain rfl Iff.rfl rfl) (fun hb => o_fldp F78_1 rfl) ?_
    refine WPl.gv 9 rfl rfl (.plain rfl Iff.rfl rfl) (fun hb => o_ldp S3 rfl rfl rfl) ?_
    refine WPl.gv 9 rfl rfl (.plain rfl Iff.rfl rfl) (fun hb => o_fldp F78_0 rfl) ?_
    refine WPl.gv 9 rfl rfl (.plain rfl Iff.rfl rfl) (fun hb => o_ldp S3 rfl rfl rfl) ?_
    refine WPl.gc0 9 rfl rfl (.plain rfl Iff.rfl rfl) (fun hb => o_sig 10 id (c133 ((nth s.pigs (i : Int)).tin) 0 ((nth s.pigs (i : Int)).pounds)) e133 rfl rfl rfl w133 trivial r133) ?_
    refine WPl.v rfl (o_and rfl rfl rfl id) ?_
    refine WPl.v rfl (o_move rfl) ?_
    refine WPl.bit 10 11 (((s.head && allTo Pig.chk s.pigs i) && (within ((nth s.pigs (i : Int)).pounds) 1 40)) && (within ((nth s.pigs (i : Int)).tin) 0 ((nth s.pigs (i : Int)).pounds))) rfl rfl ?_
    refine WPl.gv 10 rfl rfl (.plain rfl Iff.rfl rfl) (fun hb => o_fldp F78_2 rfl) ?_
    refine WPl.gv 10 rfl rfl (.plain rfl Iff.rfl rfl) (fun hb => o_ldp S3 rfl rfl rfl) ?_
    refine WPl.gv 10 rfl rfl (.plain rfl Iff.rfl rfl) (fun hb => o_fldp F78_0 rfl) ?_
    refine WPl.gv 10 rfl rfl (.plain rfl Iff.rfl rfl) (fun hb => o_ldp S3 rfl rfl rfl) ?_
    refine WPl.gv 10 rfl rfl (.plain rfl Iff.rfl rfl) (fun hb => o_fldp F78_1 rfl) ?_
    refine WPl.gv 10 rfl rfl (.plain rfl Iff.rfl rfl) (fun hb => o_ldp S3 rfl rfl rfl) ?_
    refine WPl.gv 10 rfl rfl (.plain rfl Iff.rfl rfl) (fun hb => o_sub rfl rfl (by simp [within] at hb; omega) (by simp [within] at hb; omega)) ?_
    refine WPl.gc0 10 rfl rfl (.plain rfl Iff.rfl rfl) (fun hb => o_sig 11 id (c133 ((nth s.pigs (i : Int)).ant) 0 (((nth s.pigs (i : Int)).pounds) - ((nth s.pigs (i : Int)).tin))) e133 rfl rfl rfl w133 trivial r133) ?_
    refine WPl.v rfl (o_and rfl rfl rfl id) ?_
    refine WPl.v rfl (o_move rfl) ?_
    refine WPl.bit 11 12 ((((s.head && allTo Pig.chk s.pigs i) && (within ((nth s.pigs (i : Int)).pounds) 1 40)) && (within ((nth s.pigs (i : Int)).tin) 0 ((nth s.pigs (i : Int)).pounds))) && (within ((nth s.pigs (i : Int)).ant) 0 (((nth s.pigs (i : Int)).pounds) - ((nth s.pigs (i : Int)).tin)))) rfl rfl ?_
    refine WPl.gv 11 rfl rfl (.plain rfl Iff.rfl rfl) (fun hb => o_fldp F78_3 rfl) ?_
    refine WPl.gv 11 rfl rfl (.plain rfl Iff.rfl rfl) (fun hb => o_ldp S3 rfl rfl rfl) ?_
    refine WPl.gc0 11 rfl rfl (.plain rfl Iff.rfl rfl) (fun hb => o_sig 12 id (c133 ((nth s.pigs (i : Int)).pence) 0 99) e133 rfl rfl rfl w133 trivial r133) ?_
    refine WPl.v rfl (o_and rfl rfl rfl id) ?_
    refine WPl.v rfl (o_move rfl) ?_
    refine WPl.bit 12 13 (((((s.head && allTo Pig.chk s.pigs i) && (within ((nth s.pigs (i : Int)).pounds) 1 40)) && (within ((nth s.pigs (i : Int)).tin) 0 ((nth s.pigs (i : Int)).pounds))) && (within ((nth s.pigs (i : Int)).ant) 0 (((nth s.pigs (i : Int)).pounds) - ((nth s.pigs (i : Int)).tin)))) && (within ((nth s.pigs (i : Int)).pence) 0 99)) rfl rfl ?_
    refine WPl.gv 12 rfl rfl (.plain rfl Iff.rfl rfl) (fun hb => o_fldp F78_4 rfl) ?_
    refine WPl.gv 12 rfl rfl (.plain rfl Iff.rfl rfl) (fun hb => o_ldp S3 rfl rfl rfl) ?_
    refine WPl.gc0 12 rfl rfl (.plain rfl Iff.rfl rfl) (fun hb => o_sig 13 id (c133 ((nth s.pigs (i : Int)).many) 0 5) e133 rfl rfl rfl w133 trivial r133) ?_
    refine WPl.v rfl (o_and rfl rfl rfl id) ?_
    refine WPl.v rfl (o_assign rfl) ?_
    refine WPl.nil ?_
    refine EX.blk ?_
    refine EX.then ?_
    refine WP.region ?_
    refine WPl.v rfl (o_add rfl rfl (by first | omega | (simp; omega)) (by first | omega | (simp; omega))) ?_
    refine WPl.v rfl (o_move rfl) ?_
    refine WPl.nil ?_
    refine EX.again (i + 1) id (by first | omega | (constructor <;> omega)) (by omega) (LeR.of ⟨rfl, (congrArg (fun z => some (SV.b z)) (show ((((((s.head && allTo Pig.chk s.pigs i) && (within ((nth s.pigs (i : Int)).pounds) 1 40)) && (within ((nth s.pigs (i : Int)).tin) 0 ((nth s.pigs (i : Int)).pounds))) && (within ((nth s.pigs (i : Int)).ant) 0 (((nth s.pigs (i : Int)).pounds) - ((nth s.pigs (i : Int)).tin)))) && (within ((nth s.pigs (i : Int)).pence) 0 99)) && (within ((nth s.pigs (i : Int)).many) 0 5)) = ((fun i => s.head && allTo Pig.chk s.pigs i) (i + 1)) from by simp only [allTo, Pig.chk, Bool.and_assoc])), rfl, rfl, rfl, trivial⟩ ⟨(lx rfl), trivial⟩ trivial rfl rfl rfl rfl rfl)
  · try simp only [decide_eq_true_eq, decide_eq_false_iff_not, Bool.and_eq_true, Bool.or_eq_true, Bool.and_eq_false_iff, Bool.or_eq_false_iff, Bool.not_eq_true', Bool.not_eq_false', ne_eq, Decidable.not_not] at hc1
    refine WP.exit ?_
    refine EX.exit_then ?_
    refine EX.exit_then ?_
    refine EX.exit_blk ?_
    refine EX.then ?_
    refine WP.seq ?_
    refine WP.seq ?_
    refine WP.region ?_
    refine WPl.v rfl (o_move rfl) ?_
    refine WPl.v rfl (o_not rfl) ?_
    refine WPl.nil ?_
    refine EX.then ?_
    refine WP.cond rfl (fun hc2 => ?_) (fun hc2 => ?_)
    · try simp only [decide_eq_true_eq, decide_eq_false_iff_not, Bool.and_eq_true, Bool.or_eq_true, Bool.and_eq_false_iff, Bool.or_eq_false_iff, Bool.not_eq_true', Bool.not_eq_false', ne_eq, Decidable.not_not] at hc2
      refine WP.seq ?_
      refine WP.region ?_
      refine WPl.v rfl (o_assign rfl) ?_
      refine WPl.nil ?_
      refine EX.then ?_
      refine WP.ret ?_
      refine EX.ret_then ?_
      have hi : i = s.pigs.length := by omega
      rw [show errM s.chk = 10 from by subst hi; rw [allTo_len] at hc2; simp only [errM, Shop.chk]; rcases hc2 with h | h <;> simp [h]]
      exact EX.fin id (.inl rfl) rfl (.tmp rfl .nil) rfl (by simp [SV.res, El.res, At.res, keys]) trivial (by simp) (by simp)
    · try simp only [decide_eq_true_eq, decide_eq_false_iff_not, Bool.and_eq_true, Bool.or_eq_true, Bool.and_eq_false_iff, Bool.or_eq_false_iff, Bool.not_eq_true', Bool.not_eq_false', ne_eq, Decidable.not_not] at hc2
      refine WP.skip ?_
      refine EX.then ?_
      refine WP.seq ?_
      refine WP.region ?_
      refine WPl.v rfl (o_assign rfl) ?_
      refine WPl.nil ?_
      refine EX.then ?_
      refine WP.ret ?_
      have hi : i = s.pigs.length := by omega
      rw [show errM s.chk = 0 from by subst hi; rw [allTo_len] at hc2; simp [errM, Shop.chk]; simpa using hc2]
      exact EX.fin id (.inl rfl) rfl (.tmp rfl .nil) rfl (by simp [SV.res, El.res, At.res, keys]) trivial (by simp) (by simp)
theorem w22 {f : Fnd} : ∀ x ∈ ([.e (.g [ai (f.shop.pounds), ai (f.shop.tl), ai (f.shop.th), ai (f.shop.al), ai (f.shop.ah), ai (f.shop.room), ai (f.shop.tpl), ai (f.shop.tph), ai (f.shop.apl), ai (f.shop.aph), .q 0, .q 1])] : List SV), x.res (keys (α := Pred) [(0, PL EPig (f.shop.pigs)), (1, PL ENight (f.nights))]) := by simp [SV.res, El.res, At.res, keys]
theorem r22 {f : Fnd} : SV.res (keys (α := Pred) []) (.i (errW f.chk)) := by simp [SV.res, El.res, At.res, keys]
set_option maxHeartbeats 4000000 in
theorem c22 (f : Fnd)  : Sig Try.prog 22 [.e (.g [ai (f.shop.pounds), ai (f.shop.tl), ai (f.shop.th), ai (f.shop.al), ai (f.shop.ah), ai (f.shop.room), ai (f.shop.tpl), ai (f.shop.tph), ai (f.shop.apl), ai (f.shop.aph), .q 0, .q 1])] [(0, PL EPig (f.shop.pigs)), (1, PL ENight (f.nights))] (.i (errW f.chk)) [] := by
  refine Sig.intro Try.func22 rfl 2 [(0, .e (.g [ai (f.shop.pounds), ai (f.shop.tl), ai (f.shop.th), ai (f.shop.al), ai (f.shop.ah), ai (f.shop.room), ai (f.shop.tpl), ai (f.shop.tph), ai (f.shop.apl), ai (f.shop.aph), .q 0, .q 1]))] rfl w22 rfl rfl fun I w => ?_
  refine WP.seq ?_
  refine WP.region ?_
  refine WPl.l 2 3 rfl rfl rfl (o_boxg rfl) ?_
  refine WPl.v rfl (o_assign rfl) ?_
  refine WPl.nil ?_
  refine EX.then ?_
  refine WP.seq ?_
  refine WP.seq ?_
  refine WP.region ?_
  refine WPl.v rfl (o_fldp F31_0 rfl) ?_
  refine WPl.v rfl (o_ldpg G28 rfl rfl rfl) ?_
  refine WPl.cs 3 rfl rfl rfl rfl (o_sig 3 (ren [(0, 0)]) (c71 f.shop) e71 rfl rfl rfl w71 ⟨(lx rfl), trivial⟩ r71) ?_
  refine WPl.v rfl (o_neq rfl rfl) ?_
  refine WPl.v rfl (o_move rfl) ?_
  refine WPl.bit 3 4 (!(decide ((errM f.shop.chk) ≠ 0))) rfl rfl ?_
  refine WPl.gv 3 rfl rfl (.plain rfl (by simp) rfl) (fun hb => o_fldp F31_1 rfl) ?_
  refine WPl.gv 3 rfl rfl (.plain rfl (by simp) rfl) (fun hb => o_ldp S29 rfl rfl rfl) ?_
  refine WPl.gv 3 rfl rfl (.plain rfl (by simp) rfl) (fun hb => o_lenq L29 rfl (lx rfl)) ?_
  refine WPl.gv 3 rfl rfl (.plain rfl (by simp) rfl) (fun hb => o_gtr rfl rfl) ?_
  refine WPl.v rfl (o_or rfl rfl rfl (by first | (simp; done) | simp_all)) ?_
  refine WPl.nil ?_
  refine EX.then ?_
  refine WP.cond rfl (fun hc1 => ?_) (fun hc1 => ?_)
  · try simp only [decide_eq_true_eq, decide_eq_false_iff_not, Bool.and_eq_true, Bool.or_eq_true, Bool.and_eq_false_iff, Bool.or_eq_false_iff, Bool.not_eq_true', Bool.not_eq_false', ne_eq, Decidable.not_not] at hc1
    refine WP.seq ?_
    refine WP.region ?_
    refine WPl.v rfl (o_assign rfl) ?_
    refine WPl.nil ?_
    refine EX.then ?_
    refine WP.ret ?_
    refine EX.ret_then ?_
    rw [show errW f.chk = 130 from by simp [errM_eq] at hc1; simp only [errW, Fnd.chk]; rcases hc1 with h | h; simp [h]; simp [show ¬ ((f.nights.length : Int) ≤ 4) by omega]]
    exact EX.fin id (.inl rfl) rfl (.tmp rfl .nil) rfl (by simp [SV.res, El.res, At.res, keys]) trivial (by simp) (by simp)
  · try simp only [decide_eq_true_eq, decide_eq_false_iff_not, Bool.and_eq_true, Bool.or_eq_true, Bool.and_eq_false_iff, Bool.or_eq_false_iff, Bool.not_eq_true', Bool.not_eq_false', ne_eq, Decidable.not_not] at hc1
    refine WP.skip ?_
    refine EX.then ?_
    refine WP.seq ?_
    refine WP.region ?_
    refine WPl.v rfl (o_assign rfl) ?_
    refine WPl.nil ?_
    refine EX.then ?_
    refine WP.seq ?_
    refine WP.seq ?_
    refine WP.region ?_
    refine WPl.v rfl (o_assign rfl) ?_
    refine WPl.nil ?_
    refine EX.then ?_
    refine WP.block ?_
    refine WP.loop (Gh := Nat) (fun i => ⟨4, [(1, .e (.a (.p 2 (0)))), (2, .i (0)), (3, .i (hiTo f.nights i)), (4, .i ((i : Int)))], [(0, PL EPig (f.shop.pigs)), (1, PL ENight (f.nights))], [(2, .blk [ai (f.shop.pounds), ai (f.shop.tl), ai (f.shop.th), ai (f.shop.al), ai (f.shop.ah), ai (f.shop.room), ai (f.shop.tpl), ai (f.shop.tph), ai (f.shop.apl), ai (f.shop.aph), .q 0, .q 1] 31)], [], []⟩) (fun i => i ≤ f.nights.length ∧ allTo Night.chk f.nights i = true) (fun i => f.nights.length - i) (0) id ?_ (LeR.of ⟨rfl, rfl, rfl, rfl, trivial⟩ ⟨(lx rfl), (lx rfl), trivial⟩ ⟨rfl, trivial⟩ rfl rfl rfl rfl rfl) ?_
    · exact ⟨by omega, rfl⟩
    intro i hφ
    obtain ⟨hi, hall⟩ := hφ; have hb := hiTo_bnd hall; have hok : f.shop.chk = true ∧ (f.nights.length : Int) ≤ 4 := by (simp [errM_eq] at hc1); exact hc1
    refine WP.seq ?_
    refine WP.seq ?_
    refine WP.region ?_
    refine WPl.v rfl (o_move rfl) ?_
    refine WPl.v rfl (o_fldp F31_1 rfl) ?_
    refine WPl.v rfl (o_ldp S29 rfl rfl rfl) ?_
    refine WPl.v rfl (o_lenq L29 rfl (lx rfl)) ?_
    refine WPl.v rfl (o_lss rfl rfl) ?_
    refine WPl.nil ?_
    refine EX.then ?_
    refine WP.cond rfl (fun hc2 => ?_) (fun hc2 => ?_)
    · try simp only [decide_eq_true_eq, decide_eq_false_iff_not, Bool.and_eq_true, Bool.or_eq_true, Bool.and_eq_false_iff, Bool.or_eq_false_iff, Bool.not_eq_true', Bool.not_eq_false', ne_eq, Decidable.not_not] at hc2
      refine WP.skip ?_
      refine EX.then ?_
      refine WP.seq ?_
      refine WP.block ?_
      refine WP.seq ?_
      refine WP.seq ?_
      refine WP.region ?_
      refine WPl.v rfl (o_fldp F31_1 rfl) ?_
      refine WPl.v rfl (o_ldp S29 rfl rfl rfl) ?_
      refine WPl.v rfl (o_move rfl) ?_
      refine WPl.x 4 5 rfl rfl rfl (o_idx L29 rfl (lx rfl) rfl (by first | omega | (simp; omega)) (by first | omega | (simp; omega))) ?_
      refine WPl.v rfl (o_fldq F75_0 rfl (lx rfl)) ?_
      refine WPl.v rfl (o_ldeg G23 rfl (lx rfl) (strG rfl) rfl rfl) ?_
      refine WPl.cs 5 rfl rfl rfl rfl (o_sig 5 id (c85 ((nth f.nights (i : Int)).lo) ((nth f.nights (i : Int)).hi) 9) e85 rfl rfl rfl w85 trivial r85) ?_
      refine WPl.v rfl (o_not rfl) ?_
      refine WPl.v rfl (o_move rfl) ?_
      refine WPl.bit 5 6 (!(!(isSpan ((nth f.nights (i : Int)).lo) ((nth f.nights (i : Int)).hi) 9))) rfl rfl ?_
      refine WPl.gv 5 rfl rfl (.plain rfl (by simp) rfl) (fun hb => o_fldp F31_1 rfl) ?_
      refine WPl.gv 5 rfl rfl (.plain rfl (by simp) rfl) (fun hb => o_ldp S29 rfl rfl rfl) ?_
      refine WPl.gv 5 rfl rfl (.plain rfl (by simp) rfl) (fun hb => o_move rfl) ?_
      refine WPl.gx 5 6 7 rfl rfl rfl rfl (.plain rfl (by simp) rfl) (fun hb => o_idx L29 rfl (lx rfl) rfl (by first | omega | (simp; omega)) (by first | omega | (simp; omega))) ?_
      refine WPl.gv 5 rfl rfl (.plain rfl (by simp) rfl) (fun hb => o_fldq F75_1 rfl (lxi hb rfl)) ?_
      refine WPl.gv 5 rfl rfl (.plain rfl (by simp) rfl) (fun hb => o_lde S3 rfl (lxi hb rfl) (strI rfl)) ?_
      refine WPl.gc0 5 rfl rfl (.plain rfl (by simp) rfl) (fun hb => o_sig 7 id (c86 ((nth f.nights (i : Int)).test) 0 1) e86 rfl rfl rfl w86 trivial r86) ?_
      refine WPl.gv 5 rfl rfl (.plain rfl (by simp) rfl) (fun hb => o_not rfl) ?_
      refine WPl.v rfl (o_or rfl rfl rfl (by first | (simp; done) | simp_all)) ?_
      refine WPl.nil ?_
      refine EX.then ?_
      refine WP.cond rfl (fun hc3 => ?_) (fun hc3 => ?_)
      · try simp only [decide_eq_true_eq, decide_eq_false_iff_not, Bool.and_eq_true, Bool.or_eq_true, Bool.and_eq_false_iff, Bool.or_eq_false_iff, Bool.not_eq_true', Bool.not_eq_false', ne_eq, Decidable.not_not] at hc3
        refine WP.seq ?_
        refine WP.region ?_
        refine WPl.v rfl (o_assign rfl) ?_
        refine WPl.nil ?_
        refine EX.then ?_
        refine WP.ret ?_
        refine EX.ret_then ?_
        refine EX.ret_blk ?_
        refine EX.ret_then ?_
        refine EX.ret_then ?_
        refine EX.ret_blk ?_
        refine EX.ret_then ?_
        have hn : (nth f.nights i).chk = false := by simp [Night.chk]; (try simp at hc3); grind
        rw [show errW f.chk = 130 from by simp [errW, Fnd.chk, not_all (show i < f.nights.length by omega) hn]]
        exact EX.fin id (.inl rfl) rfl (.tmp rfl .nil) rfl (by simp [SV.res, El.res, At.res, keys]) trivial (by simp) (by simp)
      · try simp only [decide_eq_true_eq, decide_eq_false_iff_not, Bool.and_eq_true, Bool.or_eq_true, Bool.and_eq_false_iff, Bool.or_eq_false_iff, Bool.not_eq_true', Bool.not_eq_false', ne_eq, Decidable.not_not] at hc3
        refine WP.skip ?_
        refine EX.then ?_
        refine WP.region ?_
        refine WPl.v rfl (o_move rfl) ?_
        refine WPl.v rfl (o_fldp F31_1 rfl) ?_
        refine WPl.v rfl (o_ldp S29 rfl rfl rfl) ?_
        refine WPl.v rfl (o_move rfl) ?_
        refine WPl.x 7 8 rfl rfl rfl (o_idx L29 rfl (lx rfl) rfl (by first | omega | (simp; omega)) (by first | omega | (simp; omega))) ?_
        refine WPl.v rfl (o_fldq F75_0 rfl (lx rfl)) ?_
        refine WPl.v rfl (o_flde F23_1 rfl (lx rfl)) ?_
        refine WPl.v rfl (o_lde S3 rfl (lx rfl) (strI rfl)) ?_
        have hn : (nth f.nights i).chk = true := by simp [Night.chk]; simpa using hc3
        have hnb := Night.bnds hn
        refine WPl.v rfl (o_add rfl rfl (by first | omega | (simp; omega)) (by first | omega | (simp; omega))) ?_
        refine WPl.v rfl (o_assign rfl) ?_
        refine WPl.nil ?_
        refine EX.blk ?_
        refine EX.then ?_
        refine WP.region ?_
        refine WPl.v rfl (o_move rfl) ?_
        refine WPl.v rfl (o_add rfl rfl (by first | omega | (simp; omega)) (by first | omega | (simp; omega))) ?_
        refine WPl.v rfl (o_assign rfl) ?_
        refine WPl.nil ?_
        have hn : (nth f.nights i).chk = true := by simp [Night.chk]; simpa using hc3
        refine EX.again (i + 1) id (by exact ⟨by omega, by simp [allTo, hall, hn]⟩) (by omega) (LeR.of ⟨rfl, rfl, rfl, rfl, trivial⟩ ⟨(lx rfl), (lx rfl), trivial⟩ ⟨rfl, trivial⟩ rfl rfl rfl rfl rfl)
    · try simp only [decide_eq_true_eq, decide_eq_false_iff_not, Bool.and_eq_true, Bool.or_eq_true, Bool.and_eq_false_iff, Bool.or_eq_false_iff, Bool.not_eq_true', Bool.not_eq_false', ne_eq, Decidable.not_not] at hc2
      refine WP.exit ?_
      refine EX.exit_then ?_
      refine EX.exit_then ?_
      refine EX.exit_blk ?_
      refine EX.then ?_
      refine WP.seq ?_
      refine WP.seq ?_
      refine WP.region ?_
      refine WPl.v rfl (o_move rfl) ?_
      refine WPl.v rfl (o_fldp F31_0 rfl) ?_
      refine WPl.v rfl (o_fldp F28_0 rfl) ?_
      refine WPl.v rfl (o_fldp F25_1 rfl) ?_
      refine WPl.v rfl (o_fldp F23_0 rfl) ?_
      refine WPl.v rfl (o_ldp S3 rfl rfl rfl) ?_
      refine WPl.v rfl (o_gtr rfl rfl) ?_
      refine WPl.nil ?_
      refine EX.then ?_
      refine WP.cond rfl (fun hc4 => ?_) (fun hc4 => ?_)
      · try simp only [decide_eq_true_eq, decide_eq_false_iff_not, Bool.and_eq_true, Bool.or_eq_true, Bool.and_eq_false_iff, Bool.or_eq_false_iff, Bool.not_eq_true', Bool.not_eq_false', ne_eq, Decidable.not_not] at hc4
        refine WP.seq ?_
        refine WP.region ?_
        refine WPl.v rfl (o_assign rfl) ?_
        refine WPl.nil ?_
        refine EX.then ?_
        refine WP.ret ?_
        refine EX.ret_then ?_
        have hi2 : i = f.nights.length := by omega
        subst hi2
        rw [show errW f.chk = 130 from by simp only [errW, Fnd.chk]; simp [show ¬ (hiTo f.nights f.nights.length ≤ f.shop.tl) by omega]]
        exact EX.fin id (.inl rfl) rfl (.tmp rfl .nil) rfl (by simp [SV.res, El.res, At.res, keys]) trivial (by simp) (by simp)
      · try simp only [decide_eq_true_eq, decide_eq_false_iff_not, Bool.and_eq_true, Bool.or_eq_true, Bool.and_eq_false_iff, Bool.or_eq_false_iff, Bool.not_eq_true', Bool.not_eq_false', ne_eq, Decidable.not_not] at hc4
        refine WP.skip ?_
        refine EX.then ?_
        refine WP.seq ?_
        refine WP.region ?_
        refine WPl.v rfl (o_assign rfl) ?_
        refine WPl.nil ?_
        refine EX.then ?_
        refine WP.ret ?_
        have hi2 : i = f.nights.length := by omega
        subst hi2
        rw [allTo_len] at hall
        rw [show errW f.chk = 0 from by simp only [errW, Fnd.chk]; simp [hok, hall, show hiTo f.nights f.nights.length ≤ f.shop.tl by omega]]
        exact EX.fin id (.inl rfl) rfl (.tmp rfl .nil) rfl (by simp [SV.res, El.res, At.res, keys]) trivial (by simp) (by simp)
theorem w54 {f : Fnd} {n : Int} : ∀ x ∈ ([.e (.g [ai (f.shop.pounds), ai (f.shop.tl), ai (f.shop.th), ai (f.shop.al), ai (f.shop.ah), ai (f.shop.room), ai (f.shop.tpl), ai (f.shop.tph), ai (f.shop.apl), ai (f.shop.aph), .q 0, .q 1]), .i (n)] : List SV), x.res (keys (α := Pred) [(0, PL EPig (f.shop.pigs)), (1, PL ENight (f.nights))]) := by simp [SV.res, El.res, At.res, keys]
theorem r54 {f : Fnd} {n : Int} : SV.res (keys (α := Pred) []) (.b (within n 0 ((f.nights.length : Int) - 1))) := by simp [SV.res, El.res, At.res, keys]
set_option maxHeartbeats 4000000 in
theorem c54 (f : Fnd) (n : Int) (hl : f.nights.length ≤ 40) : Sig Try.prog 54 [.e (.g [ai (f.shop.pounds), ai (f.shop.tl), ai (f.shop.th), ai (f.shop.al), ai (f.shop.ah), ai (f.shop.room), ai (f.shop.tpl), ai (f.shop.tph), ai (f.shop.apl), ai (f.shop.aph), .q 0, .q 1]), .i (n)] [(0, PL EPig (f.shop.pigs)), (1, PL ENight (f.nights))] (.b (within n 0 ((f.nights.length : Int) - 1))) [] := by
  refine Sig.intro Try.func54 rfl 2 [(0, .e (.g [ai (f.shop.pounds), ai (f.shop.tl), ai (f.shop.th), ai (f.shop.al), ai (f.shop.ah), ai (f.shop.room), ai (f.shop.tpl), ai (f.shop.tph), ai (f.shop.apl), ai (f.shop.aph), .q 0, .q 1])), (1, .i (n))] rfl w54 rfl rfl fun I w => ?_
  refine WP.seq ?_
  refine WP.region ?_
  refine WPl.l 2 3 rfl rfl rfl (o_boxg rfl) ?_
  refine WPl.v rfl (o_assign rfl) ?_
  refine WPl.nil ?_
  refine EX.then ?_
  refine WP.seq ?_
  refine WP.region ?_
  refine WPl.v rfl (o_move rfl) ?_
  refine WPl.v rfl (o_fldp F31_1 rfl) ?_
  refine WPl.v rfl (o_ldp S29 rfl rfl rfl) ?_
  refine WPl.v rfl (o_lenq L29 rfl (lx rfl)) ?_
  refine WPl.v rfl (o_sub rfl rfl (by first | omega | (simp; omega)) (by first | omega | (simp; omega))) ?_
  refine WPl.cs 3 rfl rfl rfl rfl (o_sig 3 id (c86 n 0 ((f.nights.length : Int) - 1)) e86 rfl rfl rfl w86 trivial r86) ?_
  refine WPl.v rfl (o_assign rfl) ?_
  refine WPl.nil ?_
  refine EX.then ?_
  refine WP.ret ?_
  exact EX.fin id (.inl rfl) rfl (.tmp rfl .nil) rfl r54 trivial (by simp) (by simp)
theorem w27 {a b : List Int} : ∀ x ∈ ([.e (.a (.q 0)), .e (.a (.q 1))] : List SV), x.res (keys (α := Pred) [(0, PL EP.int (a)), (1, PL EP.int (b))]) := by simp [SV.res, El.res, At.res, keys]
theorem r27 {a b : List Int} : SV.res (keys (α := Pred) []) (.b (sameInts a b)) := by simp [SV.res, El.res, At.res, keys]
set_option maxHeartbeats 4000000 in
theorem c27 (a b : List Int) (hl : a.length ≤ 1000000) : Sig Try.prog 27 [.e (.a (.q 0)), .e (.a (.q 1))] [(0, PL EP.int (a)), (1, PL EP.int (b))] (.b (sameInts a b)) [] := by
  refine Sig.intro Try.func27 rfl 2 [(0, .e (.a (.q 0))), (1, .e (.a (.q 1)))] rfl w27 rfl rfl fun I w => ?_
  refine WP.seq ?_
  refine WP.region ?_
  refine WPl.v rfl (o_assign rfl) ?_
  refine WPl.nil ?_
  refine EX.then ?_
  refine WP.seq ?_
  refine WP.seq ?_
  refine WP.region ?_
  refine WPl.v rfl (o_move rfl) ?_
  refine WPl.v rfl (o_lenq L44 rfl (lx rfl)) ?_
  refine WPl.v rfl (o_move rfl) ?_
  refine WPl.v rfl (o_lenq L44 rfl (lx rfl)) ?_
  refine WPl.v rfl (o_neq rfl rfl) ?_
  refine WPl.nil ?_
  refine EX.then ?_
  refine WP.cond rfl (fun hc1 => ?_) (fun hc1 => ?_)
  · try simp only [decide_eq_true_eq, decide_eq_false_iff_not, Bool.and_eq_true, Bool.or_eq_true, Bool.and_eq_false_iff, Bool.or_eq_false_iff, Bool.not_eq_true', Bool.not_eq_false', ne_eq, Decidable.not_not] at hc1
    refine WP.seq ?_
    refine WP.region ?_
    refine WPl.v rfl (o_assign rfl) ?_
    refine WPl.nil ?_
    refine EX.then ?_
    refine WP.ret ?_
    refine EX.ret_then ?_
    rw [show sameInts a b = false from by simp [sameInts]; (try simp at hc1); grind]
    exact EX.fin id (.inl rfl) rfl (.tmp rfl .nil) rfl (by simp [SV.res, El.res, At.res, keys]) trivial (by simp) (by simp)
  · try simp only [decide_eq_true_eq, decide_eq_false_iff_not, Bool.and_eq_true, Bool.or_eq_true, Bool.and_eq_false_iff, Bool.or_eq_false_iff, Bool.not_eq_true', Bool.not_eq_false', ne_eq, Decidable.not_not] at hc1
    refine WP.skip ?_
    refine EX.then ?_
    refine WP.seq ?_
    refine WP.seq ?_
    refine WP.region ?_
    refine WPl.v rfl (o_assign rfl) ?_
    refine WPl.nil ?_
    refine EX.then ?_
    refine WP.block ?_
    refine WP.loop (Gh := Nat) (fun i => ⟨2, [(0, .e (.a (.q 0))), (1, .e (.a (.q 1))), (4, .b (false)), (5, .i ((i : Int)))], [(0, PL EP.int (a)), (1, PL EP.int (b))], [], [], []⟩) (fun i => i ≤ a.length ∧ allI (sameAt a b) i = true) (fun i => a.length - i) (0) id ?_ (LeR.of ⟨rfl, rfl, rfl, rfl, trivial⟩ ⟨(lx rfl), (lx rfl), trivial⟩ trivial rfl rfl rfl rfl rfl) ?_
    · exact ⟨by omega, rfl⟩
    intro i hφ
    obtain ⟨hi, hall⟩ := hφ; have hlen : (a.length : Int) = b.length := by simpa using hc1
    refine WP.seq ?_
    refine WP.seq ?_
    refine WP.region ?_
    refine WPl.v rfl (o_move rfl) ?_
    refine WPl.v rfl (o_move rfl) ?_
    refine WPl.v rfl (o_lenq L44 rfl (lx rfl)) ?_
    refine WPl.v rfl (o_lss rfl rfl) ?_
    refine WPl.nil ?_
    refine EX.then ?_
    refine WP.cond rfl (fun hc2 => ?_) (fun hc2 => ?_)
    · try simp only [decide_eq_true_eq, decide_eq_false_iff_not, Bool.and_eq_true, Bool.or_eq_true, Bool.and_eq_false_iff, Bool.or_eq_false_iff, Bool.not_eq_true', Bool.not_eq_false', ne_eq, Decidable.not_not] at hc2
      refine WP.skip ?_
      refine EX.then ?_
      refine WP.seq ?_
      refine WP.block ?_
      refine WP.seq ?_
      refine WP.draw (nf := 4) [⟨[18, 21, 22, 23, 24], [3], [], [], []⟩, ⟨[17, 21, 22, 23, 24], [3], [], [], []⟩, ⟨[21, 22, 23, 24], [3], [2], [2], [0, 1]⟩, ⟨[21, 22, 23, 24], [3], [], [], [0, 1, 2]⟩, ⟨[17, 18, 19, 20, 22], [2], [], [], []⟩, ⟨[17, 18, 19, 20, 21], [2], [], [], []⟩, ⟨[17, 18, 19, 20], [2], [3], [3], [4, 5]⟩, ⟨[17, 18, 19, 20], [2], [], [], [4, 5, 6]⟩, ⟨[], [], [], [], [0, 1, 2, 3, 4, 5, 6, 7]⟩] (by kernel_rfl) (by kernel_rfl) ?_
      refine DRQ.v rfl rfl rfl (o_move rfl) ?_
      refine DRQ.v rfl rfl rfl (o_move rfl) ?_
      refine DRQ.x 2 rfl rfl rfl rfl (o_idx L44 rfl (lx rfl) rfl (by first | omega | (simp; omega)) (by first | omega | (simp; omega))) ?_
      refine DRQ.v rfl rfl rfl (o_ldq S3 rfl (lx rfl) intc) ?_
      refine DRQ.v rfl rfl rfl (o_move rfl) ?_
      refine DRQ.v rfl rfl rfl (o_move rfl) ?_
      refine DRQ.x 3 rfl rfl rfl rfl (o_idx L44 rfl (lx rfl) rfl (by first | omega | (simp; omega)) (by first | omega | (simp; omega))) ?_
      refine DRQ.v rfl rfl rfl (o_ldq S3 rfl (lx rfl) intc) ?_
      refine DRQ.v rfl rfl rfl (o_neq rfl rfl) ?_
      refine DRQ.nil' ?_
      refine EX.then ?_
      refine WP.cond rfl (fun hc3 => ?_) (fun hc3 => ?_)
      · try simp only [decide_eq_true_eq, decide_eq_false_iff_not, Bool.and_eq_true, Bool.or_eq_true, Bool.and_eq_false_iff, Bool.or_eq_false_iff, Bool.not_eq_true', Bool.not_eq_false', ne_eq, Decidable.not_not] at hc3
        refine WP.seq ?_
        refine WP.region ?_
        refine WPl.v rfl (o_assign rfl) ?_
        refine WPl.nil ?_
        refine EX.then ?_
        refine WP.ret ?_
        refine EX.ret_blk ?_
        refine EX.ret_then ?_
        refine EX.ret_then ?_
        refine EX.ret_blk ?_
        refine EX.ret_then ?_
        rw [show sameInts a b = false from by simp [sameInts, allI_false (show i < a.length by omega) (show sameAt a b i = false by simpa [sameAt] using hc3)]]
        exact EX.fin id (.inl rfl) rfl (.tmp rfl .nil) rfl (by simp [SV.res, El.res, At.res, keys]) trivial (by simp) (by simp)
      · try simp only [decide_eq_true_eq, decide_eq_false_iff_not, Bool.and_eq_true, Bool.or_eq_true, Bool.and_eq_false_iff, Bool.or_eq_false_iff, Bool.not_eq_true', Bool.not_eq_false', ne_eq, Decidable.not_not] at hc3
        refine WP.skip ?_
        refine EX.blk ?_
        refine EX.then ?_
        refine WP.region ?_
        refine WPl.v rfl (o_move rfl) ?_
        refine WPl.v rfl (o_add rfl rfl (by first | omega | (simp; omega)) (by first | omega | (simp; omega))) ?_
        refine WPl.v rfl (o_assign rfl) ?_
        refine WPl.nil ?_
        refine EX.again (i + 1) id (by exact ⟨by omega, by simp [allI, hall, sameAt]; simpa using hc3⟩) (by omega) (LeR.of ⟨rfl, rfl, rfl, rfl, trivial⟩ ⟨(lx rfl), (lx rfl), trivial⟩ trivial rfl rfl rfl rfl rfl)
    · try simp only [decide_eq_true_eq, decide_eq_false_iff_not, Bool.and_eq_true, Bool.or_eq_true, Bool.and_eq_false_iff, Bool.or_eq_false_iff, Bool.not_eq_true', Bool.not_eq_false', ne_eq, Decidable.not_not] at hc2
      refine WP.exit ?_
      refine EX.exit_then ?_
      refine EX.exit_then ?_
      refine EX.exit_blk ?_
      refine EX.then ?_
      refine WP.seq ?_
      refine WP.region ?_
      refine WPl.v rfl (o_assign rfl) ?_
      refine WPl.nil ?_
      refine EX.then ?_
      refine WP.ret ?_
      have hi2 : i = a.length := by omega
      subst hi2
      rw [show sameInts a b = true from by simp [sameInts, hall, hlen]]
      exact EX.fin id (.inl rfl) rfl (.tmp rfl .nil) rfl (by simp [SV.res, El.res, At.res, keys]) trivial (by simp) (by simp)
theorem w70 {s : Shop} : ∀ x ∈ ([.e (.g [ai (s.pounds), ai (s.tl), ai (s.th), ai (s.al), ai (s.ah), ai (s.room), ai (s.tpl), ai (s.tph), ai (s.apl), ai (s.aph), .q 0])] : List SV), x.res (keys (α := Pred) [(0, PL EPig (s.pigs))]) := by simp [SV.res, El.res, At.res, keys]
theorem r70 {s : Shop} : SV.res (keys (α := Pred) [(0, PL EPig (s.pigs))]) (.e (.g [ai (s.pounds), ai (s.tl), ai (s.th), ai (s.al), ai (s.ah), ai (s.room), ai (s.tpl), ai (s.tph), ai (s.apl), ai (s.aph), .q 0])) := by simp [SV.res, El.res, At.res, keys]
set_option maxHeartbeats 4000000 in
theorem c70 (s : Shop) (hl : s.pigs.length ≤ 40) : Sig Try.prog 70 [.e (.g [ai (s.pounds), ai (s.tl), ai (s.th), ai (s.al), ai (s.ah), ai (s.room), ai (s.tpl), ai (s.tph), ai (s.apl), ai (s.aph), .q 0])] [(0, PL EPig (s.pigs))] (.e (.g [ai (s.pounds), ai (s.tl), ai (s.th), ai (s.al), ai (s.ah), ai (s.room), ai (s.tpl), ai (s.tph), ai (s.apl), ai (s.aph), .q 0])) [(0, PL EPig (s.pigs))] := by
  refine Sig.intro Try.func70 rfl 1 [(0, .e (.g [ai (s.pounds), ai (s.tl), ai (s.th), ai (s.al), ai (s.ah), ai (s.room), ai (s.tpl), ai (s.tph), ai (s.apl), ai (s.aph), .q 0]))] rfl w70 rfl rfl fun I w => ?_
  refine WP.seq ?_
  refine WP.region ?_
  refine WPl.l 1 2 rfl rfl rfl (o_boxg rfl) ?_
  refine WPl.l 2 3 rfl rfl rfl (o_alloc Z28) ?_
  refine WPl.nil ?_
  refine EX.then ?_
  refine WP.seq ?_
  refine WP.region ?_
  refine WPl.v rfl (o_ldpa G28 rfl rfl rfl) ?_
  refine WPl.l 3 4 rfl rfl rfl (o_alloc Z28) ?_
  refine WPl.s1 (o_stag G28 rfl rfl rfl ⟨rfl, rfl, rfl, rfl, rfl, rfl, rfl, rfl, rfl, rfl, (.inl ⟨_, (lx rfl), PL.one⟩), trivial⟩ rfl rfl) ?_
  refine WPl.nil ?_
  refine EX.then ?_
  refine WP.seq ?_
  refine WP.region ?_
  refine WPl.l 4 5 rfl rfl rfl (o_bsl (E := EPig) (l := []) R26 rfl rfl (.nil) rfl rfl) ?_
  refine WPl.v rfl (o_fldp F28_4 rfl) ?_
  refine WPl.v rfl (o_ldp S26 rfl rfl rfl) ?_
  refine WPl.u1 (k := 5) (m := 6) rfl rfl rfl (o_apps R26 EP.str_one rfl rfl rfl (lx rfl) (by simp; omega) (by simp; omega)) ?_
  refine WPl.v rfl (o_fldp F28_4 rfl) ?_
  refine WPl.s1 (o_sta S26 rfl rfl rfl (.inr ⟨_, _, _, _, rfl⟩) rfl) ?_
  refine WPl.nil ?_
  refine EX.then ?_
  refine WP.seq ?_
  refine WP.region ?_
  refine WPl.v rfl (o_ldpa G28 rfl rfl rfl) ?_
  refine WPl.s1 (o_stag G28 rfl rfl rfl ⟨rfl, rfl, rfl, rfl, rfl, rfl, rfl, rfl, rfl, rfl, (.inr ⟨_, _, _, _, rfl⟩), trivial⟩ rfl rfl) ?_
  refine WPl.nil ?_
  refine EX.then ?_
  refine WP.ret ?_
  refine EX.imp (Imp.frz (E := EPig) (l := [] ++ s.pigs) 5 rfl rfl) ?_
  exact EX.fin (ren [(0, 5)]) (.inl rfl) rfl (.cellg G28 rfl rfl rfl (.nil)) rfl r70 ⟨(lx rfl), trivial⟩ (by simp) (by simp)
theorem w17 {f : Fnd} : ∀ x ∈ ([.e (.g [ai (f.shop.pounds), ai (f.shop.tl), ai (f.shop.th), ai (f.shop.al), ai (f.shop.ah), ai (f.shop.room), ai (f.shop.tpl), ai (f.shop.tph), ai (f.shop.apl), ai (f.shop.aph), .q 0, .q 1])] : List SV), x.res (keys (α := Pred) [(0, PL EPig (f.shop.pigs)), (1, PL ENight (f.nights))]) := by simp [SV.res, El.res, At.res, keys]
theorem r17 {f : Fnd} : SV.res (keys (α := Pred) [(0, PL EPig (f.shop.pigs)), (1, PL ENight (f.nights))]) (.e (.g [ai (f.shop.pounds), ai (f.shop.tl), ai (f.shop.th), ai (f.shop.al), ai (f.shop.ah), ai (f.shop.room), ai (f.shop.tpl), ai (f.shop.tph), ai (f.shop.apl), ai (f.shop.aph), .q 0, .q 1])) := by simp [SV.res, El.res, At.res, keys]
set_option maxHeartbeats 4000000 in
theorem c17 (f : Fnd) (hl : f.shop.pigs.length ≤ 40) (hn : f.nights.length ≤ 40) : Sig Try.prog 17 [.e (.g [ai (f.shop.pounds), ai (f.shop.tl), ai (f.shop.th), ai (f.shop.al), ai (f.shop.ah), ai (f.shop.room), ai (f.shop.tpl), ai (f.shop.tph), ai (f.shop.apl), ai (f.shop.aph), .q 0, .q 1])] [(0, PL EPig (f.shop.pigs)), (1, PL ENight (f.nights))] (.e (.g [ai (f.shop.pounds), ai (f.shop.tl), ai (f.shop.th), ai (f.shop.al), ai (f.shop.ah), ai (f.shop.room), ai (f.shop.tpl), ai (f.shop.tph), ai (f.shop.apl), ai (f.shop.aph), .q 0, .q 1])) [(0, PL EPig (f.shop.pigs)), (1, PL ENight (f.nights))] := by
  refine Sig.intro Try.func17 rfl 2 [(0, .e (.g [ai (f.shop.pounds), ai (f.shop.tl), ai (f.shop.th), ai (f.shop.al), ai (f.shop.ah), ai (f.shop.room), ai (f.shop.tpl), ai (f.shop.tph), ai (f.shop.apl), ai (f.shop.aph), .q 0, .q 1]))] rfl w17 rfl rfl fun I w => ?_
  refine WP.seq ?_
  refine WP.region ?_
  refine WPl.l 2 3 rfl rfl rfl (o_boxg rfl) ?_
  refine WPl.l 3 4 rfl rfl rfl (o_alloc Z31) ?_
  refine WPl.nil ?_
  refine EX.then ?_
  refine WP.seq ?_
  refine WP.draw (nf := 7) [⟨[6, 7, 8], [5], [], [], []⟩, ⟨[6, 7, 8], [5], [], [], [0]⟩, ⟨[6, 7, 8], [5], [4], [4], [0, 1]⟩, ⟨[3, 4, 5, 7, 8], [4], [5], [5], []⟩, ⟨[3, 4, 5, 6], [4, 5], [], [], []⟩, ⟨[3, 4, 5, 6], [4, 5], [], [], [4]⟩, ⟨[], [], [6], [6, 5], [0, 1, 2, 3, 4, 5]⟩, ⟨[], [], [], [], [0, 1, 2, 3, 4, 5, 6]⟩, ⟨[], [], [], [3], [0, 1, 2, 3, 4, 5, 6, 7]⟩] (by kernel_rfl) (by kernel_rfl) ?_
  refine DRQ.v rfl rfl rfl (o_fldp F31_0 rfl) ?_
  refine DRQ.v rfl rfl rfl (o_ldpg G28 rfl rfl rfl) ?_
  refine DRQ.cs rfl rfl rfl rfl (o_sig 4 (ren [(0, 0)]) (c70 f.shop (by omega)) e70 rfl rfl rfl w70 ⟨(lx rfl), trivial⟩ r70) ?_
  refine DRQ.l 5 rfl rfl rfl rfl (o_bsl (E := ENight) (l := []) R29 rfl rfl (.nil) rfl rfl) ?_
  refine DRQ.v rfl rfl rfl (o_fldp F31_1 rfl) ?_
  refine DRQ.v rfl rfl rfl (o_ldp S29 rfl rfl rfl) ?_
  refine DRQ.l2 6 5 rfl rfl rfl rfl (o_apps R29 EP.str_one rfl rfl rfl (lx rfl) (by simp; omega) (by simp; omega)) ?_
  refine DRQ.v rfl rfl rfl (o_build B31 rfl ⟨(.inr ⟨_, _, _, _, rfl⟩), trivial⟩ rfl rfl) ?_
  refine DRQ.s 3 rfl rfl rfl (o_stag G31 rfl rfl rfl ⟨rfl, rfl, rfl, rfl, rfl, rfl, rfl, rfl, rfl, rfl, (.inl ⟨_, (lx rfl), PL.one⟩), (.inr ⟨_, _, _, _, rfl⟩), trivial⟩ rfl rfl) ?_
  refine DRQ.nil' ?_
  refine EX.then ?_
  refine WP.ret ?_
  refine EX.imp (Imp.frz (E := ENight) (l := [] ++ f.nights) 6 rfl rfl) ?_
  exact EX.fin (ren [(0, 4), (1, 6)]) (.inl rfl) rfl (.cellg G31 rfl rfl rfl (.nil)) rfl r17 ⟨(lx rfl), (lx rfl), trivial⟩ (by simp) (by simp)
end Go.Flong
