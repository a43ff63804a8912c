/- Walks (printed by gen.py off the specs). -/
import Derived.Test.YtglbnodjcngefaaBase
import Derived.Test.YtglbnodjcngefaaProg
set_option linter.unusedSimpArgs false
set_option linter.unusedVariables false
namespace Go.Flong
open Go Go.Eng Go.Proofs
theorem e35 : Enters' Try.prog 35 := Try.call35
theorem F23_1 : Fld Try.prog 23 1 1 := .mk Try.underlying23 rfl rfl rfl Try.sizeOf3 rfl
theorem S3 : TyS Try.prog 3 := ⟨Try.isAgg3, Try.sizeOf3⟩
theorem F23_0 : Fld Try.prog 23 0 0 := .mk Try.underlying23 rfl rfl rfl Try.sizeOf3 rfl
theorem e133 : Enters' Try.prog 133 := Try.call133
theorem F25_0 : Fld Try.prog 25 0 0 := .mk Try.underlying25 rfl rfl rfl Try.sizeOf3 rfl
theorem F25_1 : Fld Try.prog 25 1 1 := .mk Try.underlying25 rfl rfl rfl Try.sizeOf23 rfl
theorem G23 : TyG Try.prog 23 2 := ⟨Try.isAgg23, Try.sizeOf23⟩
theorem e85 : Enters' Try.prog 85 := Try.call85
theorem F25_2 : Fld Try.prog 25 2 3 := .mk Try.underlying25 rfl rfl rfl Try.sizeOf23 rfl
theorem e134 : Enters' Try.prog 134 := Try.call134
theorem F78_0 : Fld Try.prog 78 0 0 := .mk Try.underlying78 rfl rfl rfl Try.sizeOf3 rfl
theorem F78_1 : Fld Try.prog 78 1 1 := .mk Try.underlying78 rfl rfl rfl Try.sizeOf3 rfl
theorem F78_2 : Fld Try.prog 78 2 2 := .mk Try.underlying78 rfl rfl rfl Try.sizeOf3 rfl
theorem F78_3 : Fld Try.prog 78 3 3 := .mk Try.underlying78 rfl rfl rfl Try.sizeOf3 rfl
theorem F78_4 : Fld Try.prog 78 4 4 := .mk Try.underlying78 rfl rfl rfl Try.sizeOf3 rfl
theorem F28_0 : Fld Try.prog 28 0 0 := .mk Try.underlying28 rfl rfl rfl Try.sizeOf25 rfl
theorem G25 : TyG Try.prog 25 5 := ⟨Try.isAgg25, Try.sizeOf25⟩
theorem e123 : Enters' Try.prog 123 := Try.call123
theorem F28_1 : Fld Try.prog 28 1 5 := .mk Try.underlying28 rfl rfl rfl Try.sizeOf3 rfl
theorem F28_2 : Fld Try.prog 28 2 6 := .mk Try.underlying28 rfl rfl rfl Try.sizeOf23 rfl
theorem F28_3 : Fld Try.prog 28 3 8 := .mk Try.underlying28 rfl rfl rfl Try.sizeOf23 rfl
theorem F28_4 : Fld Try.prog 28 4 10 := .mk Try.underlying28 rfl rfl rfl Try.sizeOf26 rfl
theorem S26 : TyS Try.prog 26 := ⟨Try.isAgg26, Try.sizeOf26⟩
theorem L26 : IsSl Try.prog 26 78 5 := ⟨Try.underlying26, Try.sizeOf78⟩
theorem G78 : TyG Try.prog 78 5 := ⟨Try.isAgg78, Try.sizeOf78⟩
theorem e124 : Enters' Try.prog 124 := Try.call124
theorem e132 : Enters' Try.prog 132 := Try.call132
theorem Z78 : Zero Try.prog 78 [ai (0), ai (0), ai (0), ai (0), ai (0)] := .mk Try.zeroValue78 rfl rfl
theorem F31_0 : Fld Try.prog 31 0 0 := .mk Try.underlying31 rfl rfl rfl Try.sizeOf28 rfl
theorem R44 : RowT Try.prog 44 3 1 8 [.int .i64 0] := ⟨Try.underlying44, ⟨Try.t3, _, by kernel_rfl, rfl, rfl, rfl, rfl⟩, rfl, by decide⟩
theorem L44 : IsSl Try.prog 44 3 1 := ⟨Try.underlying44, Try.sizeOf3⟩
theorem G28 : TyG Try.prog 28 11 := ⟨Try.isAgg28, Try.sizeOf28⟩
theorem e71 : Enters' Try.prog 71 := Try.call71
theorem F31_1 : Fld Try.prog 31 1 11 := .mk Try.underlying31 rfl rfl rfl Try.sizeOf29 rfl
theorem S29 : TyS Try.prog 29 := ⟨Try.isAgg29, Try.sizeOf29⟩
theorem L29 : IsSl Try.prog 29 75 3 := ⟨Try.underlying29, Try.sizeOf75⟩
theorem F75_0 : Fld Try.prog 75 0 0 := .mk Try.underlying75 rfl rfl rfl Try.sizeOf23 rfl
theorem F75_1 : Fld Try.prog 75 1 2 := .mk Try.underlying75 rfl rfl rfl Try.sizeOf3 rfl
theorem e86 : Enters' Try.prog 86 := Try.call86
theorem e38 : Enters' Try.prog 38 := Try.call38
theorem G31 : TyG Try.prog 31 12 := ⟨Try.isAgg31, Try.sizeOf31⟩
theorem e97 : Enters' Try.prog 97 := Try.call97
theorem L32 : IsSl Try.prog 32 44 1 := ⟨Try.underlying32, Try.sizeOf44⟩
theorem S44 : TyS Try.prog 44 := ⟨Try.isAgg44, Try.sizeOf44⟩
theorem e131 : Enters' Try.prog 131 := Try.call131
theorem Z28 : Zero Try.prog 28 [ai (0), ai (0), ai (0), ai (0), ai (0), ai (0), ai (0), ai (0), ai (0), ai (0), .v (.slice none 0 0)] := .mk Try.zeroValue28 rfl rfl
theorem R26 : RowT Try.prog 26 78 5 40 [.int .i64 0, .int .i64 0, .int .i64 0, .int .i64 0, .int .i64 0] := ⟨Try.underlying26, ⟨Try.t78, _, by kernel_rfl, rfl, rfl, rfl, rfl⟩, rfl, by decide⟩
theorem Z31 : Zero Try.prog 31 [ai (0), ai (0), ai (0), ai (0), ai (0), ai (0), ai (0), ai (0), ai (0), ai (0), .v (.slice none 0 0), .v (.slice none 0 0)] := .mk Try.zeroValue31 rfl rfl
theorem e70 : Enters' Try.prog 70 := Try.call70
theorem R29 : RowT Try.prog 29 75 3 24 [.int .i64 0, .int .i64 0, .int .i64 0] := ⟨Try.underlying29, ⟨Try.t75, _, by kernel_rfl, rfl, rfl, rfl, rfl⟩, rfl, by decide⟩
theorem B31 : BldT Try.prog 31 [(0, 11), (11, 1)] [.int .i64 0, .int .i64 0, .int .i64 0, .int .i64 0, .int .i64 0, .int .i64 0, .int .i64 0, .int .i64 0, .int .i64 0, .int .i64 0, .slice none 0 0, .slice none 0 0] := BldT.mk (ns := [11, 1]) Try.underlying31 ⟨Try.sizeOf28, Try.sizeOf29, trivial⟩ rfl Try.zeroValue31 rfl
theorem B23 : BldT Try.prog 23 [(0, 1), (1, 1)] [.int .i64 0, .int .i64 0] := BldT.mk (ns := [1, 1]) Try.underlying23 ⟨Try.sizeOf3, Try.sizeOf3, trivial⟩ rfl Try.zeroValue23 rfl
theorem Z23 : Zero Try.prog 23 [ai (0), ai (0)] := .mk Try.zeroValue23 rfl rfl
theorem e83 : Enters' Try.prog 83 := Try.call83
theorem e139 : Enters' Try.prog 139 := Try.call139
theorem e82 : Enters' Try.prog 82 := Try.call82
theorem e66 : Enters' Try.prog 66 := Try.call66
theorem w35 {n lo hi : Int} : ∀ x ∈ ([.i (n), .i (lo), .i (hi)] : List SV), x.res (keys (α := Pred) []) := by simp [SV.res, El.res, At.res, keys]
theorem r35 {n lo hi : Int} : SV.res (keys (α := Pred) []) (.b (within n lo hi)) := by simp [SV.res, El.res, At.res, keys]
set_option maxHeartbeats 4000000 in
theorem c35 (n lo hi : Int)  : Sig Try.prog 35 [.i (n), .i (lo), .i (hi)] [] (.b (within n lo hi)) [] := by
  refine Sig.intro Try.func35 rfl 0 [(0, .i (n)), (1, .i (lo)), (2, .i (hi))] rfl w35 rfl rfl fun I w => ?_
  refine WP.seq ?_
  refine WP.region ?_
  refine WPl.v rfl (o_assign rfl) ?_
  refine WPl.nil ?_
  refine EX.then ?_
  refine WP.seq ?_
  refine WP.region ?_
  refine WPl.v rfl (o_move rfl) ?_
  refine WPl.v rfl (o_move rfl) ?_
  refine WPl.v rfl (o_leq rfl rfl) ?_
  refine WPl.v rfl (o_move rfl) ?_
  refine WPl.bit 0 1 (decide (lo ≤ n)) rfl rfl ?_
  refine WPl.gv 0 rfl rfl (.plain rfl Iff.rfl rfl) (fun hb => o_move rfl) ?_
  refine WPl.gv 0 rfl rfl (.plain rfl Iff.rfl rfl) (fun hb => o_move rfl) ?_
  refine WPl.gv 0 rfl rfl (.plain rfl Iff.rfl rfl) (fun hb => o_leq rfl rfl) ?_
  refine WPl.v rfl (o_and rfl rfl rfl id) ?_
  refine WPl.v rfl (o_assign rfl) ?_
  refine WPl.nil ?_
  refine EX.then ?_
  refine WP.ret ?_
  exact EX.fin id (.inl rfl) rfl (.tmp rfl .nil) rfl r35 trivial (by simp) (by simp)
theorem w79 {n lo hi : Int} : ∀ x ∈ ([.i (n), .i (lo), .i (hi)] : List SV), x.res (keys (α := Pred) []) := by simp [SV.res, El.res, At.res, keys]
theorem r79 {n lo hi : Int} : SV.res (keys (α := Pred) []) (.b (within n lo hi)) := by simp [SV.res, El.res, At.res, keys]
set_option maxHeartbeats 4000000 in
theorem c79 (n lo hi : Int)  : Sig Try.prog 79 [.i (n), .i (lo), .i (hi)] [] (.b (within n lo hi)) [] := by
  refine Sig.intro Try.func79 rfl 0 [(0, .i (n)), (1, .i (lo)), (2, .i (hi))] rfl w79 rfl rfl fun I w => ?_
  refine WP.seq ?_
  refine WP.region ?_
  refine WPl.v rfl (o_assign rfl) ?_
  refine WPl.nil ?_
  refine EX.then ?_
  refine WP.seq ?_
  refine WP.region ?_
  refine WPl.v rfl (o_move rfl) ?_
  refine WPl.v rfl (o_move rfl) ?_
  refine WPl.v rfl (o_geq rfl rfl) ?_
  refine WPl.v rfl (o_move rfl) ?_
  refine WPl.bit 0 1 (decide (lo ≤ n)) rfl rfl ?_
  refine WPl.gv 0 rfl rfl (.plain rfl Iff.rfl rfl) (fun hb => o_move rfl) ?_
  refine WPl.gv 0 rfl rfl (.plain rfl Iff.rfl rfl) (fun hb => o_move rfl) ?_
  refine WPl.gv 0 rfl rfl (.plain rfl Iff.rfl rfl) (fun hb => o_leq rfl rfl) ?_
  refine WPl.v rfl (o_and rfl rfl rfl id) ?_
  refine WPl.v rfl (o_assign rfl) ?_
  refine WPl.nil ?_
  refine EX.then ?_
  refine WP.ret ?_
  exact EX.fin id (.inl rfl) rfl (.tmp rfl .nil) rfl r79 trivial (by simp) (by simp)
theorem w133 {n lo hi : Int} : ∀ x ∈ ([.i (n), .i (lo), .i (hi)] : List SV), x.res (keys (α := Pred) []) := by simp [SV.res, El.res, At.res, keys]
theorem r133 {n lo hi : Int} : SV.res (keys (α := Pred) []) (.b (within n lo hi)) := by simp [SV.res, El.res, At.res, keys]
set_option maxHeartbeats 4000000 in
theorem c133 (n lo hi : Int)  : Sig Try.prog 133 [.i (n), .i (lo), .i (hi)] [] (.b (within n lo hi)) [] := by
  refine Sig.intro Try.func133 rfl 0 [(0, .i (n)), (1, .i (lo)), (2, .i (hi))] rfl w133 rfl rfl fun I w => ?_
  refine WP.seq ?_
  refine WP.region ?_
  refine WPl.v rfl (o_assign rfl) ?_
  refine WPl.nil ?_
  refine EX.then ?_
  refine WP.seq ?_
  refine WP.region ?_
  refine WPl.v rfl (o_move rfl) ?_
  refine WPl.v rfl (o_move rfl) ?_
  refine WPl.v rfl (o_geq rfl rfl) ?_
  refine WPl.v rfl (o_move rfl) ?_
  refine WPl.bit 0 1 (decide (lo ≤ n)) rfl rfl ?_
  refine WPl.gv 0 rfl rfl (.plain rfl Iff.rfl rfl) (fun hb => o_move rfl) ?_
  refine WPl.gv 0 rfl rfl (.plain rfl Iff.rfl rfl) (fun hb => o_move rfl) ?_
  refine WPl.gv 0 rfl rfl (.plain rfl Iff.rfl rfl) (fun hb => o_leq rfl rfl) ?_
  refine WPl.v rfl (o_and rfl rfl rfl id) ?_
  refine WPl.v rfl (o_assign rfl) ?_
  refine WPl.nil ?_
  refine EX.then ?_
  refine WP.ret ?_
  exact EX.fin id (.inl rfl) rfl (.tmp rfl .nil) rfl r133 trivial (by simp) (by simp)
theorem w86 {n lo hi : Int} : ∀ x ∈ ([.i (n), .i (lo), .i (hi)] : List SV), x.res (keys (α := Pred) []) := by simp [SV.res, El.res, At.res, keys]
theorem r86 {n lo hi : Int} : SV.res (keys (α := Pred) []) (.b (within n lo hi)) := by simp [SV.res, El.res, At.res, keys]
set_option maxHeartbeats 4000000 in
theorem c86 (n lo hi : Int)  : Sig Try.prog 86 [.i (n), .i (lo), .i (hi)] [] (.b (within n lo hi)) [] := by
  refine Sig.intro Try.func86 rfl 0 [(0, .i (n)), (1, .i (lo)), (2, .i (hi))] rfl w86 rfl rfl fun I w => ?_
  refine WP.seq ?_
  refine WP.region ?_
  refine WPl.v rfl (o_assign rfl) ?_
  refine WPl.nil ?_
  refine EX.then ?_
  refine WP.seq ?_
  refine WP.region ?_
  refine WPl.v rfl (o_move rfl) ?_
  refine WPl.v rfl (o_move rfl) ?_
  refine WPl.v rfl (o_move rfl) ?_
  refine WPl.cs 0 rfl rfl rfl rfl (o_sig 0 id (c35 n lo hi) e35 rfl rfl rfl w35 trivial r35) ?_
  refine WPl.v rfl (o_assign rfl) ?_
  refine WPl.nil ?_
  refine EX.then ?_
  refine WP.ret ?_
  exact EX.fin id (.inl rfl) rfl (.tmp rfl .nil) rfl r86 trivial (by simp) (by simp)
theorem w85 {lo hi most : Int} : ∀ x ∈ ([.e (.g [ai (lo), ai (hi)]), .i (most)] : List SV), x.res (keys (α := Pred) []) := by simp [SV.res, El.res, At.res, keys]
theorem r85 {lo hi most : Int} : SV.res (keys (α := Pred) []) (.b (isSpan lo hi most)) := by simp [SV.res, El.res, At.res, keys]
set_option maxHeartbeats 4000000 in
theorem c85 (lo hi most : Int)  : Sig Try.prog 85 [.e (.g [ai (lo), ai (hi)]), .i (most)] [] (.b (isSpan lo hi most)) [] := by
  refine Sig.intro Try.func85 rfl 0 [(0, .e (.g [ai (lo), ai (hi)])), (1, .i (most))] rfl w85 rfl rfl fun I w => ?_
  refine WP.seq ?_
  refine WP.region ?_
  refine WPl.l 0 1 rfl rfl rfl (o_boxg rfl) ?_
  refine WPl.v rfl (o_assign rfl) ?_
  refine WPl.nil ?_
  refine EX.then ?_
  refine WP.seq ?_
  refine WP.region ?_
  refine WPl.v rfl (o_fldp F23_1 rfl) ?_
  refine WPl.v rfl (o_ldp S3 rfl rfl rfl) ?_
  refine WPl.v rfl (o_move rfl) ?_
  refine WPl.cs 1 rfl rfl rfl rfl (o_sig 1 id (c35 hi 0 most) e35 rfl rfl rfl w35 trivial r35) ?_
  refine WPl.v rfl (o_move rfl) ?_
  refine WPl.bit 1 2 (within hi 0 most) rfl rfl ?_
  refine WPl.gv 1 rfl rfl (.plain rfl Iff.rfl rfl) (fun hb => o_fldp F23_0 rfl) ?_
  refine WPl.gv 1 rfl rfl (.plain rfl Iff.rfl rfl) (fun hb => o_ldp S3 rfl rfl rfl) ?_
  refine WPl.gv 1 rfl rfl (.plain rfl Iff.rfl rfl) (fun hb => o_fldp F23_1 rfl) ?_
  refine WPl.gv 1 rfl rfl (.plain rfl Iff.rfl rfl) (fun hb => o_ldp S3 rfl rfl rfl) ?_
  refine WPl.gc0 1 rfl rfl (.plain rfl Iff.rfl rfl) (fun hb => o_sig 2 id (c35 lo 0 hi) e35 rfl rfl rfl w35 trivial r35) ?_
  refine WPl.v rfl (o_and rfl rfl rfl id) ?_
  refine WPl.v rfl (o_assign rfl) ?_
  refine WPl.nil ?_
  refine EX.then ?_
  refine WP.ret ?_
  exact EX.fin id (.inl rfl) rfl (.tmp rfl .nil) rfl r85 trivial (by simp) (by simp)
theorem w134 {lo hi most : Int} : ∀ x ∈ ([.e (.g [ai (lo), ai (hi)]), .i (most)] : List SV), x.res (keys (α := Pred) []) := by simp [SV.res, El.res, At.res, keys]
theorem r134 {lo hi most : Int} : SV.res (keys (α := Pred) []) (.b (isSpan lo hi most)) := by simp [SV.res, El.res, At.res, keys]
set_option maxHeartbeats 4000000 in
theorem c134 (lo hi most : Int)  : Sig Try.prog 134 [.e (.g [ai (lo), ai (hi)]), .i (most)] [] (.b (isSpan lo hi most)) [] := by
  refine Sig.intro Try.func134 rfl 0 [(0, .e (.g [ai (lo), ai (hi)])), (1, .i (most))] rfl w134 rfl rfl fun I w => ?_
  refine WP.seq ?_
  refine WP.region ?_
  refine WPl.l 0 1 rfl rfl rfl (o_boxg rfl) ?_
  refine WPl.v rfl (o_assign rfl) ?_
  refine WPl.nil ?_
  refine EX.then ?_
  refine WP.seq ?_
  refine WP.region ?_
  refine WPl.v rfl (o_fldp F23_1 rfl) ?_
  refine WPl.v rfl (o_ldp S3 rfl rfl rfl) ?_
  refine WPl.v rfl (o_move rfl) ?_
  refine WPl.cs 1 rfl rfl rfl rfl (o_sig 1 id (c133 hi 0 most) e133 rfl rfl rfl w133 trivial r133) ?_
  refine WPl.v rfl (o_move rfl) ?_
  refine WPl.bit 1 2 (within hi 0 most) rfl rfl ?_
  refine WPl.gv 1 rfl rfl (.plain rfl Iff.rfl rfl) (fun hb => o_fldp F23_0 rfl) ?_
  refine WPl.gv 1 rfl rfl (.plain rfl Iff.rfl rfl) (fun hb => o_ldp S3 rfl rfl rfl) ?_
  refine WPl.gv 1 rfl rfl (.plain rfl Iff.rfl rfl) (fun hb => o_fldp F23_1 rfl) ?_
  refine WPl.gv 1 rfl rfl (.plain rfl Iff.rfl rfl) (fun hb => o_ldp S3 rfl rfl rfl) ?_
  refine WPl.gc0 1 rfl rfl (.plain rfl Iff.rfl rfl) (fun hb => o_sig 2 id (c133 lo 0 hi) e133 rfl rfl rfl w133 trivial r133) ?_
  refine WPl.v rfl (o_and rfl rfl rfl id) ?_
  refine WPl.v rfl (o_assign rfl) ?_
  refine WPl.nil ?_
  refine EX.then ?_
  refine WP.ret ?_
  exact EX.fin id (.inl rfl) rfl (.tmp rfl .nil) rfl r134 trivial (by simp) (by simp)
theorem w123 {p tl th al ah : Int} : ∀ x ∈ ([.e (.g [ai (p), ai (tl), ai (th), ai (al), ai (ah)])] : List SV), x.res (keys (α := Pred) []) := by simp [SV.res, El.res, At.res, keys]
theorem r123 {p tl th al ah : Int} : SV.res (keys (α := Pred) []) (.b (isPot p tl th al ah)) := by simp [SV.res, El.res, At.res, keys]
set_option maxHeartbeats 4000000 in
theorem c123 (p tl th al ah : Int)  : Sig Try.prog 123 [.e (.g [ai (p), ai (tl), ai (th), ai (al), ai (ah)])] [] (.b (isPot p tl th al ah)) [] := by
  refine Sig.intro Try.func123 rfl 0 [(0, .e (.g [ai (p), ai (tl), ai (th), ai (al), ai (ah)]))] rfl w123 rfl rfl fun I w => ?_
  refine WP.seq ?_
  refine WP.region ?_
  refine WPl.l 0 1 rfl rfl rfl (o_boxg rfl) ?_
  refine WPl.v rfl (o_assign rfl) ?_
  refine WPl.nil ?_
  refine EX.then ?_
  refine WP.seq ?_
  refine WP.region ?_
  refine WPl.v rfl (o_fldp F25_0 rfl) ?_
  refine WPl.v rfl (o_ldp S3 rfl rfl rfl) ?_
  refine WPl.cs 1 rfl rfl rfl rfl (o_sig 1 id (c35 p 0 400) e35 rfl rfl rfl w35 trivial r35) ?_
  refine WPl.v rfl (o_move rfl) ?_
  refine WPl.bit 1 2 (within p 0 400) rfl rfl ?_
  refine WPl.gv 1 rfl rfl (.plain rfl Iff.rfl rfl) (fun hb => o_fldp F25_1 rfl) ?_
  refine WPl.gv 1 rfl rfl (.plain rfl Iff.rfl rfl) (fun hb => o_ldpg G23 rfl rfl rfl) ?_
  refine WPl.gv 1 rfl rfl (.plain rfl Iff.rfl rfl) (fun hb => o_fldp F25_0 rfl) ?_
  refine WPl.gv 1 rfl rfl (.plain rfl Iff.rfl rfl) (fun hb => o_ldp S3 rfl rfl rfl) ?_
  refine WPl.gc0 1 rfl rfl (.plain rfl Iff.rfl rfl) (fun hb => o_sig 2 id (c85 tl th p) e85 rfl rfl rfl w85 trivial r85) ?_
  refine WPl.v rfl (o_and rfl rfl rfl id) ?_
  refine WPl.v rfl (o_move rfl) ?_
  refine WPl.bit 2 3 ((within p 0 400) && (isSpan tl th p)) rfl rfl ?_
  refine WPl.gv 2 rfl rfl (.plain rfl Iff.rfl rfl) (fun hb => o_fldp F25_2 rfl) ?_
  refine WPl.gv 2 rfl rfl (.plain rfl Iff.rfl rfl) (fun hb => o_ldpg G23 rfl rfl rfl) ?_
  refine WPl.gv 2 rfl rfl (.plain rfl Iff.rfl rfl) (fun hb => o_fldp F25_0 rfl) ?_
  refine WPl.gv 2 rfl rfl (.plain rfl Iff.rfl rfl) (fun hb => o_ldp S3 rfl rfl rfl) ?_
  refine WPl.gc0 2 rfl rfl (.plain rfl Iff.rfl rfl) (fun hb => o_sig 3 id (c85 al ah p) e85 rfl rfl rfl w85 trivial r85) ?_
  refine WPl.v rfl (o_and rfl rfl rfl id) ?_
  refine WPl.v rfl (o_move rfl) ?_
  refine WPl.bit 3 4 (((within p 0 400) && (isSpan tl th p)) && (isSpan al ah p)) rfl rfl ?_
  refine WPl.gv 3 rfl rfl (.plain rfl Iff.rfl rfl) (fun hb => o_fldp F25_1 rfl) ?_
  refine WPl.gv 3 rfl rfl (.plain rfl Iff.rfl rfl) (fun hb => o_fldp F23_1 rfl) ?_
  refine WPl.gv 3 rfl rfl (.plain rfl Iff.rfl rfl) (fun hb => o_ldp S3 rfl rfl rfl) ?_
  refine WPl.gv 3 rfl rfl (.plain rfl Iff.rfl rfl) (fun hb => o_fldp F25_2 rfl) ?_
  refine WPl.gv 3 rfl rfl (.plain rfl Iff.rfl rfl) (fun hb => o_fldp F23_1 rfl) ?_
  refine WPl.gv 3 rfl rfl (.plain rfl Iff.rfl rfl) (fun hb => o_ldp S3 rfl rfl rfl) ?_
  refine WPl.gv 3 rfl rfl (.plain rfl Iff.rfl rfl) (fun hb => o_add rfl rfl (by simp [within, isSpan] at hb; omega) (by simp [within, isSpan] at hb; omega)) ?_
  refine WPl.gv 3 rfl rfl (.plain rfl Iff.rfl rfl) (fun hb => o_fldp F25_0 rfl) ?_
  refine WPl.gv 3 rfl rfl (.plain rfl Iff.rfl rfl) (fun hb => o_ldp S3 rfl rfl rfl) ?_
  refine WPl.gv 3 rfl rfl (.plain rfl Iff.rfl rfl) (fun hb => o_leq rfl rfl) ?_
  refine WPl.v rfl (o_and rfl rfl rfl id) ?_
  refine WPl.v rfl (o_assign rfl) ?_
  refine WPl.nil ?_
  refine EX.then ?_
  refine WP.ret ?_
  exact EX.fin id (.inl rfl) rfl (.tmp rfl .nil) rfl r123 trivial (by simp) (by simp)
theorem w132 {p tl th al ah : Int} : ∀ x ∈ ([.e (.g [ai (p), ai (tl), ai (th), ai (al), ai (ah)])] : List SV), x.res (keys (α := Pred) []) := by simp [SV.res, El.res, At.res, keys]
theorem r132 {p tl th al ah : Int} : SV.res (keys (α := Pred) []) (.b (isPot p tl th al ah)) := by simp [SV.res, El.res, At.res, keys]
set_option maxHeartbeats 4000000 in
theorem c132 (p tl th al ah : Int)  : Sig Try.prog 132 [.e (.g [ai (p), ai (tl), ai (th), ai (al), ai (ah)])] [] (.b (isPot p tl th al ah)) [] := by
  refine Sig.intro Try.func132 rfl 0 [(0, .e (.g [ai (p), ai (tl), ai (th), ai (al), ai (ah)]))] rfl w132 rfl rfl fun I w => ?_
  refine WP.seq ?_
  refine WP.region ?_
  refine WPl.l 0 1 rfl rfl rfl (o_boxg rfl) ?_
  refine WPl.v rfl (o_assign rfl) ?_
  refine WPl.nil ?_
  refine EX.then ?_
  refine WP.seq ?_
  refine WP.region ?_
  refine WPl.v rfl (o_fldp F25_0 rfl) ?_
  refine WPl.v rfl (o_ldp S3 rfl rfl rfl) ?_
  refine WPl.cs 1 rfl rfl rfl rfl (o_sig 1 id (c133 p 0 400) e133 rfl rfl rfl w133 trivial r133) ?_
  refine WPl.v rfl (o_move rfl) ?_
  refine WPl.bit 1 2 (within p 0 400) rfl rfl ?_
  refine WPl.gv 1 rfl rfl (.plain rfl Iff.rfl rfl) (fun hb => o_fldp F25_1 rfl) ?_
  refine WPl.gv 1 rfl rfl (.plain rfl Iff.rfl rfl) (fun hb => o_ldpg G23 rfl rfl rfl) ?_
  refine WPl.gv 1 rfl rfl (.plain rfl Iff.rfl rfl) (fun hb => o_fldp F25_0 rfl) ?_
  refine WPl.gv 1 rfl rfl (.plain rfl Iff.rfl rfl) (fun hb => o_ldp S3 rfl rfl rfl) ?_
  refine WPl.gc0 1 rfl rfl (.plain rfl Iff.rfl rfl) (fun hb => o_sig 2 id (c134 tl th p) e134 rfl rfl rfl w134 trivial r134) ?_
  refine WPl.v rfl (o_and rfl rfl rfl id) ?_
  refine WPl.v rfl (o_move rfl) ?_
  refine WPl.bit 2 3 ((within p 0 400) && (isSpan tl th p)) rfl rfl ?_
  refine WPl.gv 2 rfl rfl (.plain rfl Iff.rfl rfl) (fun hb => o_fldp F25_2 rfl) ?_
  refine WPl.gv 2 rfl rfl (.plain rfl Iff.rfl rfl) (fun hb => o_ldpg G23 rfl rfl rfl) ?_
  refine WPl.gv 2 rfl rfl (.plain rfl Iff.rfl rfl) (fun hb => o_fldp F25_0 rfl) ?_
  refine WPl.gv 2 rfl rfl (.plain rfl Iff.rfl rfl) (fun hb => o_ldp S3 rfl rfl rfl) ?_
  refine WPl.gv 2 rfl rfl (.plain rfl Iff.rfl rfl) (fun hb => o_fldp F25_1 rfl) ?_
  refine WPl.gv 2 rfl rfl (.plain rfl Iff.rfl rfl) (fun hb => o_fldp F23_1 rfl) ?_
  refine WPl.gv 2 rfl rfl (.plain rfl Iff.rfl rfl) (fun hb => o_ldp S3 rfl rfl rfl) ?_
  refine WPl.gv 2 rfl rfl (.plain rfl Iff.rfl rfl) (fun hb => o_sub rfl rfl (by simp [within, isSpan] at hb; omega) (by simp [within, isSpan] at hb; omega)) ?_
  refine WPl.gc0 2 rfl rfl (.plain rfl Iff.rfl rfl) (fun hb => o_sig 3 id (c134 al ah (p - th)) e134 rfl rfl rfl w134 trivial r134) ?_
  refine WPl.v rfl (o_and rfl rfl rfl id) ?_
  refine WPl.v rfl (o_assign rfl) ?_
  refine WPl.nil ?_
  refine EX.then ?_
  refine WP.ret ?_
  rw [← isPotP_eq]
  exact EX.fin id (.inl rfl) rfl (.tmp rfl .nil) rfl (by simp [SV.res, El.res, At.res, keys]) trivial (by simp) (by simp)
theorem w124 {p : Pig} : ∀ x ∈ ([.e (.g [ai (p.pounds), ai (p.tin), ai (p.ant), ai (p.pence), ai (p.many)])] : List SV), x.res (keys (α := Pred) []) := by simp [SV.res, El.res, At.res, keys]
theorem r124 {p : Pig} : SV.res (keys (α := Pred) []) (.b (p.chk)) := by simp [SV.res, El.res, At.res, keys]
set_option maxHeartbeats 4000000 in
theorem c124 (p : Pig)  : Sig Try.prog 124 [.e (.g [ai (p.pounds), ai (p.tin), ai (p.ant), ai (p.pence), ai (p.many)])] [] (.b (p.chk)) [] := by
  refine Sig.intro Try.func124 rfl 0 [(0, .e (.g [ai (p.pounds), ai (p.tin), ai (p.ant), ai (p.pence), ai (p.many)]))] rfl w124 rfl rfl fun I w => ?_
  refine WP.seq ?_
  refine WP.region ?_
  refine WPl.l 0 1 rfl rfl rfl (o_boxg rfl) ?_
  refine WPl.v rfl (o_assign rfl) ?_
  refine WPl.nil ?_
  refine EX.then ?_
  refine WP.seq ?_
  refine WP.region ?_
  refine WPl.v rfl (o_fldp F78_0 rfl) ?_
  refine WPl.v rfl (o_ldp S3 rfl rfl rfl) ?_
  refine WPl.cs 1 rfl rfl rfl rfl (o_sig 1 id (c35 p.pounds 1 40) e35 rfl rfl rfl w35 trivial r35) ?_
  refine WPl.v rfl (o_move rfl) ?_
  refine WPl.bit 1 2 (within p.pounds 1 40) rfl rfl ?_
  refine WPl.gv 1 rfl rfl (.plain rfl Iff.rfl rfl) (fun hb => o_fldp F78_1 rfl) ?_
  refine WPl.gv 1 rfl rfl (.plain rfl Iff.rfl rfl) (fun hb => o_ldp S3 rfl rfl rfl) ?_
  refine WPl.gv 1 rfl rfl (.plain rfl Iff.rfl rfl) (fun hb => o_fldp F78_0 rfl) ?_
  refine WPl.gv 1 rfl rfl (.plain rfl Iff.rfl rfl) (fun hb => o_ldp S3 rfl rfl rfl) ?_
  refine WPl.gc0 1 rfl rfl (.plain rfl Iff.rfl rfl) (fun hb => o_sig 2 id (c35 p.tin 0 p.pounds) e35 rfl rfl rfl w35 trivial r35) ?_
  refine WPl.v rfl (o_and rfl rfl rfl id) ?_
  refine WPl.v rfl (o_move rfl) ?_
  refine WPl.bit 2 3 ((within p.pounds 1 40) && (within p.tin 0 p.pounds)) rfl rfl ?_
  refine WPl.gv 2 rfl rfl (.plain rfl Iff.rfl rfl) (fun hb => o_fldp F78_2 rfl) ?_
  refine WPl.gv 2 rfl rfl (.plain rfl Iff.rfl rfl) (fun hb => o_ldp S3 rfl rfl rfl) ?_
  refine WPl.gv 2 rfl rfl (.plain rfl Iff.rfl rfl) (fun hb => o_fldp F78_0 rfl) ?_
  refine WPl.gv 2 rfl rfl (.plain rfl Iff.rfl rfl) (fun hb => o_ldp S3 rfl rfl rfl) ?_
  refine WPl.gv 2 rfl rfl (.plain rfl Iff.rfl rfl) (fun hb => o_fldp F78_1 rfl) ?_
  refine WPl.gv 2 rfl rfl (.plain rfl Iff.rfl rfl) (fun hb => o_ldp S3 rfl rfl rfl) ?_
  refine WPl.gv 2 rfl rfl (.plain rfl Iff.rfl rfl) (fun hb => o_sub rfl rfl (by simp [within, isSpan] at hb; omega) (by simp [within, isSpan] at hb; omega)) ?_
  refine WPl.gc0 2 rfl rfl (.plain rfl Iff.rfl rfl) (fun hb => o_sig 3 id (c35 p.ant 0 (p.pounds - p.tin)) e35 rfl rfl rfl w35 trivial r35) ?_
  refine WPl.v rfl (o_and rfl rfl rfl id) ?_
  refine WPl.v rfl (o_move rfl) ?_
  refine WPl.bit 3 4 (((within p.pounds 1 40) && (within p.tin 0 p.pounds)) && (within p.ant 0 (p.pounds - p.tin))) rfl rfl ?_
  refine WPl.gv 3 rfl rfl (.plain rfl Iff.rfl rfl) (fun hb => o_fldp F78_3 rfl) ?_
  refine WPl.gv 3 rfl rfl (.plain rfl Iff.rfl rfl) (fun hb => o_ldp S3 rfl rfl rfl) ?_
  refine WPl.gc0 3 rfl rfl (.plain rfl Iff.rfl rfl) (fun hb => o_sig 4 id (c35 p.pence 0 99) e35 rfl rfl rfl w35 trivial r35) ?_
  refine WPl.v rfl (o_and rfl rfl rfl id) ?_
  refine WPl.v rfl (o_move rfl) ?_
  refine WPl.bit 4 5 ((((within p.pounds 1 40) && (within p.tin 0 p.pounds)) && (within p.ant 0 (p.pounds - p.tin))) && (within p.pence 0 99)) rfl rfl ?_
  refine WPl.gv 4 rfl rfl (.plain rfl Iff.rfl rfl) (fun hb => o_fldp F78_4 rfl) ?_
  refine WPl.gv 4 rfl rfl (.plain rfl Iff.rfl rfl) (fun hb => o_ldp S3 rfl rfl rfl) ?_
  refine WPl.gc0 4 rfl rfl (.plain rfl Iff.rfl rfl) (fun hb => o_sig 5 id (c35 p.many 0 5) e35 rfl rfl rfl w35 trivial r35) ?_
  refine WPl.v rfl (o_and rfl rfl rfl id) ?_
  refine WPl.v rfl (o_assign rfl) ?_
  refine WPl.nil ?_
  refine EX.then ?_
  refine WP.ret ?_
  exact EX.fin id (.inl rfl) rfl (.tmp rfl .nil) rfl r124 trivial (by simp) (by simp)
theorem w71 {s : Shop} : ∀ x ∈ ([.e (.g [ai (s.pounds), ai (s.tl), ai (s.th), ai (s.al), ai (s.ah), ai (s.room), ai (s.tpl), ai (s.tph), ai (s.apl), ai (s.aph), .q 0])] : List SV), x.res (keys (α := Pred) [(0, PL EPig (s.pigs))]) := by simp [SV.res, El.res, At.res, keys]
theorem r71 {s : Shop} : SV.res (keys (α := Pred) []) (.i (errM s.chk)) := by simp [SV.res, El.res, At.res, keys]
set_option maxHeartbeats 4000000 in
theorem c71 (s : Shop)  : Sig Try.prog 71 [.e (.g [ai (s.pounds), ai (s.tl), ai (s.th), ai (s.al), ai (s.ah), ai (s.room), ai (s.tpl), ai (s.tph), ai (s.apl), ai (s.aph), .q 0])] [(0, PL EPig (s.pigs))] (.i (errM s.chk)) [] := by
  refine Sig.intro Try.func71 rfl 1 [(0, .e (.g [ai (s.pounds), ai (s.tl), ai (s.th), ai (s.al), ai (s.ah), ai (s.room), ai (s.tpl), ai (s.tph), ai (s.apl), ai (s.aph), .q 0]))] rfl w71 rfl rfl fun I w => ?_
  refine WP.seq ?_
  refine WP.region ?_
  refine WPl.l 1 2 rfl rfl rfl (o_boxg rfl) ?_
  refine WPl.v rfl (o_assign rfl) ?_
  refine WPl.nil ?_
  refine EX.then ?_
  refine WP.seq ?_
  refine WP.seq ?_
  refine WP.region ?_
  refine WPl.v rfl (o_fldp F28_0 rfl) ?_
  refine WPl.v rfl (o_ldpg G25 rfl rfl rfl) ?_
  refine WPl.cs 2 rfl rfl rfl rfl (o_sig 2 id (c123 s.pounds s.tl s.th s.al s.ah) e123 rfl rfl rfl w123 trivial r123) ?_
  refine WPl.v rfl (o_not rfl) ?_
  refine WPl.v rfl (o_move rfl) ?_
  refine WPl.bit 2 3 (!(!(isPot s.pounds s.tl s.th s.al s.ah))) rfl rfl ?_
  refine WPl.gv 2 rfl rfl (.plain rfl (by simp) rfl) (fun hb => o_fldp F28_1 rfl) ?_
  refine WPl.gv 2 rfl rfl (.plain rfl (by simp) rfl) (fun hb => o_ldp S3 rfl rfl rfl) ?_
  refine WPl.gv 2 rfl rfl (.plain rfl (by simp) rfl) (fun hb => o_fldp F28_0 rfl) ?_
  refine WPl.gv 2 rfl rfl (.plain rfl (by simp) rfl) (fun hb => o_fldp F25_0 rfl) ?_
  refine WPl.gv 2 rfl rfl (.plain rfl (by simp) rfl) (fun hb => o_ldp S3 rfl rfl rfl) ?_
  refine WPl.gc0 2 rfl rfl (.plain rfl (by simp) rfl) (fun hb => o_sig 3 id (c35 s.room s.pounds 999) e35 rfl rfl rfl w35 trivial r35) ?_
  refine WPl.gv 2 rfl rfl (.plain rfl (by simp) rfl) (fun hb => o_not rfl) ?_
  refine WPl.v rfl (o_or rfl rfl rfl (by first | (simp; done) | simp_all)) ?_
  refine WPl.v rfl (o_move rfl) ?_
  refine WPl.bit 3 4 (!((!(isPot s.pounds s.tl s.th s.al s.ah)) || (!(within s.room s.pounds 999)))) rfl rfl ?_
  refine WPl.gv 3 rfl rfl (.plain rfl (by simp) rfl) (fun hb => o_fldp F28_2 rfl) ?_
  refine WPl.gv 3 rfl rfl (.plain rfl (by simp) rfl) (fun hb => o_ldpg G23 rfl rfl rfl) ?_
  refine WPl.gc0 3 rfl rfl (.plain rfl (by simp) rfl) (fun hb => o_sig 4 id (c85 s.tpl s.tph 1000) e85 rfl rfl rfl w85 trivial r85) ?_
  refine WPl.gv 3 rfl rfl (.plain rfl (by simp) rfl) (fun hb => o_not rfl) ?_
  refine WPl.v rfl (o_or rfl rfl rfl (by first | (simp; done) | simp_all)) ?_
  refine WPl.v rfl (o_move rfl) ?_
  refine WPl.bit 4 5 (!(((!(isPot s.pounds s.tl s.th s.al s.ah)) || (!(within s.room s.pounds 999))) || (!(isSpan s.tpl s.tph 1000)))) rfl rfl ?_
  refine WPl.gv 4 rfl rfl (.plain rfl (by simp) rfl) (fun hb => o_fldp F28_3 rfl) ?_
  refine WPl.gv 4 rfl rfl (.plain rfl (by simp) rfl) (fun hb => o_ldpg G23 rfl rfl rfl) ?_
  refine WPl.gc0 4 rfl rfl (.plain rfl (by simp) rfl) (fun hb => o_sig 5 id (c85 s.apl s.aph 1000) e85 rfl rfl rfl w85 trivial r85) ?_
  refine WPl.gv 4 rfl rfl (.plain rfl (by simp) rfl) (fun hb => o_not rfl) ?_
  refine WPl.v rfl (o_or rfl rfl rfl (by first | (simp; done) | simp_all)) ?_
  refine WPl.v rfl (o_move rfl) ?_
  refine WPl.bit 5 6 (!((((!(isPot s.pounds s.tl s.th s.al s.ah)) || (!(within s.room s.pounds 999))) || (!(isSpan s.tpl s.tph 1000))) || (!(isSpan s.apl s.aph 1000)))) rfl rfl ?_
  refine WPl.gv 5 rfl rfl (.plain rfl (by simp) rfl) (fun hb => o_fldp F28_4 rfl) ?_
  refine WPl.gv 5 rfl rfl (.plain rfl (by simp) rfl) (fun hb => o_ldp S26 rfl rfl rfl) ?_
  refine WPl.gv 5 rfl rfl (.plain rfl (by simp) rfl) (fun hb => o_lenq L26 rfl (lx rfl)) ?_
  refine WPl.gv 5 rfl rfl (.plain rfl (by simp) rfl) (fun hb => o_gtr rfl rfl) ?_
  refine WPl.v rfl (o_or rfl rfl rfl (by first | (simp; done) | simp_all)) ?_
  refine WPl.nil ?_
  refine EX.then ?_
  refine WP.cond rfl (fun hc1 => ?_) (fun hc1 => ?_)
  · try simp only [decide_eq_true_eq, decide_eq_false_iff_not, Bool.and_eq_true, Bool.or_eq_true, Bool.and_eq_false_iff, Bool.or_eq_false_iff, Bool.not_eq_true', Bool.not_eq_false', ne_eq, Decidable.not_not] at hc1
    refine WP.seq ?_
    refine WP.region ?_
    refine WPl.v rfl (o_assign rfl) ?_
    refine WPl.nil ?_
    refine EX.then ?_
    refine WP.ret ?_
    refine EX.ret_then ?_
    have h0 : s.head = false := by simp [Shop.head]; (try simp at hc1); grind
    rw [show errM s.chk = 10 from by simp [errM, Shop.chk, h0]]
    exact EX.fin id (.inl rfl) rfl (.tmp rfl .nil) rfl (by simp [SV.res, El.res, At.res, keys]) trivial (by simp) (by simp)
  · try simp only [decide_eq_true_eq, decide_eq_false_iff_not, Bool.and_eq_true, Bool.or_eq_true, Bool.and_eq_false_iff, Bool.or_eq_false_iff, Bool.not_eq_true', Bool.not_eq_false', ne_eq, Decidable.not_not] at hc1
    refine WP.skip ?_
    refine EX.then ?_
    refine WP.seq ?_
    refine WP.seq ?_
    refine WP.region ?_
    refine WPl.v rfl (o_assign rfl) ?_
    refine WPl.nil ?_
    refine EX.then ?_
    refine WP.block ?_
    refine WP.loop (Gh := Nat) (fun i => ⟨6, [(1, .e (.a (.p 1 (0)))), (2, .i (0)), (3, .i ((i : Int)))], [(0, PL EPig (s.pigs))], [(1, .blk [ai (s.pounds), ai (s.tl), ai (s.th), ai (s.al), ai (s.ah), ai (s.room), ai (s.tpl), ai (s.tph), ai (s.apl), ai (s.aph), .q 0] 28)], [], []⟩) (fun i => (i : Int) ≤ s.pigs.length ∧ ∀ j : Nat, j < i → (nth s.pigs j).chk = true) (fun i => s.pigs.length - i) (0) id ?_ (LeR.of ⟨rfl, rfl, rfl, trivial⟩ ⟨(lx rfl), trivial⟩ ⟨rfl, trivial⟩ rfl rfl rfl rfl rfl) ?_
    · exact ⟨by omega, fun j hj => absurd hj (Nat.not_lt_zero j)⟩
    intro i hφ
    obtain ⟨hi, hall⟩ := hφ
    refine WP.seq ?_
    refine WP.seq ?_
    refine WP.region ?_
    refine WPl.v rfl (o_move rfl) ?_
    refine WPl.v rfl (o_fldp F28_4 rfl) ?_
    refine WPl.v rfl (o_ldp S26 rfl rfl rfl) ?_
    refine WPl.v rfl (o_lenq L26 rfl (lx rfl)) ?_
    refine WPl.v rfl (o_lss rfl rfl) ?_
    refine WPl.nil ?_
    refine EX.then ?_
    refine WP.cond rfl (fun hc2 => ?_) (fun hc2 => ?_)
    · try simp only [decide_eq_true_eq, decide_eq_false_iff_not, Bool.and_eq_true, Bool.or_eq_true, Bool.and_eq_false_iff, Bool.or_eq_false_iff, Bool.not_eq_true', Bool.not_eq_false', ne_eq, Decidable.not_not] at hc2
      refine WP.skip ?_
      refine EX.then ?_
      refine WP.seq ?_
      refine WP.block ?_
      refine WP.seq ?_
      refine WP.region ?_
      refine WPl.v rfl (o_fldp F28_4 rfl) ?_
      refine WPl.v rfl (o_ldp S26 rfl rfl rfl) ?_
      refine WPl.v rfl (o_move rfl) ?_
      refine WPl.x 6 7 rfl rfl rfl (o_idx L26 rfl (lx rfl) rfl (by first | omega | (simp; omega)) (by first | omega | (simp; omega))) ?_
      refine WPl.v rfl (o_ldqg G78 rfl (lx rfl) (strG rfl) rfl rfl) ?_
      refine WPl.cs 7 rfl rfl rfl rfl (o_sig 7 id (c124 (nth s.pigs (i : Int))) e124 rfl rfl rfl w124 trivial r124) ?_
      refine WPl.v rfl (o_not rfl) ?_
      refine WPl.nil ?_
      refine EX.then ?_
      refine WP.cond rfl (fun hc3 => ?_) (fun hc3 => ?_)
      · try simp only [decide_eq_true_eq, decide_eq_false_iff_not, Bool.and_eq_true, Bool.or_eq_true, Bool.and_eq_false_iff, Bool.or_eq_false_iff, Bool.not_eq_true', Bool.not_eq_false', ne_eq, Decidable.not_not] at hc3
        refine WP.seq ?_
        refine WP.region ?_
        refine WPl.v rfl (o_assign rfl) ?_
        refine WPl.nil ?_
        refine EX.then ?_
        refine WP.ret ?_
        refine EX.ret_blk ?_
        refine EX.ret_then ?_
        refine EX.ret_then ?_
        refine EX.ret_blk ?_
        refine EX.ret_then ?_
        rw [show errM s.chk = 10 from by simp [errM, Shop.chk, not_all (show i < s.pigs.length by omega) (by simpa using hc3)]]
        exact EX.fin id (.inl rfl) rfl (.tmp rfl .nil) rfl (by simp [SV.res, El.res, At.res, keys]) trivial (by simp) (by simp)
      · try simp only [decide_eq_true_eq, decide_eq_false_iff_not, Bool.and_eq_true, Bool.or_eq_true, Bool.and_eq_false_iff, Bool.or_eq_false_iff, Bool.not_eq_true', Bool.not_eq_false', ne_eq, Decidable.not_not] at hc3
        refine WP.skip ?_
        refine EX.blk ?_
        refine EX.then ?_
        refine WP.region ?_
        refine WPl.v rfl (o_move rfl) ?_
        refine WPl.v rfl (o_add rfl rfl (by first | omega | (simp; omega)) (by first | omega | (simp; omega))) ?_
        refine WPl.v rfl (o_assign rfl) ?_
        refine WPl.nil ?_
        refine EX.again (i + 1) id (by exact ⟨by omega, fun j hj => by rcases Nat.lt_succ_iff_lt_or_eq.1 hj with h | rfl; exact hall j h; simpa using hc3⟩) (by omega) (LeR.of ⟨rfl, rfl, rfl, trivial⟩ ⟨(lx rfl), trivial⟩ ⟨rfl, trivial⟩ rfl rfl rfl rfl rfl)
    · try simp only [decide_eq_true_eq, decide_eq_false_iff_not, Bool.and_eq_true, Bool.or_eq_true, Bool.and_eq_false_iff, Bool.or_eq_false_iff, Bool.not_eq_true', Bool.not_eq_false', ne_eq, Decidable.not_not] at hc2
      refine WP.exit ?_
      refine EX.exit_then ?_
      refine EX.exit_then ?_
      refine EX.exit_blk ?_
      refine EX.then ?_
      refine WP.seq ?_
      refine WP.region ?_
      refine WPl.v rfl (o_assign rfl) ?_
      refine WPl.nil ?_
      refine EX.then ?_
      refine WP.ret ?_
      have h0 : s.head = true := by simp [Shop.head]; (try simp at hc1); grind
      rw [show errM s.chk = 0 from by simp [errM, Shop.chk, h0, all_of (fun j hj => hall j (by omega))]]
      exact EX.fin id (.inl rfl) rfl (.tmp rfl .nil) rfl (by simp [SV.res, El.res, At.res, keys]) trivial (by simp) (by simp)
theorem w84 {s : Shop} : ∀ x ∈ ([.e (.g [ai (s.pounds), ai (s.tl), ai (s.th), ai (s.al), ai (s.ah), ai (s.room), ai (s.tpl), ai (s.tph), ai (s.apl), ai (s.aph), .q 0])] : List SV), x.res (keys (α := Pred) [(0, PL EPig (s.pigs))]) := by simp [SV.res, El.res, At.res, keys]
theorem r84 {s : Shop} : SV.res (keys (α := Pred) []) (.i (errM s.chk)) := by simp [SV.res, El.res, At.res, keys]
set_option maxHeartbeats 4000000 in
theorem c84 (s : Shop) (hl : s.pigs.length ≤ 40) : Sig Try.prog 84 [.e (.g [ai (s.pounds), ai (s.tl), ai (s.th), ai (s.al), ai (s.ah), ai (s.room), ai (s.tpl), ai (s.tph), ai (s.apl), ai (s.aph), .q 0])] [(0, PL EPig (s.pigs))] (.i (errM s.chk)) [] := by
  refine Sig.intro Try.func84 rfl 1 [(0, .e (.g [ai (s.pounds), ai (s.tl), ai (s.th), ai (s.al), ai (s.ah), ai (s.room), ai (s.tpl), ai (s.tph), ai (s.apl), ai (s.aph), .q 0]))] rfl w84 rfl rfl fun I w => ?_
  refine WP.seq ?_
  refine WP.region ?_
  refine WPl.l 1 2 rfl rfl rfl (o_boxg rfl) ?_
  refine WPl.v rfl (o_assign rfl) ?_
  refine WPl.nil ?_
  refine EX.then ?_
  refine WP.seq ?_
  refine WP.region ?_
  refine WPl.v rfl (o_fldp F28_0 rfl) ?_
  refine WPl.v rfl (o_ldpg G25 rfl rfl rfl) ?_
  refine WPl.cs 2 rfl rfl rfl rfl (o_sig 2 id (c132 s.pounds s.tl s.th s.al s.ah) e132 rfl rfl rfl w132 trivial r132) ?_
  refine WPl.v rfl (o_move rfl) ?_
  refine WPl.bit 2 3 (isPot s.pounds s.tl s.th s.al s.ah) rfl rfl ?_
  refine WPl.gv 2 rfl rfl (.plain rfl Iff.rfl rfl) (fun hb => o_fldp F28_1 rfl) ?_
  refine WPl.gv 2 rfl rfl (.plain rfl Iff.rfl rfl) (fun hb => o_ldp S3 rfl rfl rfl) ?_
  refine WPl.gv 2 rfl rfl (.plain rfl Iff.rfl rfl) (fun hb => o_fldp F28_0 rfl) ?_
  refine WPl.gv 2 rfl rfl (.plain rfl Iff.rfl rfl) (fun hb => o_fldp F25_0 rfl) ?_
  refine WPl.gv 2 rfl rfl (.plain rfl Iff.rfl rfl) (fun hb => o_ldp S3 rfl rfl rfl) ?_
  refine WPl.gc0 2 rfl rfl (.plain rfl Iff.rfl rfl) (fun hb => o_sig 3 id (c133 s.room s.pounds 999) e133 rfl rfl rfl w133 trivial r133) ?_
  refine WPl.v rfl (o_and rfl rfl rfl id) ?_
  refine WPl.v rfl (o_move rfl) ?_
  refine WPl.bit 3 4 ((isPot s.pounds s.tl s.th s.al s.ah) && (within s.room s.pounds 999)) rfl rfl ?_
  refine WPl.gv 3 rfl rfl (.plain rfl Iff.rfl rfl) (fun hb => o_fldp F28_2 rfl) ?_
  refine WPl.gv 3 rfl rfl (.plain rfl Iff.rfl rfl) (fun hb => o_ldpg G23 rfl rfl rfl) ?_
  refine WPl.gc0 3 rfl rfl (.plain rfl Iff.rfl rfl) (fun hb => o_sig 4 id (c134 s.tpl s.tph 1000) e134 rfl rfl rfl w134 trivial r134) ?_
  refine WPl.v rfl (o_and rfl rfl rfl id) ?_
  refine WPl.v rfl (o_move rfl) ?_
  refine WPl.bit 4 5 (((isPot s.pounds s.tl s.th s.al s.ah) && (within s.room s.pounds 999)) && (isSpan s.tpl s.tph 1000)) rfl rfl ?_
  refine WPl.gv 4 rfl rfl (.plain rfl Iff.rfl rfl) (fun hb => o_fldp F28_3 rfl) ?_
  refine WPl.gv 4 rfl rfl (.plain rfl Iff.rfl rfl) (fun hb => o_ldpg G23 rfl rfl rfl) ?_
  refine WPl.gc0 4 rfl rfl (.plain rfl Iff.rfl rfl) (fun hb => o_sig 5 id (c134 s.apl s.aph 1000) e134 rfl rfl rfl w134 trivial r134) ?_
  refine WPl.v rfl (o_and rfl rfl rfl id) ?_
  refine WPl.v rfl (o_move rfl) ?_
  refine WPl.bit 5 6 ((((isPot s.pounds s.tl s.th s.al s.ah) && (within s.room s.pounds 999)) && (isSpan s.tpl s.tph 1000)) && (isSpan s.apl s.aph 1000)) rfl rfl ?_
  refine WPl.gv 5 rfl rfl (.plain rfl Iff.rfl rfl) (fun hb => o_fldp F28_4 rfl) ?_
  refine WPl.gv 5 rfl rfl (.plain rfl Iff.rfl rfl) (fun hb => o_ldp S26 rfl rfl rfl) ?_
  refine WPl.gv 5 rfl rfl (.plain rfl Iff.rfl rfl) (fun hb => o_lenq L26 rfl (lx rfl)) ?_
  refine WPl.gv 5 rfl rfl (.plain rfl Iff.rfl rfl) (fun hb => o_leq rfl rfl) ?_
  refine WPl.v rfl (o_and rfl rfl rfl id) ?_
  refine WPl.v rfl (o_assign rfl) ?_
  refine WPl.nil ?_
  refine EX.then ?_
  refine WP.seq ?_
  refine WP.seq ?_
  refine WP.region ?_
  refine WPl.v rfl (o_fldp F28_4 rfl) ?_
  refine WPl.v rfl (o_ldp S26 rfl rfl rfl) ?_
  refine WPl.v rfl (o_lenq L26 rfl (lx rfl)) ?_
  refine WPl.v rfl (o_move rfl) ?_
  refine WPl.nil ?_
  refine EX.then ?_
  refine WP.block ?_
  refine WP.loop (Gh := Nat) (fun i => ⟨6, [(2, .i (0)), (3, .b (s.head && allTo Pig.chk s.pigs i)), (34, .e (.a (.q 0))), (35, .i ((s.pigs.length : Int))), (36, .i ((i : Int)))], [(0, PL EPig (s.pigs))], [], [], []⟩) (fun i => i ≤ s.pigs.length) (fun i => s.pigs.length - i) (0) id ?_ (LeR.of ⟨rfl, (congrArg (fun z => some (SV.b z)) (show (((((isPot s.pounds s.tl s.th s.al s.ah) && (within s.room s.pounds 999)) && (isSpan s.tpl s.tph 1000)) && (isSpan s.apl s.aph 1000)) && (decide ((s.pigs.length : Int) ≤ 4))) = ((fun i => s.head && allTo Pig.chk s.pigs i) 0) from by simp [Shop.head, allTo])), rfl, rfl, rfl, trivial⟩ ⟨(lx rfl), trivial⟩ trivial rfl rfl rfl rfl rfl) ?_
  · first | trivial | omega | (constructor <;> omega) | simp
  intro i hφ
  try simp only [] at hφ
  refine WP.seq ?_
  refine WP.region ?_
  refine WPl.v rfl (o_lss rfl rfl) ?_
  refine WPl.nil ?_
  refine EX.then ?_
  refine WP.seq ?_
  refine WP.cond rfl (fun hc1 => ?_) (fun hc1 => ?_)
  · try simp only [decide_eq_true_eq, decide_eq_false_iff_not, Bool.and_eq_true, Bool.or_eq_true, Bool.and_eq_false_iff, Bool.or_eq_false_iff, Bool.not_eq_true', Bool.not_eq_false', ne_eq, Decidable.not_not] at hc1
    refine WP.skip ?_
    refine EX.then ?_
    refine WP.seq ?_
    refine WP.block ?_
    refine WP.seq ?_
    refine WP.region ?_
    refine WPl.x 6 7 rfl rfl rfl (o_idx L26 rfl (lx rfl) rfl (by first | omega | (simp; omega)) (by first | omega | (simp; omega))) ?_
    refine WPl.v rfl (o_ldqg G78 rfl (lx rfl) (strG rfl) rfl rfl) ?_
    refine WPl.l 7 8 rfl rfl rfl (o_alloc Z78) ?_
    refine WPl.s1 (o_stag G78 rfl rfl rfl ⟨rfl, rfl, rfl, rfl, rfl, trivial⟩ rfl rfl) ?_
    refine WPl.nil ?_
    refine EX.then ?_
    refine WP.region ?_
    refine WPl.v rfl (o_move rfl) ?_
    refine WPl.v rfl (o_move rfl) ?_
    refine WPl.bit 8 9 (s.head && allTo Pig.chk s.pigs i) rfl rfl ?_
    refine WPl.gv 8 rfl rfl (.plain rfl Iff.rfl rfl) (fun hb => o_fldp F78_0 rfl) ?_
    refine WPl.gv 8 rfl rfl (.plain rfl Iff.rfl rfl) (fun hb => o_ldp S3 rfl rfl rfl) ?_
    refine WPl.gc0 8 rfl rfl (.plain rfl Iff.rfl rfl) (fun hb => o_sig 9 id (c133 ((nth s.pigs (i : Int)).pounds) 1 40) e133 rfl rfl rfl w133 trivial r133) ?_
    refine WPl.v rfl (o_and rfl rfl rfl id) ?_
    refine WPl.v rfl (o_move rfl) ?_
    refine WPl.bit 9 10 ((s.head && allTo Pig.chk s.pigs i) && (within ((nth s.pigs (i : Int)).pounds) 1 40)) rfl rfl ?_
    refine WPl.gv 9 rfl rfl (.plain rfl Iff.rfl rfl) (fun hb => o_fldp F78_1 rfl) ?_
    refine WPl.gv 9 rfl rfl (.plain rfl Iff.rfl rfl) (fun hb => o_ldp S3 rfl rfl rfl) ?_
    refine WPl.gv 9 rfl rfl (.plain rfl Iff.rfl rfl) (fun hb => o_fldp F78_0 rfl) ?_
    refine WPl.gv 9 rfl rfl (.plain rfl Iff.rfl rfl) (fun hb => o_ldp S3 rfl rfl rfl) ?_
    refine WPl.gc0 9 rfl rfl (.plain rfl Iff.rfl rfl) (fun hb => o_sig 10 id (c133 ((nth s.pigs (i : Int)).tin) 0 ((nth s.pigs (i : Int)).pounds)) e133 rfl rfl rfl w133 trivial r133) ?_
    refine WPl.v rfl (o_and rfl rfl rfl id) ?_
    refine WPl.v rfl (o_move rfl) ?_
    refine WPl.bit 10 11 (((s.head && allTo Pig.chk s.pigs i) && (within ((nth s.pigs (i : Int)).pounds) 1 40)) && (within ((nth s.pigs (i : Int)).tin) 0 ((nth s.pigs (i : Int)).pounds))) rfl rfl ?_
    refine WPl.gv 10 rfl rfl (.plain rfl Iff.rfl rfl) (fun hb => o_fldp F78_2 rfl) ?_
    refine WPl.gv 10 rfl rfl (.plain rfl Iff.rfl rfl) (fun hb => o_ldp S3 rfl rfl rfl) ?_
    refine WPl.gv 10 rfl rfl (.plain rfl Iff.rfl rfl) (fun hb => o_fldp F78_0 rfl) ?_
    refine WPl.gv 10 rfl rfl (.plain rfl Iff.rfl rfl) (fun hb => o_ldp S3 rfl rfl rfl) ?_
    refine WPl.gv 10 rfl rfl (.plain rfl Iff.rfl rfl) (fun hb => o_fldp F78_1 rfl) ?_
    refine WPl.gv 10 rfl rfl (.plain rfl Iff.rfl rfl) (fun hb => o_ldp S3 rfl rfl rfl) ?_
    refine WPl.gv 10 rfl rfl (.plain rfl Iff.rfl rfl) (fun hb => o_sub rfl rfl (by simp [within] at hb; omega) (by simp [within] at hb; omega)) ?_
    refine WPl.gc0 10 rfl rfl (.plain rfl Iff.rfl rfl) (fun hb => o_sig 11 id (c133 ((nth s.pigs (i : Int)).ant) 0 (((nth s.pigs (i : Int)).pounds) - ((nth s.pigs (i : Int)).tin))) e133 rfl rfl rfl w133 trivial r133) ?_
    refine WPl.v rfl (o_and rfl rfl rfl id) ?_
    refine WPl.v rfl (o_move rfl) ?_
    refine WPl.bit 11 12 ((((s.head && allTo Pig.chk s.pigs i) && (within ((nth s.pigs (i : Int)).pounds) 1 40)) && (within ((nth s.pigs (i : Int)).tin) 0 ((nth s.pigs (i : Int)).pounds))) && (within ((nth s.pigs (i : Int)).ant) 0 (((nth s.pigs (i : Int)).pounds) - ((nth s.pigs (i : Int)).tin)))) rfl rfl ?_
    refine WPl.gv 11 rfl rfl (.plain rfl Iff.rfl rfl) (fun hb => o_fldp F78_3 rfl) ?_
    refine WPl.gv 11 rfl rfl (.plain rfl Iff.rfl rfl) (fun hb => o_ldp S3 rfl rfl rfl) ?_
    refine WPl.gc0 11 rfl rfl (.plain rfl Iff.rfl rfl) (fun hb => o_sig 12 id (c133 ((nth s.pigs (i : Int)).pence) 0 99) e133 rfl rfl rfl w133 trivial r133) ?_
    refine WPl.v rfl (o_and rfl rfl rfl id) ?_
    refine WPl.v rfl (o_move rfl) ?_
    refine WPl.bit 12 13 (((((s.head && allTo Pig.chk s.pigs i) && (within ((nth s.pigs (i : Int)).pounds) 1 40)) && (within ((nth s.pigs (i : Int)).tin) 0 ((nth s.pigs (i : Int)).pounds))) && (within ((nth s.pigs (i : Int)).ant) 0 (((nth s.pigs (i : Int)).pounds) - ((nth s.pigs (i : Int)).tin)))) && (within ((nth s.pigs (i : Int)).pence) 0 99)) rfl rfl ?_
    refine WPl.gv 12 rfl rfl (.plain rfl Iff.rfl rfl) (fun hb => o_fldp F78_4 rfl) ?_
    refine WPl.gv 12 rfl rfl (.plain rfl Iff.rfl rfl) (fun hb => o_ldp S3 rfl rfl rfl) ?_
    refine WPl.gc0 12 rfl rfl (.plain rfl Iff.rfl rfl) (fun hb => o_sig 13 id (c133 ((nth s.pigs (i : Int)).many) 0 5) e133 rfl rfl rfl w133 trivial r133) ?_
    refine WPl.v rfl (o_and rfl rfl rfl id) ?_
    refine WPl.v rfl (o_assign rfl) ?_
    refine WPl.nil ?_
    refine EX.blk ?_
    refine EX.then ?_
    refine WP.region ?_
    refine WPl.v rfl (o_add rfl rfl (by first | omega | (simp; omega)) (by first | omega | (simp; omega))) ?_
    refine WPl.v rfl (o_move rfl) ?_
    refine WPl.nil ?_
    refine EX.again (i + 1) id (by first | omega | (constructor <;> omega)) (by omega) (LeR.of ⟨rfl, (congrArg (fun z => some (SV.b z)) (show ((((((s.head && allTo Pig.chk s.pigs i) && (within ((nth s.pigs (i : Int)).pounds) 1 40)) && (within ((nth s.pigs (i : Int)).tin) 0 ((nth s.pigs (i : Int)).pounds))) && (within ((nth s.pigs (i : Int)).ant) 0 (((nth s.pigs (i : Int)).pounds) - ((nth s.pigs (i : Int)).tin)))) && (within ((nth s.pigs (i : Int)).pence) 0 99)) && (within ((nth s.pigs (i : Int)).many) 0 5)) = ((fun i => s.head && allTo Pig.chk s.pigs i) (i + 1)) from by simp only [allTo, Pig.chk, Bool.and_assoc])), rfl, rfl, rfl, trivial⟩ ⟨(lx rfl), trivial⟩ trivial rfl rfl rfl rfl rfl)
  · try simp only [decide_eq_true_eq, decide_eq_false_iff_not, Bool.and_eq_true, Bool.or_eq_true, Bool.and_eq_false_iff, Bool.or_eq_false_iff, Bool.not_eq_true', Bool.not_eq_false', ne_eq, Decidable.not_not] at hc1
    refine WP.exit ?_
    refine EX.exit_then ?_
    refine EX.exit_then ?_
    refine EX.exit_blk ?_
    refine EX.then ?_
    refine WP.seq ?_
    refine WP.seq ?_
    refine WP.region ?_
    refine WPl.v rfl (o_move rfl) ?_
    refine WPl.v rfl (o_not rfl) ?_
    refine WPl.nil ?_
    refine EX.then ?_
    refine WP.cond rfl (fun hc2 => ?_) (fun hc2 => ?_)
    · try simp only [decide_eq_true_eq, decide_eq_false_iff_not, Bool.and_eq_true, Bool.or_eq_true, Bool.and_eq_false_iff, Bool.or_eq_false_iff, Bool.not_eq_true', Bool.not_eq_false', ne_eq, Decidable.not_not] at hc2
      refine WP.seq ?_
      refine WP.region ?_
      refine WPl.v rfl (o_assign rfl) ?_
      refine WPl.nil ?_
      refine EX.then ?_
      refine WP.ret ?_
      refine EX.ret_then ?_
      have hi : i = s.pigs.length := by omega
      rw [show errM s.chk = 10 from by subst hi; rw [allTo_len] at hc2; simp only [errM, Shop.chk]; rcases hc2 with h | h <;> simp [h]]
      exact EX.fin id (.inl rfl) rfl (.tmp rfl .nil) rfl (by simp [SV.res, El.res, At.res, keys]) trivial (by simp) (by simp)
    · try simp only [decide_eq_true_eq, decide_eq_false_iff_not, Bool.and_eq_true, Bool.or_eq_true, Bool.and_eq_false_iff, Bool.or_eq_false_iff, Bool.not_eq_true', Bool.not_eq_false', ne_eq, Decidable.not_not] at hc2
      refine WP.skip ?_
      refine EX.then ?_
      refine WP.seq ?_
      refine WP.region ?_
      refine WPl.v rfl (o_assign rfl) ?_
      refine WPl.nil ?_
      refine EX.then ?_
      refine WP.ret ?_
      have hi : i = s.pigs.length := by omega
      rw [show errM s.chk = 0 from by subst hi; rw [allTo_len] at hc2; simp [errM, Shop.chk]; simpa using hc2]
      exact EX.fin id (.inl rfl) rfl (.tmp rfl .nil) rfl (by simp [SV.res, El.res, At.res, keys]) trivial (by simp) (by simp)
theorem w97 {f : Fnd} : ∀ x ∈ ([.e (.g [ai (f.shop.pounds), ai (f.shop.tl), ai (f.shop.th), ai (f.shop.al), ai (f.shop.ah), ai (f.shop.room), ai (f.shop.tpl), ai (f.shop.tph), ai (f.shop.apl), ai (f.shop.aph), .q 0, .q 1])] : List SV), x.res (keys (α := Pred) [(0, PL EPig (f.shop.pigs)), (1, PL ENight (f.nights))]) := by simp [SV.res, El.res, At.res, keys]
theorem r97 {f : Fnd} : SV.res (keys (α := Pred) [(0, PL EP.int (List.replicate f.shop.pigs.length 0))]) (.e (.a (.q 0))) := by simp [SV.res, El.res, At.res, keys]
set_option maxHeartbeats 4000000 in
theorem c97 (f : Fnd) (hl : f.shop.pigs.length ≤ 40) : Sig Try.prog 97 [.e (.g [ai (f.shop.pounds), ai (f.shop.tl), ai (f.shop.th), ai (f.shop.al), ai (f.shop.ah), ai (f.shop.room), ai (f.shop.tpl), ai (f.shop.tph), ai (f.shop.apl), ai (f.shop.aph), .q 0, .q 1])] [(0, PL EPig (f.shop.pigs)), (1, PL ENight (f.nights))] (.e (.a (.q 0))) [(0, PL EP.int (List.replicate f.shop.pigs.length 0))] := by
  refine Sig.intro Try.func97 rfl 2 [(0, .e (.g [ai (f.shop.pounds), ai (f.shop.tl), ai (f.shop.th), ai (f.shop.al), ai (f.shop.ah), ai (f.shop.room), ai (f.shop.tpl), ai (f.shop.tph), ai (f.shop.apl), ai (f.shop.aph), .q 0, .q 1]))] rfl w97 rfl rfl fun I w => ?_
  refine WP.seq ?_
  refine WP.region ?_
  refine WPl.l 2 3 rfl rfl rfl (o_boxg rfl) ?_
  refine WPl.v rfl (o_assign rfl) ?_
  refine WPl.nil ?_
  refine EX.then ?_
  refine WP.seq ?_
  refine WP.region ?_
  refine WPl.v rfl (o_fldp F31_0 rfl) ?_
  refine WPl.v rfl (o_fldp F28_4 rfl) ?_
  refine WPl.v rfl (o_ldp S26 rfl rfl rfl) ?_
  refine WPl.v rfl (o_lenq L26 rfl (lx rfl)) ?_
  refine WPl.l 3 4 rfl rfl rfl (o_make (z := 0) (E := EP.int) f.shop.pigs.length R44 (fun _ => rfl) rfl rfl (by first | omega | (simp; omega)) (by first | omega | (simp; omega))) ?_
  refine WPl.v rfl (o_assign rfl) ?_
  refine WPl.nil ?_
  refine EX.then ?_
  refine WP.ret ?_
  refine EX.imp (Imp.frz (E := EP.int) (l := List.replicate f.shop.pigs.length 0) 3 rfl rfl) ?_
  exact EX.fin (ren [(0, 3)]) (.inl rfl) rfl (.tmp rfl .nil) rfl r97 ⟨(lx rfl), trivial⟩ (by simp) (by simp)
theorem w131 {a b : List Int} : ∀ x ∈ ([.e (.a (.q 0)), .e (.a (.q 1))] : List SV), x.res (keys (α := Pred) [(0, PL EP.int (a)), (1, PL EP.int (b))]) := by simp [SV.res, El.res, At.res, keys]
theorem r131 {a b : List Int} : SV.res (keys (α := Pred) [(0, PL EP.int (plus a b))]) (.e (.a (.q 0))) := by simp [SV.res, El.res, At.res, keys]
set_option maxHeartbeats 4000000 in
theorem c131 (a b : List Int) (ha : a.length ≤ 40) (hab : a.length = b.length) (hb1 : bnd a 1000000) (hb2 : bnd b 1000000) : Sig Try.prog 131 [.e (.a (.q 0)), .e (.a (.q 1))] [(0, PL EP.int (a)), (1, PL EP.int (b))] (.e (.a (.q 0))) [(0, PL EP.int (plus a b))] := by
  refine Sig.intro Try.func131 rfl 2 [(0, .e (.a (.q 0))), (1, .e (.a (.q 1)))] rfl w131 rfl rfl fun I w => ?_
  refine WP.seq ?_
  refine WP.region ?_
  refine WPl.v rfl (o_assign rfl) ?_
  refine WPl.nil ?_
  refine EX.then ?_
  refine WP.seq ?_
  refine WP.region ?_
  refine WPl.v rfl (o_move rfl) ?_
  refine WPl.v rfl (o_lenq L44 rfl (lx rfl)) ?_
  refine WPl.l 2 3 rfl rfl rfl (o_make (z := 0) (E := EP.int) a.length R44 (fun _ => rfl) rfl rfl (by first | omega | (simp; omega)) (by first | omega | (simp; omega))) ?_
  refine WPl.v rfl (o_assign rfl) ?_
  refine WPl.nil ?_
  refine EX.then ?_
  refine WP.seq ?_
  refine WP.seq ?_
  refine WP.region ?_
  refine WPl.v rfl (o_assign rfl) ?_
  refine WPl.nil ?_
  refine EX.then ?_
  refine WP.block ?_
  refine WP.loop (Gh := Nat) (fun i => ⟨3, [(0, .e (.a (.q 0))), (1, .e (.a (.q 1))), (4, .e (.a (.v (.slice none 0 0)))), (5, .e (.a (.q 2))), (6, .i ((i : Int)))], [(0, PL EP.int (a)), (1, PL EP.int (b))], [(2, .own 3 EP.int.size (plusTo a b i).length (RP EP.int (plusTo a b i)))], [], []⟩) (fun i => i ≤ a.length) (fun i => a.length - i) (0) id ?_ (LeR.of ⟨rfl, rfl, rfl, rfl, rfl, trivial⟩ ⟨(lx rfl), (lx rfl), trivial⟩ ⟨rfl, trivial⟩ rfl rfl rfl rfl rfl) ?_
  · first | trivial | omega | (constructor <;> omega) | simp
  intro i hφ
  try simp only [] at hφ
  refine WP.seq ?_
  refine WP.seq ?_
  refine WP.region ?_
  refine WPl.v rfl (o_move rfl) ?_
  refine WPl.v rfl (o_move rfl) ?_
  refine WPl.v rfl (o_lenq L44 rfl (lx rfl)) ?_
  refine WPl.v rfl (o_lss rfl rfl) ?_
  refine WPl.nil ?_
  refine EX.then ?_
  refine WP.cond rfl (fun hc1 => ?_) (fun hc1 => ?_)
  · try simp only [decide_eq_true_eq, decide_eq_false_iff_not, Bool.and_eq_true, Bool.or_eq_true, Bool.and_eq_false_iff, Bool.or_eq_false_iff, Bool.not_eq_true', Bool.not_eq_false', ne_eq, Decidable.not_not] at hc1
    refine WP.skip ?_
    refine EX.then ?_
    refine WP.seq ?_
    refine WP.block ?_
    refine WP.draw (nf := 5) [⟨[17, 18, 19, 20, 21, 22, 23, 24, 25, 26], [3, 4], [], [], []⟩, ⟨[16, 18, 19, 20, 21, 22, 23, 24, 25, 26], [3, 4], [], [], []⟩, ⟨[16, 17, 19, 22, 23, 24, 25], [4], [], [], []⟩, ⟨[16, 17, 18, 22, 23, 24, 25], [4], [], [], []⟩, ⟨[16, 17, 22, 23, 24, 25], [4], [3], [3], [2, 3]⟩, ⟨[16, 17, 22, 23, 24, 25], [4], [], [], [2, 3, 4]⟩, ⟨[16, 17, 18, 19, 20, 21, 23], [3], [], [], []⟩, ⟨[16, 17, 18, 19, 20, 21, 22], [3], [], [], []⟩, ⟨[16, 17, 18, 19, 20, 21], [3], [4], [4], [6, 7]⟩, ⟨[16, 17, 18, 19, 20, 21], [3], [], [], [6, 7, 8]⟩, ⟨[16, 17], [], [], [], [2, 3, 4, 5, 6, 7, 8, 9]⟩, ⟨[], [], [], [], [0, 1, 2, 3, 4, 5, 6, 7, 8, 9, 10]⟩, ⟨[], [], [], [2], [0, 1, 2, 3, 4, 5, 6, 7, 8, 9, 10, 11]⟩] (by kernel_rfl) (by kernel_rfl) ?_
    refine DRQ.v rfl rfl rfl (o_move rfl) ?_
    refine DRQ.v rfl rfl rfl (o_move rfl) ?_
    refine DRQ.v rfl rfl rfl (o_move rfl) ?_
    refine DRQ.v rfl rfl rfl (o_move rfl) ?_
    refine DRQ.x 3 rfl rfl rfl rfl (o_idx L44 rfl (lx rfl) rfl (by first | omega | (simp; omega)) (by first | omega | (simp; omega))) ?_
    refine DRQ.v rfl rfl rfl (o_ldq S3 rfl (lx rfl) intc) ?_
    refine DRQ.v rfl rfl rfl (o_move rfl) ?_
    refine DRQ.v rfl rfl rfl (o_move rfl) ?_
    refine DRQ.x 4 rfl rfl rfl rfl (o_idx L44 rfl (lx rfl) rfl (by first | omega | (simp; omega)) (by first | omega | (simp; omega))) ?_
    refine DRQ.v rfl rfl rfl (o_ldq S3 rfl (lx rfl) intc) ?_
    have hb3 := hb1 i (by omega)
    have hb4 := hb2 i (by omega)
    refine DRQ.v rfl rfl rfl (o_add rfl rfl (by first | omega | (simp; omega)) (by first | omega | (simp; omega))) ?_
    refine DRQ.v rfl rfl rfl (o_idxo L44 rfl rfl rfl (by have := plusTo_len a b i; omega) (by have := plusTo_len a b i; omega)) ?_
    refine DRQ.s 2 rfl rfl rfl (o_steE2 Try.sizeOf3 rfl rfl rfl rfl eok_int rfl rfl rfl (by have := plusTo_len a b i; omega) (by have := plusTo_len a b i; omega)) ?_
    refine DRQ.nil' ?_
    refine EX.blk ?_
    refine EX.then ?_
    refine WP.region ?_
    refine WPl.v rfl (o_move rfl) ?_
    refine WPl.v rfl (o_add rfl rfl (by first | omega | (simp; omega)) (by first | omega | (simp; omega))) ?_
    refine WPl.v rfl (o_assign rfl) ?_
    refine WPl.nil ?_
    refine EX.again (i + 1) id (by first | omega | (constructor <;> omega)) (by omega) (LeR.of ⟨rfl, rfl, rfl, rfl, rfl, trivial⟩ ⟨(lx rfl), (lx rfl), trivial⟩ ⟨rfl, trivial⟩ rfl rfl rfl rfl rfl)
  · try simp only [decide_eq_true_eq, decide_eq_false_iff_not, Bool.and_eq_true, Bool.or_eq_true, Bool.and_eq_false_iff, Bool.or_eq_false_iff, Bool.not_eq_true', Bool.not_eq_false', ne_eq, Decidable.not_not] at hc1
    refine WP.exit ?_
    refine EX.exit_then ?_
    refine EX.exit_then ?_
    refine EX.exit_blk ?_
    refine EX.then ?_
    refine WP.seq ?_
    refine WP.region ?_
    refine WPl.v rfl (o_move rfl) ?_
    refine WPl.v rfl (o_assign rfl) ?_
    refine WPl.nil ?_
    refine EX.then ?_
    refine WP.ret ?_
    refine EX.imp (Imp.frz (E := EP.int) (l := plusTo a b i) 2 rfl rfl) ?_
    have hi : i = a.length := by omega
    subst hi
    exact EX.fin (ren [(0, 2)]) (.inl rfl) rfl (.tmp rfl .nil) rfl (by simp [SV.res, El.res, At.res, keys]) ⟨(lx rfl), trivial⟩ (by simp) (by simp)
theorem w38 {s : Shop} {add : List Int} : ∀ x ∈ ([.e (.g [ai (s.pounds), ai (s.tl), ai (s.th), ai (s.al), ai (s.ah), ai (s.room), ai (s.tpl), ai (s.tph), ai (s.apl), ai (s.aph), .q 0]), .e (.a (.q 1))] : List SV), x.res (keys (α := Pred) [(0, PL EPig (s.pigs)), (1, PL EP.int (add))]) := by simp [SV.res, El.res, At.res, keys]
theorem r38 {s : Shop} {add : List Int} : SV.res (keys (α := Pred) []) (.i (sumOf Pig.pounds s.pigs add)) := by simp [SV.res, El.res, At.res, keys]
set_option maxHeartbeats 4000000 in
theorem c38 (s : Shop) (add : List Int) (hs : PigsOK s.pigs) (ha : bnd add 1000) (hl : add.length ≤ s.pigs.length) : Sig Try.prog 38 [.e (.g [ai (s.pounds), ai (s.tl), ai (s.th), ai (s.al), ai (s.ah), ai (s.room), ai (s.tpl), ai (s.tph), ai (s.apl), ai (s.aph), .q 0]), .e (.a (.q 1))] [(0, PL EPig (s.pigs)), (1, PL EP.int (add))] (.i (sumOf Pig.pounds s.pigs add)) [] := by
  have hl2 := hs.2
  have hf : ∀ j : Nat, j < add.length → 0 ≤ (nth s.pigs j).pounds ∧ (nth s.pigs j).pounds ≤ 99 := fun j hj => by have := Pig.bnds (hs.at (show j < s.pigs.length by omega)); omega
  have hsum := sumTo_bnd (f := Pig.pounds) ha hf
  refine Sig.intro Try.func38 rfl 2 [(0, .e (.g [ai (s.pounds), ai (s.tl), ai (s.th), ai (s.al), ai (s.ah), ai (s.room), ai (s.tpl), ai (s.tph), ai (s.apl), ai (s.aph), .q 0])), (1, .e (.a (.q 1)))] rfl w38 rfl rfl fun I w => ?_
  refine WP.seq ?_
  refine WP.region ?_
  refine WPl.l 2 3 rfl rfl rfl (o_boxg rfl) ?_
  refine WPl.v rfl (o_assign rfl) ?_
  refine WPl.nil ?_
  refine EX.then ?_
  refine WP.seq ?_
  refine WP.region ?_
  refine WPl.v rfl (o_assign rfl) ?_
  refine WPl.nil ?_
  refine EX.then ?_
  refine WP.seq ?_
  refine WP.seq ?_
  refine WP.region ?_
  refine WPl.v rfl (o_assign rfl) ?_
  refine WPl.nil ?_
  refine EX.then ?_
  refine WP.block ?_
  refine WP.loop (Gh := Nat) (fun i => ⟨3, [(1, .e (.a (.q 1))), (2, .e (.a (.p 2 (0)))), (4, .i (0)), (5, .i (sumTo Pig.pounds s.pigs add i)), (6, .i ((i : Int)))], [(0, PL EPig (s.pigs)), (1, PL EP.int (add))], [(2, .blk [ai (s.pounds), ai (s.tl), ai (s.th), ai (s.al), ai (s.ah), ai (s.room), ai (s.tpl), ai (s.tph), ai (s.apl), ai (s.aph), .q 0] 28)], [], []⟩) (fun i => i ≤ add.length) (fun i => add.length - i) (0) id ?_ (LeR.of ⟨rfl, rfl, rfl, rfl, rfl, trivial⟩ ⟨(lx rfl), (lx rfl), trivial⟩ ⟨rfl, trivial⟩ rfl rfl rfl rfl rfl) ?_
  · first | trivial | omega | (constructor <;> omega) | simp
  intro i hφ
  try simp only [] at hφ
  refine WP.seq ?_
  refine WP.seq ?_
  refine WP.region ?_
  refine WPl.v rfl (o_move rfl) ?_
  refine WPl.v rfl (o_move rfl) ?_
  refine WPl.v rfl (o_lenq L44 rfl (lx rfl)) ?_
  refine WPl.v rfl (o_lss rfl rfl) ?_
  refine WPl.nil ?_
  refine EX.then ?_
  refine WP.cond rfl (fun hc1 => ?_) (fun hc1 => ?_)
  · try simp only [decide_eq_true_eq, decide_eq_false_iff_not, Bool.and_eq_true, Bool.or_eq_true, Bool.and_eq_false_iff, Bool.or_eq_false_iff, Bool.not_eq_true', Bool.not_eq_false', ne_eq, Decidable.not_not] at hc1
    refine WP.skip ?_
    refine EX.then ?_
    refine WP.seq ?_
    refine WP.block ?_
    refine WP.draw (nf := 5) [⟨[14, 15, 16, 17, 18, 19, 20, 21, 22, 23, 24], [3, 4], [], [], []⟩, ⟨[13, 15, 18, 19, 20, 21, 22, 23], [4], [], [], []⟩, ⟨[13, 14, 18, 19, 20, 21, 22, 23], [4], [], [], []⟩, ⟨[13, 18, 19, 20, 21, 22, 23], [4], [3], [3], [1, 2]⟩, ⟨[13, 18, 19, 20, 21, 22, 23], [4], [], [], [1, 2, 3]⟩, ⟨[13, 14, 15, 16, 17, 20], [3], [], [], []⟩, ⟨[13, 14, 15, 16, 17, 20], [3], [], [], [5]⟩, ⟨[13, 14, 15, 16, 17, 18, 19], [3], [], [], []⟩, ⟨[13, 14, 15, 16, 17], [3], [4], [4], [5, 6, 7]⟩, ⟨[13, 14, 15, 16, 17], [3], [], [], [5, 6, 7, 8]⟩, ⟨[13, 14, 15, 16, 17], [3], [], [], [5, 6, 7, 8, 9]⟩, ⟨[13], [], [], [], [1, 2, 3, 4, 5, 6, 7, 8, 9, 10]⟩, ⟨[], [], [], [], [0, 1, 2, 3, 4, 5, 6, 7, 8, 9, 10, 11]⟩, ⟨[], [], [], [], [0, 1, 2, 3, 4, 5, 6, 7, 8, 9, 10, 11, 12]⟩] (by kernel_rfl) (by kernel_rfl) ?_
    refine DRQ.v rfl rfl rfl (o_move rfl) ?_
    refine DRQ.v rfl rfl rfl (o_move rfl) ?_
    refine DRQ.v rfl rfl rfl (o_move rfl) ?_
    refine DRQ.x 3 rfl rfl rfl rfl (o_idx L44 rfl (lx rfl) rfl (by first | omega | (simp; omega)) (by first | omega | (simp; omega))) ?_
    refine DRQ.v rfl rfl rfl (o_ldq S3 rfl (lx rfl) intc) ?_
    refine DRQ.v rfl rfl rfl (o_fldp F28_4 rfl) ?_
    refine DRQ.v rfl rfl rfl (o_ldp S26 rfl rfl rfl) ?_
    refine DRQ.v rfl rfl rfl (o_move rfl) ?_
    refine DRQ.x 4 rfl rfl rfl rfl (o_idx L26 rfl (lx rfl) rfl (by first | omega | (simp; omega)) (by first | omega | (simp; omega))) ?_
    refine DRQ.v rfl rfl rfl (o_fldq F78_0 rfl (lx rfl)) ?_
    refine DRQ.v rfl rfl rfl (o_lde S3 rfl (lx rfl) (strI rfl)) ?_
    have h1 := ha i (by omega)
    have h2 := hf i (by omega)
    have h3 := mulb h1.1 h1.2 h2.1 h2.2
    have h4 := hsum i (by omega)
    refine DRQ.v rfl rfl rfl (o_mul rfl rfl (by first | omega | (simp; omega)) (by first | omega | (simp; omega))) ?_
    refine DRQ.v rfl rfl rfl (o_add rfl rfl (by first | omega | (simp; omega)) (by first | omega | (simp; omega))) ?_
    refine DRQ.v rfl rfl rfl (o_assign rfl) ?_
    refine DRQ.nil' ?_
    refine EX.blk ?_
    refine EX.then ?_
    refine WP.region ?_
    refine WPl.v rfl (o_move rfl) ?_
    refine WPl.v rfl (o_add rfl rfl (by first | omega | (simp; omega)) (by first | omega | (simp; omega))) ?_
    refine WPl.v rfl (o_assign rfl) ?_
    refine WPl.nil ?_
    refine EX.again (i + 1) id (by first | omega | (constructor <;> omega)) (by omega) (LeR.of ⟨rfl, rfl, rfl, rfl, rfl, trivial⟩ ⟨(lx rfl), (lx rfl), trivial⟩ ⟨rfl, trivial⟩ rfl rfl rfl rfl rfl)
  · try simp only [decide_eq_true_eq, decide_eq_false_iff_not, Bool.and_eq_true, Bool.or_eq_true, Bool.and_eq_false_iff, Bool.or_eq_false_iff, Bool.not_eq_true', Bool.not_eq_false', ne_eq, Decidable.not_not] at hc1
    refine WP.exit ?_
    refine EX.exit_then ?_
    refine EX.exit_then ?_
    refine EX.exit_blk ?_
    refine EX.then ?_
    refine WP.seq ?_
    refine WP.region ?_
    refine WPl.v rfl (o_move rfl) ?_
    refine WPl.v rfl (o_assign rfl) ?_
    refine WPl.nil ?_
    refine EX.then ?_
    refine WP.ret ?_
    have hi : i = add.length := by omega
    subst hi
    exact EX.fin id (.inl rfl) rfl (.tmp rfl .nil) rfl (by simp [SV.res, El.res, At.res, keys]) trivial (by simp) (by simp)
theorem w108 {s : Shop} {add : List Int} : ∀ x ∈ ([.e (.g [ai (s.pounds), ai (s.tl), ai (s.th), ai (s.al), ai (s.ah), ai (s.room), ai (s.tpl), ai (s.tph), ai (s.apl), ai (s.aph), .q 0]), .e (.a (.q 1))] : List SV), x.res (keys (α := Pred) [(0, PL EPig (s.pigs)), (1, PL EP.int (add))]) := by simp [SV.res, El.res, At.res, keys]
theorem r108 {s : Shop} {add : List Int} : SV.res (keys (α := Pred) []) (.i (sumOf Pig.pence s.pigs add)) := by simp [SV.res, El.res, At.res, keys]
set_option maxHeartbeats 4000000 in
theorem c108 (s : Shop) (add : List Int) (hs : PigsOK s.pigs) (ha : bnd add 1000) (hl : add.length ≤ s.pigs.length) : Sig Try.prog 108 [.e (.g [ai (s.pounds), ai (s.tl), ai (s.th), ai (s.al), ai (s.ah), ai (s.room), ai (s.tpl), ai (s.tph), ai (s.apl), ai (s.aph), .q 0]), .e (.a (.q 1))] [(0, PL EPig (s.pigs)), (1, PL EP.int (add))] (.i (sumOf Pig.pence s.pigs add)) [] := by
  have hl2 := hs.2
  have hf : ∀ j : Nat, j < add.length → 0 ≤ (nth s.pigs j).pence ∧ (nth s.pigs j).pence ≤ 99 := fun j hj => by have := Pig.bnds (hs.at (show j < s.pigs.length by omega)); omega
  have hsum := sumTo_bnd (f := Pig.pence) ha hf
  refine Sig.intro Try.func108 rfl 2 [(0, .e (.g [ai (s.pounds), ai (s.tl), ai (s.th), ai (s.al), ai (s.ah), ai (s.room), ai (s.tpl), ai (s.tph), ai (s.apl), ai (s.aph), .q 0])), (1, .e (.a (.q 1)))] rfl w108 rfl rfl fun I w => ?_
  refine WP.seq ?_
  refine WP.region ?_
  refine WPl.l 2 3 rfl rfl rfl (o_boxg rfl) ?_
  refine WPl.v rfl (o_assign rfl) ?_
  refine WPl.nil ?_
  refine EX.then ?_
  refine WP.seq ?_
  refine WP.region ?_
  refine WPl.v rfl (o_assign rfl) ?_
  refine WPl.nil ?_
  refine EX.then ?_
  refine WP.seq ?_
  refine WP.seq ?_
  refine WP.region ?_
  refine WPl.v rfl (o_assign rfl) ?_
  refine WPl.nil ?_
  refine EX.then ?_
  refine WP.block ?_
  refine WP.loop (Gh := Nat) (fun i => ⟨3, [(1, .e (.a (.q 1))), (2, .e (.a (.p 2 (0)))), (4, .i (0)), (5, .i (sumTo Pig.pence s.pigs add i)), (6, .i ((i : Int)))], [(0, PL EPig (s.pigs)), (1, PL EP.int (add))], [(2, .blk [ai (s.pounds), ai (s.tl), ai (s.th), ai (s.al), ai (s.ah), ai (s.room), ai (s.tpl), ai (s.tph), ai (s.apl), ai (s.aph), .q 0] 28)], [], []⟩) (fun i => i ≤ add.length) (fun i => add.length - i) (0) id ?_ (LeR.of ⟨rfl, rfl, rfl, rfl, rfl, trivial⟩ ⟨(lx rfl), (lx rfl), trivial⟩ ⟨rfl, trivial⟩ rfl rfl rfl rfl rfl) ?_
  · first | trivial | omega | (constructor <;> omega) | simp
  intro i hφ
  try simp only [] at hφ
  refine WP.seq ?_
  refine WP.seq ?_
  refine WP.region ?_
  refine WPl.v rfl (o_move rfl) ?_
  refine WPl.v rfl (o_move rfl) ?_
  refine WPl.v rfl (o_lenq L44 rfl (lx rfl)) ?_
  refine WPl.v rfl (o_lss rfl rfl) ?_
  refine WPl.nil ?_
  refine EX.then ?_
  refine WP.cond rfl (fun hc1 => ?_) (fun hc1 => ?_)
  · try simp only [decide_eq_true_eq, decide_eq_false_iff_not, Bool.and_eq_true, Bool.or_eq_true, Bool.and_eq_false_iff, Bool.or_eq_false_iff, Bool.not_eq_true', Bool.not_eq_false', ne_eq, Decidable.not_not] at hc1
    refine WP.skip ?_
    refine EX.then ?_
    refine WP.seq ?_
    refine WP.block ?_
    refine WP.draw (nf := 5) [⟨[14, 15, 16, 17, 18, 19, 20, 21, 22, 23, 24], [3, 4], [], [], []⟩, ⟨[13, 15, 18, 19, 20, 21, 22, 23], [4], [], [], []⟩, ⟨[13, 14, 18, 19, 20, 21, 22, 23], [4], [], [], []⟩, ⟨[13, 18, 19, 20, 21, 22, 23], [4], [3], [3], [1, 2]⟩, ⟨[13, 18, 19, 20, 21, 22, 23], [4], [], [], [1, 2, 3]⟩, ⟨[13, 14, 15, 16, 17, 20], [3], [], [], []⟩, ⟨[13, 14, 15, 16, 17, 20], [3], [], [], [5]⟩, ⟨[13, 14, 15, 16, 17, 18, 19], [3], [], [], []⟩, ⟨[13, 14, 15, 16, 17], [3], [4], [4], [5, 6, 7]⟩, ⟨[13, 14, 15, 16, 17], [3], [], [], [5, 6, 7, 8]⟩, ⟨[13, 14, 15, 16, 17], [3], [], [], [5, 6, 7, 8, 9]⟩, ⟨[13], [], [], [], [1, 2, 3, 4, 5, 6, 7, 8, 9, 10]⟩, ⟨[], [], [], [], [0, 1, 2, 3, 4, 5, 6, 7, 8, 9, 10, 11]⟩, ⟨[], [], [], [], [0, 1, 2, 3, 4, 5, 6, 7, 8, 9, 10, 11, 12]⟩] (by kernel_rfl) (by kernel_rfl) ?_
    refine DRQ.v rfl rfl rfl (o_move rfl) ?_
    refine DRQ.v rfl rfl rfl (o_move rfl) ?_
    refine DRQ.v rfl rfl rfl (o_move rfl) ?_
    refine DRQ.x 3 rfl rfl rfl rfl (o_idx L44 rfl (lx rfl) rfl (by first | omega | (simp; omega)) (by first | omega | (simp; omega))) ?_
    refine DRQ.v rfl rfl rfl (o_ldq S3 rfl (lx rfl) intc) ?_
    refine DRQ.v rfl rfl rfl (o_fldp F28_4 rfl) ?_
    refine DRQ.v rfl rfl rfl (o_ldp S26 rfl rfl rfl) ?_
    refine DRQ.v rfl rfl rfl (o_move rfl) ?_
    refine DRQ.x 4 rfl rfl rfl rfl (o_idx L26 rfl (lx rfl) rfl (by first | omega | (simp; omega)) (by first | omega | (simp; omega))) ?_
    refine DRQ.v rfl rfl rfl (o_fldq F78_3 rfl (lx rfl)) ?_
    refine DRQ.v rfl rfl rfl (o_lde S3 rfl (lx rfl) (strI rfl)) ?_
    have h1 := ha i (by omega)
    have h2 := hf i (by omega)
    have h3 := mulb h1.1 h1.2 h2.1 h2.2
    have h4 := hsum i (by omega)
    refine DRQ.v rfl rfl rfl (o_mul rfl rfl (by first | omega | (simp; omega)) (by first | omega | (simp; omega))) ?_
    refine DRQ.v rfl rfl rfl (o_add rfl rfl (by first | omega | (simp; omega)) (by first | omega | (simp; omega))) ?_
    refine DRQ.v rfl rfl rfl (o_assign rfl) ?_
    refine DRQ.nil' ?_
    refine EX.blk ?_
    refine EX.then ?_
    refine WP.region ?_
    refine WPl.v rfl (o_move rfl) ?_
    refine WPl.v rfl (o_add rfl rfl (by first | omega | (simp; omega)) (by first | omega | (simp; omega))) ?_
    refine WPl.v rfl (o_assign rfl) ?_
    refine WPl.nil ?_
    refine EX.again (i + 1) id (by first | omega | (constructor <;> omega)) (by omega) (LeR.of ⟨rfl, rfl, rfl, rfl, rfl, trivial⟩ ⟨(lx rfl), (lx rfl), trivial⟩ ⟨rfl, trivial⟩ rfl rfl rfl rfl rfl)
  · try simp only [decide_eq_true_eq, decide_eq_false_iff_not, Bool.and_eq_true, Bool.or_eq_true, Bool.and_eq_false_iff, Bool.or_eq_false_iff, Bool.not_eq_true', Bool.not_eq_false', ne_eq, Decidable.not_not] at hc1
    refine WP.exit ?_
    refine EX.exit_then ?_
    refine EX.exit_then ?_
    refine EX.exit_blk ?_
    refine EX.then ?_
    refine WP.seq ?_
    refine WP.region ?_
    refine WPl.v rfl (o_move rfl) ?_
    refine WPl.v rfl (o_assign rfl) ?_
    refine WPl.nil ?_
    refine EX.then ?_
    refine WP.ret ?_
    have hi : i = add.length := by omega
    subst hi
    exact EX.fin id (.inl rfl) rfl (.tmp rfl .nil) rfl (by simp [SV.res, El.res, At.res, keys]) trivial (by simp) (by simp)
theorem w22 {f : Fnd} : ∀ x ∈ ([.e (.g [ai (f.shop.pounds), ai (f.shop.tl), ai (f.shop.th), ai (f.shop.al), ai (f.shop.ah), ai (f.shop.room), ai (f.shop.tpl), ai (f.shop.tph), ai (f.shop.apl), ai (f.shop.aph), .q 0, .q 1])] : List SV), x.res (keys (α := Pred) [(0, PL EPig (f.shop.pigs)), (1, PL ENight (f.nights))]) := by simp [SV.res, El.res, At.res, keys]
theorem r22 {f : Fnd} : SV.res (keys (α := Pred) []) (.i (errW f.chk)) := by simp [SV.res, El.res, At.res, keys]
set_option maxHeartbeats 4000000 in
theorem c22 (f : Fnd)  : Sig Try.prog 22 [.e (.g [ai (f.shop.pounds), ai (f.shop.tl), ai (f.shop.th), ai (f.shop.al), ai (f.shop.ah), ai (f.shop.room), ai (f.shop.tpl), ai (f.shop.tph), ai (f.shop.apl), ai (f.shop.aph), .q 0, .q 1])] [(0, PL EPig (f.shop.pigs)), (1, PL ENight (f.nights))] (.i (errW f.chk)) [] := by
  refine Sig.intro Try.func22 rfl 2 [(0, .e (.g [ai (f.shop.pounds), ai (f.shop.tl), ai (f.shop.th), ai (f.shop.al), ai (f.shop.ah), ai (f.shop.room), ai (f.shop.tpl), ai (f.shop.tph), ai (f.shop.apl), ai (f.shop.aph), .q 0, .q 1]))] rfl w22 rfl rfl fun I w => ?_
  refine WP.seq ?_
  refine WP.region ?_
  refine WPl.l 2 3 rfl rfl rfl (o_boxg rfl) ?_
  refine WPl.v rfl (o_assign rfl) ?_
  refine WPl.nil ?_
  refine EX.then ?_
  refine WP.seq ?_
  refine WP.seq ?_
  refine WP.region ?_
  refine WPl.v rfl (o_fldp F31_0 rfl) ?_
  refine WPl.v rfl (o_ldpg G28 rfl rfl rfl) ?_
  refine WPl.cs 3 rfl rfl rfl rfl (o_sig 3 (ren [(0, 0)]) (c71 f.shop) e71 rfl rfl rfl w71 ⟨(lx rfl), trivial⟩ r71) ?_
  refine WPl.v rfl (o_neq rfl rfl) ?_
  refine WPl.v rfl (o_move rfl) ?_
  refine WPl.bit 3 4 (!(decide ((errM f.shop.chk) ≠ 0))) rfl rfl ?_
  refine WPl.gv 3 rfl rfl (.plain rfl (by simp) rfl) (fun hb => o_fldp F31_1 rfl) ?_
  refine WPl.gv 3 rfl rfl (.plain rfl (by simp) rfl) (fun hb => o_ldp S29 rfl rfl rfl) ?_
  refine WPl.gv 3 rfl rfl (.plain rfl (by simp) rfl) (fun hb => o_lenq L29 rfl (lx rfl)) ?_
  refine WPl.gv 3 rfl rfl (.plain rfl (by simp) rfl) (fun hb => o_gtr rfl rfl) ?_
  refine WPl.v rfl (o_or rfl rfl rfl (by first | (simp; done) | simp_all)) ?_
  refine WPl.nil ?_
  refine EX.then ?_
  refine WP.cond rfl (fun hc1 => ?_) (fun hc1 => ?_)
  · try simp only [decide_eq_true_eq, decide_eq_false_iff_not, Bool.and_eq_true, Bool.or_eq_true, Bool.and_eq_false_iff, Bool.or_eq_false_iff, Bool.not_eq_true', Bool.not_eq_false', ne_eq, Decidable.not_not] at hc1
    refine WP.seq ?_
    refine WP.region ?_
    refine WPl.v rfl (o_assign rfl) ?_
    refine WPl.nil ?_
    refine EX.then ?_
    refine WP.ret ?_
    refine EX.ret_then ?_
    rw [show errW f.chk = 130 from by simp [errM_eq] at hc1; simp only [errW, Fnd.chk]; rcases hc1 with h | h; simp [h]; simp [show ¬ ((f.nights.length : Int) ≤ 4) by omega]]
    exact EX.fin id (.inl rfl) rfl (.tmp rfl .nil) rfl (by simp [SV.res, El.res, At.res, keys]) trivial (by simp) (by simp)
  · try simp only [decide_eq_true_eq, decide_eq_false_iff_not, Bool.and_eq_true, Bool.or_eq_true, Bool.and_eq_false_iff, Bool.or_eq_false_iff, Bool.not_eq_true', Bool.not_eq_false', ne_eq, Decidable.not_not] at hc1
    refine WP.skip ?_
    refine EX.then ?_
    refine WP.seq ?_
    refine WP.region ?_
    refine WPl.v rfl (o_assign rfl) ?_
    refine WPl.nil ?_
    refine EX.then ?_
    refine WP.seq ?_
    refine WP.seq ?_
    refine WP.region ?_
    refine WPl.v rfl (o_assign rfl) ?_
    refine WPl.nil ?_
    refine EX.then ?_
    refine WP.block ?_
    refine WP.loop (Gh := Nat) (fun i => ⟨4, [(1, .e (.a (.p 2 (0)))), (2, .i (0)), (3, .i (hiTo f.nights i)), (4, .i ((i : Int)))], [(0, PL EPig (f.shop.pigs)), (1, PL ENight (f.nights))], [(2, .blk [ai (f.shop.pounds), ai (f.shop.tl), ai (f.shop.th), ai (f.shop.al), ai (f.shop.ah), ai (f.shop.room), ai (f.shop.tpl), ai (f.shop.tph), ai (f.shop.apl), ai (f.shop.aph), .q 0, .q 1] 31)], [], []⟩) (fun i => i ≤ f.nights.length ∧ allTo Night.chk f.nights i = true) (fun i => f.nights.length - i) (0) id ?_ (LeR.of ⟨rfl, rfl, rfl, rfl, trivial⟩ ⟨(lx rfl), (lx rfl), trivial⟩ ⟨rfl, trivial⟩ rfl rfl rfl rfl rfl) ?_
    · exact ⟨by omega, rfl⟩
    intro i hφ
    obtain ⟨hi, hall⟩ := hφ; have hb := hiTo_bnd hall; have hok : f.shop.chk = true ∧ (f.nights.length : Int) ≤ 4 := by (simp [errM_eq] at hc1); exact hc1
    refine WP.seq ?_
    refine WP.seq ?_
    refine WP.region ?_
    refine WPl.v rfl (o_move rfl) ?_
    refine WPl.v rfl (o_fldp F31_1 rfl) ?_
    refine WPl.v rfl (o_ldp S29 rfl rfl rfl) ?_
    refine WPl.v rfl (o_lenq L29 rfl (lx rfl)) ?_
    refine WPl.v rfl (o_lss rfl rfl) ?_
    refine WPl.nil ?_
    refine EX.then ?_
    refine WP.cond rfl (fun hc2 => ?_) (fun hc2 => ?_)
    · try simp only [decide_eq_true_eq, decide_eq_false_iff_not, Bool.and_eq_true, Bool.or_eq_true, Bool.and_eq_false_iff, Bool.or_eq_false_iff, Bool.not_eq_true', Bool.not_eq_false', ne_eq, Decidable.not_not] at hc2
      refine WP.skip ?_
      refine EX.then ?_
      refine WP.seq ?_
      refine WP.block ?_
      refine WP.seq ?_
      refine WP.seq ?_
      refine WP.region ?_
      refine WPl.v rfl (o_fldp F31_1 rfl) ?_
      refine WPl.v rfl (o_ldp S29 rfl rfl rfl) ?_
      refine WPl.v rfl (o_move rfl) ?_
      refine WPl.x 4 5 rfl rfl rfl (o_idx L29 rfl (lx rfl) rfl (by first | omega | (simp; omega)) (by first | omega | (simp; omega))) ?_
      refine WPl.v rfl (o_fldq F75_0 rfl (lx rfl)) ?_
      refine WPl.v rfl (o_ldeg G23 rfl (lx rfl) (strG rfl) rfl rfl) ?_
      refine WPl.cs 5 rfl rfl rfl rfl (o_sig 5 id (c85 ((nth f.nights (i : Int)).lo) ((nth f.nights (i : Int)).hi) 9) e85 rfl rfl rfl w85 trivial r85) ?_
      refine WPl.v rfl (o_not rfl) ?_
      refine WPl.v rfl (o_move rfl) ?_
      refine WPl.bit 5 6 (!(!(isSpan ((nth f.nights (i : Int)).lo) ((nth f.nights (i : Int)).hi) 9))) rfl rfl ?_
      refine WPl.gv 5 rfl rfl (.plain rfl (by simp) rfl) (fun hb => o_fldp F31_1 rfl) ?_
      refine WPl.gv 5 rfl rfl (.plain rfl (by simp) rfl) (fun hb => o_ldp S29 rfl rfl rfl) ?_
      refine WPl.gv 5 rfl rfl (.plain rfl (by simp) rfl) (fun hb => o_move rfl) ?_
      refine WPl.gx 5 6 7 rfl rfl rfl rfl (.plain rfl (by simp) rfl) (fun hb => o_idx L29 rfl (lx rfl) rfl (by first | omega | (simp; omega)) (by first | omega | (simp; omega))) ?_
      refine WPl.gv 5 rfl rfl (.plain rfl (by simp) rfl) (fun hb => o_fldq F75_1 rfl (lxi hb rfl)) ?_
      refine WPl.gv 5 rfl rfl (.plain rfl (by simp) rfl) (fun hb => o_lde S3 rfl (lxi hb rfl) (strI rfl)) ?_
      refine WPl.gc0 5 rfl rfl (.plain rfl (by simp) rfl) (fun hb => o_sig 7 id (c86 ((nth f.nights (i : Int)).test) 0 1) e86 rfl rfl rfl w86 trivial r86) ?_
      refine WPl.gv 5 rfl rfl (.plain rfl (by simp) rfl) (fun hb => o_not rfl) ?_
      refine WPl.v rfl (o_or rfl rfl rfl (by first | (simp; done) | simp_all)) ?_
      refine WPl.nil ?_
      refine EX.then ?_
      refine WP.cond rfl (fun hc3 => ?_) (fun hc3 => ?_)
      · try simp only [decide_eq_true_eq, decide_eq_false_iff_not, Bool.and_eq_true, Bool.or_eq_true, Bool.and_eq_false_iff, Bool.or_eq_false_iff, Bool.not_eq_true', Bool.not_eq_false', ne_eq, Decidable.not_not] at hc3
        refine WP.seq ?_
        refine WP.region ?_
        refine WPl.v rfl (o_assign rfl) ?_
        refine WPl.nil ?_
        refine EX.then ?_
        refine WP.ret ?_
        refine EX.ret_then ?_
        refine EX.ret_blk ?_
        refine EX.ret_then ?_
        refine EX.ret_then ?_
        refine EX.ret_blk ?_
        refine EX.ret_then ?_
        have hn : (nth f.nights i).chk = false := by simp [Night.chk]; (try simp at hc3); grind
        rw [show errW f.chk = 130 from by simp [errW, Fnd.chk, not_all (show i < f.nights.length by omega) hn]]
        exact EX.fin id (.inl rfl) rfl (.tmp rfl .nil) rfl (by simp [SV.res, El.res, At.res, keys]) trivial (by simp) (by simp)
      · try simp only [decide_eq_true_eq, decide_eq_false_iff_not, Bool.and_eq_true, Bool.or_eq_true, Bool.and_eq_false_iff, Bool.or_eq_false_iff, Bool.not_eq_true', Bool.not_eq_false', ne_eq, Decidable.not_not] at hc3
        refine WP.skip ?_
        refine EX.then ?_
        refine WP.region ?_
        refine WPl.v rfl (o_move rfl) ?_
        refine WPl.v rfl (o_fldp F31_1 rfl) ?_
        refine WPl.v rfl (o_ldp S29 rfl rfl rfl) ?_
        refine WPl.v rfl (o_move rfl) ?_
        refine WPl.x 7 8 rfl rfl rfl (o_idx L29 rfl (lx rfl) rfl (by first | omega | (simp; omega)) (by first | omega | (simp; omega))) ?_
        refine WPl.v rfl (o_fldq F75_0 rfl (lx rfl)) ?_
        refine WPl.v rfl (o_flde F23_1 rfl (lx rfl)) ?_
        refine WPl.v rfl (o_lde S3 rfl (lx rfl) (strI rfl)) ?_
        have hn : (nth f.nights i).chk = true := by simp [Night.chk]; simpa using hc3
        have hnb := Night.bnds hn
        refine WPl.v rfl (o_add rfl rfl (by first | omega | (simp; omega)) (by first | omega | (simp; omega))) ?_
        refine WPl.v rfl (o_assign rfl) ?_
        refine WPl.nil ?_
        refine EX.blk ?_
        refine EX.then ?_
        refine WP.region ?_
        refine WPl.v rfl (o_move rfl) ?_
        refine WPl.v rfl (o_add rfl rfl (by first | omega | (simp; omega)) (by first | omega | (simp; omega))) ?_
        refine WPl.v rfl (o_assign rfl) ?_
        refine WPl.nil ?_
        have hn : (nth f.nights i).chk = true := by simp [Night.chk]; simpa using hc3
        refine EX.again (i + 1) id (by exact ⟨by omega, by simp [allTo, hall, hn]⟩) (by omega) (LeR.of ⟨rfl, rfl, rfl, rfl, trivial⟩ ⟨(lx rfl), (lx rfl), trivial⟩ ⟨rfl, trivial⟩ rfl rfl rfl rfl rfl)
    · try simp only [decide_eq_true_eq, decide_eq_false_iff_not, Bool.and_eq_true, Bool.or_eq_true, Bool.and_eq_false_iff, Bool.or_eq_false_iff, Bool.not_eq_true', Bool.not_eq_false', ne_eq, Decidable.not_not] at hc2
      refine WP.exit ?_
      refine EX.exit_then ?_
      refine EX.exit_then ?_
      refine EX.exit_blk ?_
      refine EX.then ?_
      refine WP.seq ?_
      refine WP.seq ?_
      refine WP.region ?_
      refine WPl.v rfl (o_move rfl) ?_
      refine WPl.v rfl (o_fldp F31_0 rfl) ?_
      refine WPl.v rfl (o_fldp F28_0 rfl) ?_
      refine WPl.v rfl (o_fldp F25_1 rfl) ?_
      refine WPl.v rfl (o_fldp F23_0 rfl) ?_
      refine WPl.v rfl (o_ldp S3 rfl rfl rfl) ?_
      refine WPl.v rfl (o_gtr rfl rfl) ?_
      refine WPl.nil ?_
      refine EX.then ?_
      refine WP.cond rfl (fun hc4 => ?_) (fun hc4 => ?_)
      · try simp only [decide_eq_true_eq, decide_eq_false_iff_not, Bool.and_eq_true, Bool.or_eq_true, Bool.and_eq_false_iff, Bool.or_eq_false_iff, Bool.not_eq_true', Bool.not_eq_false', ne_eq, Decidable.not_not] at hc4
        refine WP.seq ?_
        refine WP.region ?_
        refine WPl.v rfl (o_assign rfl) ?_
        refine WPl.nil ?_
        refine EX.then ?_
        refine WP.ret ?_
        refine EX.ret_then ?_
        have hi2 : i = f.nights.length := by omega
        subst hi2
        rw [show errW f.chk = 130 from by simp only [errW, Fnd.chk]; simp [show ¬ (hiTo f.nights f.nights.length ≤ f.shop.tl) by omega]]
        exact EX.fin id (.inl rfl) rfl (.tmp rfl .nil) rfl (by simp [SV.res, El.res, At.res, keys]) trivial (by simp) (by simp)
      · try simp only [decide_eq_true_eq, decide_eq_false_iff_not, Bool.and_eq_true, Bool.or_eq_true, Bool.and_eq_false_iff, Bool.or_eq_false_iff, Bool.not_eq_true', Bool.not_eq_false', ne_eq, Decidable.not_not] at hc4
        refine WP.skip ?_
        refine EX.then ?_
        refine WP.seq ?_
        refine WP.region ?_
        refine WPl.v rfl (o_assign rfl) ?_
        refine WPl.nil ?_
        refine EX.then ?_
        refine WP.ret ?_
        have hi2 : i = f.nights.length := by omega
        subst hi2
        rw [allTo_len] at hall
        rw [show errW f.chk = 0 from by simp only [errW, Fnd.chk]; simp [hok, hall, show hiTo f.nights f.nights.length ≤ f.shop.tl by omega]]
        exact EX.fin id (.inl rfl) rfl (.tmp rfl .nil) rfl (by simp [SV.res, El.res, At.res, keys]) trivial (by simp) (by simp)
theorem w66 {s : Shop} {add : List Int} : ∀ x ∈ ([.e (.g [ai (s.pounds), ai (s.tl), ai (s.th), ai (s.al), ai (s.ah), ai (s.room), ai (s.tpl), ai (s.tph), ai (s.apl), ai (s.aph), .q 0]), .e (.a (.q 1))] : List SV), x.res (keys (α := Pred) [(0, PL EPig (s.pigs)), (1, PL EP.int (add))]) := by simp [SV.res, El.res, At.res, keys]
theorem r66 {s : Shop} {add : List Int} : SV.res (keys (α := Pred) []) (.b (isAdd s add)) := by simp [SV.res, El.res, At.res, keys]
set_option maxHeartbeats 4000000 in
theorem c66 (s : Shop) (add : List Int) (hs : PigsOK s.pigs) (hp : -100000 ≤ s.pounds ∧ s.pounds ≤ 100000) : Sig Try.prog 66 [.e (.g [ai (s.pounds), ai (s.tl), ai (s.th), ai (s.al), ai (s.ah), ai (s.room), ai (s.tpl), ai (s.tph), ai (s.apl), ai (s.aph), .q 0]), .e (.a (.q 1))] [(0, PL EPig (s.pigs)), (1, PL EP.int (add))] (.b (isAdd s add)) [] := by
  have hl2 := hs.2
  refine Sig.intro Try.func66 rfl 2 [(0, .e (.g [ai (s.pounds), ai (s.tl), ai (s.th), ai (s.al), ai (s.ah), ai (s.room), ai (s.tpl), ai (s.tph), ai (s.apl), ai (s.aph), .q 0])), (1, .e (.a (.q 1)))] rfl w66 rfl rfl fun I w => ?_
  refine WP.seq ?_
  refine WP.region ?_
  refine WPl.l 2 3 rfl rfl rfl (o_boxg rfl) ?_
  refine WPl.v rfl (o_assign rfl) ?_
  refine WPl.nil ?_
  refine EX.then ?_
  refine WP.seq ?_
  refine WP.seq ?_
  refine WP.region ?_
  refine WPl.v rfl (o_move rfl) ?_
  refine WPl.v rfl (o_lenq L44 rfl (lx rfl)) ?_
  refine WPl.v rfl (o_fldp F28_4 rfl) ?_
  refine WPl.v rfl (o_ldp S26 rfl rfl rfl) ?_
  refine WPl.v rfl (o_lenq L26 rfl (lx rfl)) ?_
  refine WPl.v rfl (o_neq rfl rfl) ?_
  refine WPl.nil ?_
  refine EX.then ?_
  refine WP.cond rfl (fun hc1 => ?_) (fun hc1 => ?_)
  · try simp only [decide_eq_true_eq, decide_eq_false_iff_not, Bool.and_eq_true, Bool.or_eq_true, Bool.and_eq_false_iff, Bool.or_eq_false_iff, Bool.not_eq_true', Bool.not_eq_false', ne_eq, Decidable.not_not] at hc1
    refine WP.seq ?_
    refine WP.region ?_
    refine WPl.v rfl (o_assign rfl) ?_
    refine WPl.nil ?_
    refine EX.then ?_
    refine WP.ret ?_
    refine EX.ret_then ?_
    rw [show isAdd s add = false from by simp [isAdd]; (try simp at hc1); grind]
    exact EX.fin id (.inl rfl) rfl (.tmp rfl .nil) rfl (by simp [SV.res, El.res, At.res, keys]) trivial (by simp) (by simp)
  · try simp only [decide_eq_true_eq, decide_eq_false_iff_not, Bool.and_eq_true, Bool.or_eq_true, Bool.and_eq_false_iff, Bool.or_eq_false_iff, Bool.not_eq_true', Bool.not_eq_false', ne_eq, Decidable.not_not] at hc1
    refine WP.skip ?_
    refine EX.then ?_
    refine WP.seq ?_
    refine WP.seq ?_
    refine WP.region ?_
    refine WPl.v rfl (o_assign rfl) ?_
    refine WPl.nil ?_
    refine EX.then ?_
    refine WP.block ?_
    refine WP.loop (Gh := Nat) (fun i => ⟨3, [(1, .e (.a (.q 1))), (2, .e (.a (.p 2 (0)))), (4, .b (false)), (5, .i ((i : Int)))], [(0, PL EPig (s.pigs)), (1, PL EP.int (add))], [(2, .blk [ai (s.pounds), ai (s.tl), ai (s.th), ai (s.al), ai (s.ah), ai (s.room), ai (s.tpl), ai (s.tph), ai (s.apl), ai (s.aph), .q 0] 28)], [], []⟩) (fun i => i ≤ add.length ∧ allI (fitsMany s.pigs add) i = true) (fun i => add.length - i) (0) id ?_ (LeR.of ⟨rfl, rfl, rfl, rfl, trivial⟩ ⟨(lx rfl), (lx rfl), trivial⟩ ⟨rfl, trivial⟩ rfl rfl rfl rfl rfl) ?_
    · exact ⟨by omega, rfl⟩
    intro i hφ
    obtain ⟨hi, hall⟩ := hφ; have hlen : (add.length : Int) = s.pigs.length := by simpa using hc1
    refine WP.seq ?_
    refine WP.seq ?_
    refine WP.region ?_
    refine WPl.v rfl (o_move rfl) ?_
    refine WPl.v rfl (o_move rfl) ?_
    refine WPl.v rfl (o_lenq L44 rfl (lx rfl)) ?_
    refine WPl.v rfl (o_lss rfl rfl) ?_
    refine WPl.nil ?_
    refine EX.then ?_
    refine WP.cond rfl (fun hc2 => ?_) (fun hc2 => ?_)
    · try simp only [decide_eq_true_eq, decide_eq_false_iff_not, Bool.and_eq_true, Bool.or_eq_true, Bool.and_eq_false_iff, Bool.or_eq_false_iff, Bool.not_eq_true', Bool.not_eq_false', ne_eq, Decidable.not_not] at hc2
      refine WP.skip ?_
      refine EX.then ?_
      refine WP.seq ?_
      refine WP.block ?_
      refine WP.seq ?_
      refine WP.draw (nf := 5) [⟨[19, 22, 23, 24, 25, 26, 27], [4], [], [], []⟩, ⟨[18, 22, 23, 24, 25, 26, 27], [4], [], [], []⟩, ⟨[22, 23, 24, 25, 26, 27], [4], [3], [3], [0, 1]⟩, ⟨[22, 23, 24, 25, 26, 27], [4], [], [], [0, 1, 2]⟩, ⟨[18, 19, 20, 21, 24], [3], [], [], []⟩, ⟨[18, 19, 20, 21, 24], [3], [], [], [4]⟩, ⟨[18, 19, 20, 21, 22, 23], [3], [], [], []⟩, ⟨[18, 19, 20, 21], [3], [4], [4], [4, 5, 6]⟩, ⟨[18, 19, 20, 21], [3], [], [], [4, 5, 6, 7]⟩, ⟨[18, 19, 20, 21], [3], [], [], [4, 5, 6, 7, 8]⟩, ⟨[], [], [], [], [0, 1, 2, 3, 4, 5, 6, 7, 8, 9]⟩, ⟨[], [], [], [], [0, 1, 2, 3, 4, 5, 6, 7, 8, 9, 10]⟩] (by kernel_rfl) (by kernel_rfl) ?_
      refine DRQ.v rfl rfl rfl (o_move rfl) ?_
      refine DRQ.v rfl rfl rfl (o_move rfl) ?_
      refine DRQ.x 3 rfl rfl rfl rfl (o_idx L44 rfl (lx rfl) rfl (by first | omega | (simp; omega)) (by first | omega | (simp; omega))) ?_
      refine DRQ.v rfl rfl rfl (o_ldq S3 rfl (lx rfl) intc) ?_
      refine DRQ.v rfl rfl rfl (o_fldp F28_4 rfl) ?_
      refine DRQ.v rfl rfl rfl (o_ldp S26 rfl rfl rfl) ?_
      refine DRQ.v rfl rfl rfl (o_move rfl) ?_
      refine DRQ.x 4 rfl rfl rfl rfl (o_idx L26 rfl (lx rfl) rfl (by first | omega | (simp; omega)) (by first | omega | (simp; omega))) ?_
      refine DRQ.v rfl rfl rfl (o_fldq F78_4 rfl (lx rfl)) ?_
      refine DRQ.v rfl rfl rfl (o_lde S3 rfl (lx rfl) (strI rfl)) ?_
      refine DRQ.cs rfl rfl rfl rfl (o_sig 5 id (c35 (nth add (i : Int)) 0 ((nth s.pigs (i : Int)).many)) e35 rfl rfl rfl w35 trivial r35) ?_
      refine DRQ.v rfl rfl rfl (o_not rfl) ?_
      refine DRQ.nil' ?_
      refine EX.then ?_
      refine WP.cond rfl (fun hc3 => ?_) (fun hc3 => ?_)
      · try simp only [decide_eq_true_eq, decide_eq_false_iff_not, Bool.and_eq_true, Bool.or_eq_true, Bool.and_eq_false_iff, Bool.or_eq_false_iff, Bool.not_eq_true', Bool.not_eq_false', ne_eq, Decidable.not_not] at hc3
        refine WP.seq ?_
        refine WP.region ?_
        refine WPl.v rfl (o_assign rfl) ?_
        refine WPl.nil ?_
        refine EX.then ?_
        refine WP.ret ?_
        refine EX.ret_blk ?_
        refine EX.ret_then ?_
        refine EX.ret_then ?_
        refine EX.ret_blk ?_
        refine EX.ret_then ?_
        rw [show isAdd s add = false from by simp [isAdd, allI_false (show i < add.length by omega) (show fitsMany s.pigs add i = false by simpa [fitsMany] using hc3)]]
        exact EX.fin id (.inl rfl) rfl (.tmp rfl .nil) rfl (by simp [SV.res, El.res, At.res, keys]) trivial (by simp) (by simp)
      · try simp only [decide_eq_true_eq, decide_eq_false_iff_not, Bool.and_eq_true, Bool.or_eq_true, Bool.and_eq_false_iff, Bool.or_eq_false_iff, Bool.not_eq_true', Bool.not_eq_false', ne_eq, Decidable.not_not] at hc3
        refine WP.skip ?_
        refine EX.blk ?_
        refine EX.then ?_
        refine WP.region ?_
        refine WPl.v rfl (o_move rfl) ?_
        refine WPl.v rfl (o_add rfl rfl (by first | omega | (simp; omega)) (by first | omega | (simp; omega))) ?_
        refine WPl.v rfl (o_assign rfl) ?_
        refine WPl.nil ?_
        refine EX.again (i + 1) id (by exact ⟨by omega, by simp [allI, hall, fitsMany]; simpa using hc3⟩) (by omega) (LeR.of ⟨rfl, rfl, rfl, rfl, trivial⟩ ⟨(lx rfl), (lx rfl), trivial⟩ ⟨rfl, trivial⟩ rfl rfl rfl rfl rfl)
    · try simp only [decide_eq_true_eq, decide_eq_false_iff_not, Bool.and_eq_true, Bool.or_eq_true, Bool.and_eq_false_iff, Bool.or_eq_false_iff, Bool.not_eq_true', Bool.not_eq_false', ne_eq, Decidable.not_not] at hc2
      refine WP.exit ?_
      refine EX.exit_then ?_
      refine EX.exit_then ?_
      refine EX.exit_blk ?_
      refine EX.then ?_
      refine WP.seq ?_
      refine WP.draw (nf := 3) [⟨[33, 34, 35, 37, 38], [], [], [], []⟩, ⟨[33, 34, 35, 37, 38], [], [], [], [0]⟩, ⟨[33, 34, 35, 37, 38], [], [], [], [0, 1]⟩, ⟨[30, 31, 32, 34, 37, 38], [], [], [], []⟩, ⟨[30, 31, 32, 33, 37, 38], [], [], [], []⟩, ⟨[30, 31, 32, 37, 38], [], [], [], [3, 4]⟩, ⟨[37, 38], [], [], [], [0, 1, 2, 3, 4, 5]⟩, ⟨[30, 31, 32, 33, 34, 35, 36], [], [], [], []⟩, ⟨[30, 31, 32, 33, 34, 35, 36], [], [], [], [7]⟩, ⟨[], [], [], [], [0, 1, 2, 3, 4, 5, 6, 7, 8]⟩, ⟨[], [], [], [], [0, 1, 2, 3, 4, 5, 6, 7, 8, 9]⟩] (by kernel_rfl) (by kernel_rfl) ?_
      refine DRQ.v rfl rfl rfl (o_fldp F28_0 rfl) ?_
      refine DRQ.v rfl rfl rfl (o_fldp F25_0 rfl) ?_
      refine DRQ.v rfl rfl rfl (o_ldp S3 rfl rfl rfl) ?_
      refine DRQ.v rfl rfl rfl (o_ldpa G28 rfl rfl rfl) ?_
      refine DRQ.v rfl rfl rfl (o_move rfl) ?_
      have hi : i = add.length := by omega
      subst hi
      have hbn := fits_bnd hs (by omega) hall
      have hsum := sumOf_bnd (f := Pig.pounds) hs (by omega) hbn (fun p h => by have := Pig.bnds h; omega)
      refine DRQ.cs rfl rfl rfl rfl (o_sig 3 (ren [(0, 0), (1, 1)]) (c38 s add hs hbn (by omega)) e38 rfl rfl rfl w38 ⟨(lx rfl), (lx rfl), trivial⟩ r38) ?_
      refine DRQ.v rfl rfl rfl (o_add rfl rfl (by first | omega | (simp; omega)) (by first | omega | (simp; omega))) ?_
      refine DRQ.v rfl rfl rfl (o_fldp F28_1 rfl) ?_
      refine DRQ.v rfl rfl rfl (o_ldp S3 rfl rfl rfl) ?_
      refine DRQ.v rfl rfl rfl (o_leq rfl rfl) ?_
      refine DRQ.v rfl rfl rfl (o_assign rfl) ?_
      refine DRQ.nil' ?_
      refine EX.then ?_
      refine WP.ret ?_
      rw [show isAdd s add = decide (s.pounds + sumOf Pig.pounds s.pigs add ≤ s.room) from by simp [isAdd, hall, hlen]]
      exact EX.fin id (.inl rfl) rfl (.tmp rfl .nil) rfl (by simp [SV.res, El.res, At.res, keys]) trivial (by simp) (by simp)
theorem w27 {a b : List Int} : ∀ x ∈ ([.e (.a (.q 0)), .e (.a (.q 1))] : List SV), x.res (keys (α := Pred) [(0, PL EP.int (a)), (1, PL EP.int (b))]) := by simp [SV.res, El.res, At.res, keys]
theorem r27 {a b : List Int} : SV.res (keys (α := Pred) []) (.b (sameInts a b)) := by simp [SV.res, El.res, At.res, keys]
set_option maxHeartbeats 4000000 in
theorem c27 (a b : List Int) (hl : a.length ≤ 1000000) : Sig Try.prog 27 [.e (.a (.q 0)), .e (.a (.q 1))] [(0, PL EP.int (a)), (1, PL EP.int (b))] (.b (sameInts a b)) [] := by
  refine Sig.intro Try.func27 rfl 2 [(0, .e (.a (.q 0))), (1, .e (.a (.q 1)))] rfl w27 rfl rfl fun I w => ?_
  refine WP.seq ?_
  refine WP.region ?_
  refine WPl.v rfl (o_assign rfl) ?_
  refine WPl.nil ?_
  refine EX.then ?_
  refine WP.seq ?_
  refine WP.seq ?_
  refine WP.region ?_
  refine WPl.v rfl (o_move rfl) ?_
  refine WPl.v rfl (o_lenq L44 rfl (lx rfl)) ?_
  refine WPl.v rfl (o_move rfl) ?_
  refine WPl.v rfl (o_lenq L44 rfl (lx rfl)) ?_
  refine WPl.v rfl (o_neq rfl rfl) ?_
  refine WPl.nil ?_
  refine EX.then ?_
  refine WP.cond rfl (fun hc1 => ?_) (fun hc1 => ?_)
  · try simp only [decide_eq_true_eq, decide_eq_false_iff_not, Bool.and_eq_true, Bool.or_eq_true, Bool.and_eq_false_iff, Bool.or_eq_false_iff, Bool.not_eq_true', Bool.not_eq_false', ne_eq, Decidable.not_not] at hc1
    refine WP.seq ?_
    refine WP.region ?_
    refine WPl.v rfl (o_assign rfl) ?_
    refine WPl.nil ?_
    refine EX.then ?_
    refine WP.ret ?_
    refine EX.ret_then ?_
    rw [show sameInts a b = false from by simp [sameInts]; (try simp at hc1); grind]
    exact EX.fin id (.inl rfl) rfl (.tmp rfl .nil) rfl (by simp [SV.res, El.res, At.res, keys]) trivial (by simp) (by simp)
  · try simp only [decide_eq_true_eq, decide_eq_false_iff_not, Bool.and_eq_true, Bool.or_eq_true, Bool.and_eq_false_iff, Bool.or_eq_false_iff, Bool.not_eq_true', Bool.not_eq_false', ne_eq, Decidable.not_not] at hc1
    refine WP.skip ?_
    refine EX.then ?_
    refine WP.seq ?_
    refine WP.seq ?_
    refine WP.region ?_
    refine WPl.v rfl (o_assign rfl) ?_
    refine WPl.nil ?_
    refine EX.then ?_
    refine WP.block ?_
    refine WP.loop (Gh := Nat) (fun i => ⟨2, [(0, .e (.a (.q 0))), (1, .e (.a (.q 1))), (4, .b (false)), (5, .i ((i : Int)))], [(0, PL EP.int (a)), (1, PL EP.int (b))], [], [], []⟩) (fun i => i ≤ a.length ∧ allI (sameAt a b) i = true) (fun i => a.length - i) (0) id ?_ (LeR.of ⟨rfl, rfl, rfl, rfl, trivial⟩ ⟨(lx rfl), (lx rfl), trivial⟩ trivial rfl rfl rfl rfl rfl) ?_
    · exact ⟨by omega, rfl⟩
    intro i hφ
    obtain ⟨hi, hall⟩ := hφ; have hlen : (a.length : Int) = b.length := by simpa using hc1
    refine WP.seq ?_
    refine WP.seq ?_
    refine WP.region ?_
    refine WPl.v rfl (o_move rfl) ?_
    refine WPl.v rfl (o_move rfl) ?_
    refine WPl.v rfl (o_lenq L44 rfl (lx rfl)) ?_
    refine WPl.v rfl (o_lss rfl rfl) ?_
    refine WPl.nil ?_
    refine EX.then ?_
    refine WP.cond rfl (fun hc2 => ?_) (fun hc2 => ?_)
    · try simp only [decide_eq_true_eq, decide_eq_false_iff_not, Bool.and_eq_true, Bool.or_eq_true, Bool.and_eq_false_iff, Bool.or_eq_false_iff, Bool.not_eq_true', Bool.not_eq_false', ne_eq, Decidable.not_not] at hc2
      refine WP.skip ?_
      refine EX.then ?_
      refine WP.seq ?_
      refine WP.block ?_
      refine WP.seq ?_
      refine WP.draw (nf := 4) [⟨[18, 21, 22, 23, 24], [3], [], [], []⟩, ⟨[17, 21, 22, 23, 24], [3], [], [], []⟩, ⟨[21, 22, 23, 24], [3], [2], [2], [0, 1]⟩, ⟨[21, 22, 23, 24], [3], [], [], [0, 1, 2]⟩, ⟨[17, 18, 19, 20, 22], [2], [], [], []⟩, ⟨[17, 18, 19, 20, 21], [2], [], [], []⟩, ⟨[17, 18, 19, 20], [2], [3], [3], [4, 5]⟩, ⟨[17, 18, 19, 20], [2], [], [], [4, 5, 6]⟩, ⟨[], [], [], [], [0, 1, 2, 3, 4, 5, 6, 7]⟩] (by kernel_rfl) (by kernel_rfl) ?_
      refine DRQ.v rfl rfl rfl (o_move rfl) ?_
      refine DRQ.v rfl rfl rfl (o_move rfl) ?_
      refine DRQ.x 2 rfl rfl rfl rfl (o_idx L44 rfl (lx rfl) rfl (by first | omega | (simp; omega)) (by first | omega | (simp; omega))) ?_
      refine DRQ.v rfl rfl rfl (o_ldq S3 rfl (lx rfl) intc) ?_
      refine DRQ.v rfl rfl rfl (o_move rfl) ?_
      refine DRQ.v rfl rfl rfl (o_move rfl) ?_
      refine DRQ.x 3 rfl rfl rfl rfl (o_idx L44 rfl (lx rfl) rfl (by first | omega | (simp; omega)) (by first | omega | (simp; omega))) ?_
      refine DRQ.v rfl rfl rfl (o_ldq S3 rfl (lx rfl) intc) ?_
      refine DRQ.v rfl rfl rfl (o_neq rfl rfl) ?_
      refine DRQ.nil' ?_
      refine EX.then ?_
      refine WP.cond rfl (fun hc3 => ?_) (fun hc3 => ?_)
      · try simp only [decide_eq_true_eq, decide_eq_false_iff_not, Bool.and_eq_true, Bool.or_eq_true, Bool.and_eq_false_iff, Bool.or_eq_false_iff, Bool.not_eq_true', Bool.not_eq_false', ne_eq, Decidable.not_not] at hc3
        refine WP.seq ?_
        refine WP.region ?_
        refine WPl.v rfl (o_assign rfl) ?_
        refine WPl.nil ?_
        refine EX.then ?_
        refine WP.ret ?_
        refine EX.ret_blk ?_
        refine EX.ret_then ?_
        refine EX.ret_then ?_
        refine EX.ret_blk ?_
        refine EX.ret_then ?_
        rw [show sameInts a b = false from by simp [sameInts, allI_false (show i < a.length by omega) (show sameAt a b i = false by simpa [sameAt] using hc3)]]
        exact EX.fin id (.inl rfl) rfl (.tmp rfl .nil) rfl (by simp [SV.res, El.res, At.res, keys]) trivial (by simp) (by simp)
      · try simp only [decide_eq_true_eq, decide_eq_false_iff_not, Bool.and_eq_true, Bool.or_eq_true, Bool.and_eq_false_iff, Bool.or_eq_false_iff, Bool.not_eq_true', Bool.not_eq_false', ne_eq, Decidable.not_not] at hc3
        refine WP.skip ?_
        refine EX.blk ?_
        refine EX.then ?_
        refine WP.region ?_
        refine WPl.v rfl (o_move rfl) ?_
        refine WPl.v rfl (o_add rfl rfl (by first | omega | (simp; omega)) (by first | omega | (simp; omega))) ?_
        refine WPl.v rfl (o_assign rfl) ?_
        refine WPl.nil ?_
        refine EX.again (i + 1) id (by exact ⟨by omega, by simp [allI, hall, sameAt]; simpa using hc3⟩) (by omega) (LeR.of ⟨rfl, rfl, rfl, rfl, trivial⟩ ⟨(lx rfl), (lx rfl), trivial⟩ trivial rfl rfl rfl rfl rfl)
    · try simp only [decide_eq_true_eq, decide_eq_false_iff_not, Bool.and_eq_true, Bool.or_eq_true, Bool.and_eq_false_iff, Bool.or_eq_false_iff, Bool.not_eq_true', Bool.not_eq_false', ne_eq, Decidable.not_not] at hc2
      refine WP.exit ?_
      refine EX.exit_then ?_
      refine EX.exit_then ?_
      refine EX.exit_blk ?_
      refine EX.then ?_
      refine WP.seq ?_
      refine WP.region ?_
      refine WPl.v rfl (o_assign rfl) ?_
      refine WPl.nil ?_
      refine EX.then ?_
      refine WP.ret ?_
      have hi2 : i = a.length := by omega
      subst hi2
      rw [show sameInts a b = true from by simp [sameInts, hall, hlen]]
      exact EX.fin id (.inl rfl) rfl (.tmp rfl .nil) rfl (by simp [SV.res, El.res, At.res, keys]) trivial (by simp) (by simp)
theorem w82 {f : Fnd} {plan : List (List Int)} {k : Int} : ∀ x ∈ ([.e (.g [ai (f.shop.pounds), ai (f.shop.tl), ai (f.shop.th), ai (f.shop.al), ai (f.shop.ah), ai (f.shop.room), ai (f.shop.tpl), ai (f.shop.tph), ai (f.shop.apl), ai (f.shop.aph), .q 0, .q 1]), .e (.a (.q 2)), .i (k)] : List SV), x.res (keys (α := Pred) [(0, PL EPig (f.shop.pigs)), (1, PL ENight (f.nights)), (2, PL (EP.sl EP.int) (plan))]) := by simp [SV.res, El.res, At.res, keys]
theorem r82 {f : Fnd} {plan : List (List Int)} {k : Int} : SV.res (keys (α := Pred) [(0, PL EP.int (upTo f.shop.pigs.length plan (k + 1).toNat))]) (.e (.a (.q 0))) := by simp [SV.res, El.res, At.res, keys]
set_option maxHeartbeats 4000000 in
theorem c82 (f : Fnd) (plan : List (List Int)) (k : Int) (hs : f.shop.pigs.length ≤ 4) (hk : -1 ≤ k ∧ k < plan.length) (hpl : plan.length ≤ 40) (hp : ∀ i : Nat, i < plan.length → (nth plan i).length = f.shop.pigs.length ∧ bnd (nth plan i) 1000) : Sig Try.prog 82 [.e (.g [ai (f.shop.pounds), ai (f.shop.tl), ai (f.shop.th), ai (f.shop.al), ai (f.shop.ah), ai (f.shop.room), ai (f.shop.tpl), ai (f.shop.tph), ai (f.shop.apl), ai (f.shop.aph), .q 0, .q 1]), .e (.a (.q 2)), .i (k)] [(0, PL EPig (f.shop.pigs)), (1, PL ENight (f.nights)), (2, PL (EP.sl EP.int) (plan))] (.e (.a (.q 0))) [(0, PL EP.int (upTo f.shop.pigs.length plan (k + 1).toNat))] := by
  have hub := upTo_bnd (by omega) hp
  have hul := upTo_len f.shop.pigs.length plan
  refine Sig.intro Try.func82 rfl 3 [(0, .e (.g [ai (f.shop.pounds), ai (f.shop.tl), ai (f.shop.th), ai (f.shop.al), ai (f.shop.ah), ai (f.shop.room), ai (f.shop.tpl), ai (f.shop.tph), ai (f.shop.apl), ai (f.shop.aph), .q 0, .q 1])), (1, .e (.a (.q 2))), (2, .i (k))] rfl w82 rfl rfl fun I w => ?_
  refine WP.seq ?_
  refine WP.region ?_
  refine WPl.l 3 4 rfl rfl rfl (o_boxg rfl) ?_
  refine WPl.v rfl (o_assign rfl) ?_
  refine WPl.nil ?_
  refine EX.then ?_
  refine WP.seq ?_
  refine WP.region ?_
  refine WPl.v rfl (o_ldpa G31 rfl rfl rfl) ?_
  refine WPl.cs 5 rfl rfl rfl rfl (o_sig 4 (ren [(0, 0), (1, 1)]) (c97 f (by omega)) e97 rfl rfl rfl w97 ⟨(lx rfl), (lx rfl), trivial⟩ r97) ?_
  refine WPl.v rfl (o_assign rfl) ?_
  refine WPl.nil ?_
  refine EX.then ?_
  refine WP.seq ?_
  refine WP.seq ?_
  refine WP.region ?_
  refine WPl.v rfl (o_assign rfl) ?_
  refine WPl.nil ?_
  refine EX.then ?_
  refine WP.block ?_
  refine WP.loop (Gh := Nat) (fun i => ⟨5, [(1, .e (.a (.q 2))), (2, .i (k)), (6, .e (.a (.v (.slice none 0 0)))), (7, .e (.a (.q 4))), (8, .i ((i : Int)))], [(2, PL (EP.sl EP.int) (plan)), (4, PL EP.int (upTo f.shop.pigs.length plan i))], [], [], []⟩) (fun i => i ≤ (k + 1).toNat) (fun i => (k + 1).toNat - i) (0) id ?_ (LeR.of ⟨rfl, rfl, rfl, rfl, rfl, trivial⟩ ⟨(lx rfl), (lx rfl), trivial⟩ trivial rfl rfl rfl rfl rfl) ?_
  · first | trivial | omega | (constructor <;> omega) | simp
  intro i hφ
  try simp only [] at hφ
  refine WP.seq ?_
  refine WP.seq ?_
  refine WP.region ?_
  refine WPl.v rfl (o_move rfl) ?_
  refine WPl.v rfl (o_move rfl) ?_
  refine WPl.v rfl (o_leq rfl rfl) ?_
  refine WPl.nil ?_
  refine EX.then ?_
  refine WP.cond rfl (fun hc1 => ?_) (fun hc1 => ?_)
  · try simp only [decide_eq_true_eq, decide_eq_false_iff_not, Bool.and_eq_true, Bool.or_eq_true, Bool.and_eq_false_iff, Bool.or_eq_false_iff, Bool.not_eq_true', Bool.not_eq_false', ne_eq, Decidable.not_not] at hc1
    refine WP.skip ?_
    refine EX.then ?_
    refine WP.seq ?_
    refine WP.block ?_
    refine WP.region ?_
    refine WPl.v rfl (o_move rfl) ?_
    refine WPl.v rfl (o_move rfl) ?_
    refine WPl.v rfl (o_move rfl) ?_
    refine WPl.x 5 6 rfl rfl rfl (o_idx L32 rfl (lx rfl) rfl (by first | omega | (simp; omega)) (by first | omega | (simp; omega))) ?_
    refine WPl.x 6 7 rfl rfl rfl (o_ldqx S44 rfl (lx rfl) slx) ?_
    refine WPl.cs 8 rfl rfl rfl rfl (o_sig 7 (ren [(0, 4), (1, 6)]) (c131 (upTo f.shop.pigs.length plan i) (nth plan (i : Int)) (by rw [hul]; omega) (by rw [hul, (hp i (by omega)).1]) (fun j hj => by have := hub i (by omega) j hj; omega) (fun j hj => by have := (hp i (by omega)).2 j hj; omega)) e131 rfl rfl rfl w131 ⟨(lx rfl), (lx rfl), trivial⟩ r131) ?_
    refine WPl.v rfl (o_assign rfl) ?_
    refine WPl.nil ?_
    refine EX.blk ?_
    refine EX.then ?_
    refine WP.region ?_
    refine WPl.v rfl (o_move rfl) ?_
    refine WPl.v rfl (o_add rfl rfl (by first | omega | (simp; omega)) (by first | omega | (simp; omega))) ?_
    refine WPl.v rfl (o_assign rfl) ?_
    refine WPl.nil ?_
    refine EX.again (i + 1) (ren [(4, 7)]) (by first | omega | (constructor <;> omega)) (by omega) (LeR.of ⟨rfl, rfl, rfl, rfl, rfl, trivial⟩ ⟨(lx rfl), (lx rfl), trivial⟩ trivial rfl rfl rfl rfl rfl)
  · try simp only [decide_eq_true_eq, decide_eq_false_iff_not, Bool.and_eq_true, Bool.or_eq_true, Bool.and_eq_false_iff, Bool.or_eq_false_iff, Bool.not_eq_true', Bool.not_eq_false', ne_eq, Decidable.not_not] at hc1
    refine WP.exit ?_
    refine EX.exit_then ?_
    refine EX.exit_then ?_
    refine EX.exit_blk ?_
    refine EX.then ?_
    refine WP.seq ?_
    refine WP.region ?_
    refine WPl.v rfl (o_move rfl) ?_
    refine WPl.v rfl (o_assign rfl) ?_
    refine WPl.nil ?_
    refine EX.then ?_
    refine WP.ret ?_
    have hi2 : i = (k + 1).toNat := by omega
    subst hi2
    exact EX.fin (ren [(0, 4)]) (.inl rfl) rfl (.tmp rfl .nil) rfl (by simp [SV.res, El.res, At.res, keys]) ⟨(lx rfl), trivial⟩ (by simp) (by simp)
theorem w70 {s : Shop} : ∀ x ∈ ([.e (.g [ai (s.pounds), ai (s.tl), ai (s.th), ai (s.al), ai (s.ah), ai (s.room), ai (s.tpl), ai (s.tph), ai (s.apl), ai (s.aph), .q 0])] : List SV), x.res (keys (α := Pred) [(0, PL EPig (s.pigs))]) := by simp [SV.res, El.res, At.res, keys]
theorem r70 {s : Shop} : SV.res (keys (α := Pred) [(0, PL EPig (s.pigs))]) (.e (.g [ai (s.pounds), ai (s.tl), ai (s.th), ai (s.al), ai (s.ah), ai (s.room), ai (s.tpl), ai (s.tph), ai (s.apl), ai (s.aph), .q 0])) := by simp [SV.res, El.res, At.res, keys]
set_option maxHeartbeats 4000000 in
theorem c70 (s : Shop) (hl : s.pigs.length ≤ 40) : Sig Try.prog 70 [.e (.g [ai (s.pounds), ai (s.tl), ai (s.th), ai (s.al), ai (s.ah), ai (s.room), ai (s.tpl), ai (s.tph), ai (s.apl), ai (s.aph), .q 0])] [(0, PL EPig (s.pigs))] (.e (.g [ai (s.pounds), ai (s.tl), ai (s.th), ai (s.al), ai (s.ah), ai (s.room), ai (s.tpl), ai (s.tph), ai (s.apl), ai (s.aph), .q 0])) [(0, PL EPig (s.pigs))] := by
  refine Sig.intro Try.func70 rfl 1 [(0, .e (.g [ai (s.pounds), ai (s.tl), ai (s.th), ai (s.al), ai (s.ah), ai (s.room), ai (s.tpl), ai (s.tph), ai (s.apl), ai (s.aph), .q 0]))] rfl w70 rfl rfl fun I w => ?_
  refine WP.seq ?_
  refine WP.region ?_
  refine WPl.l 1 2 rfl rfl rfl (o_boxg rfl) ?_
  refine WPl.l 2 3 rfl rfl rfl (o_alloc Z28) ?_
  refine WPl.nil ?_
  refine EX.then ?_
  refine WP.seq ?_
  refine WP.region ?_
  refine WPl.v rfl (o_ldpa G28 rfl rfl rfl) ?_
  refine WPl.l 3 4 rfl rfl rfl (o_alloc Z28) ?_
  refine WPl.s1 (o_stag G28 rfl rfl rfl ⟨rfl, rfl, rfl, rfl, rfl, rfl, rfl, rfl, rfl, rfl, (.inl ⟨_, (lx rfl), PL.one⟩), trivial⟩ rfl rfl) ?_
  refine WPl.nil ?_
  refine EX.then ?_
  refine WP.seq ?_
  refine WP.region ?_
  refine WPl.l 4 5 rfl rfl rfl (o_bsl (E := EPig) (l := []) R26 rfl rfl (.nil) rfl rfl) ?_
  refine WPl.v rfl (o_fldp F28_4 rfl) ?_
  refine WPl.v rfl (o_ldp S26 rfl rfl rfl) ?_
  refine WPl.u1 (k := 5) (m := 6) rfl rfl rfl (o_apps R26 EP.str_one rfl rfl rfl (lx rfl) (by simp; omega) (by simp; omega)) ?_
  refine WPl.v rfl (o_fldp F28_4 rfl) ?_
  refine WPl.s1 (o_sta S26 rfl rfl rfl (.inr ⟨_, _, _, _, rfl⟩) rfl) ?_
  refine WPl.nil ?_
  refine EX.then ?_
  refine WP.seq ?_
  refine WP.region ?_
  refine WPl.v rfl (o_ldpa G28 rfl rfl rfl) ?_
  refine WPl.s1 (o_stag G28 rfl rfl rfl ⟨rfl, rfl, rfl, rfl, rfl, rfl, rfl, rfl, rfl, rfl, (.inr ⟨_, _, _, _, rfl⟩), trivial⟩ rfl rfl) ?_
  refine WPl.nil ?_
  refine EX.then ?_
  refine WP.ret ?_
  refine EX.imp (Imp.frz (E := EPig) (l := [] ++ s.pigs) 5 rfl rfl) ?_
  exact EX.fin (ren [(0, 5)]) (.inl rfl) rfl (.cellg G28 rfl rfl rfl (.nil)) rfl r70 ⟨(lx rfl), trivial⟩ (by simp) (by simp)
theorem w17 {f : Fnd} : ∀ x ∈ ([.e (.g [ai (f.shop.pounds), ai (f.shop.tl), ai (f.shop.th), ai (f.shop.al), ai (f.shop.ah), ai (f.shop.room), ai (f.shop.tpl), ai (f.shop.tph), ai (f.shop.apl), ai (f.shop.aph), .q 0, .q 1])] : List SV), x.res (keys (α := Pred) [(0, PL EPig (f.shop.pigs)), (1, PL ENight (f.nights))]) := by simp [SV.res, El.res, At.res, keys]
theorem r17 {f : Fnd} : SV.res (keys (α := Pred) [(0, PL EPig (f.shop.pigs)), (1, PL ENight (f.nights))]) (.e (.g [ai (f.shop.pounds), ai (f.shop.tl), ai (f.shop.th), ai (f.shop.al), ai (f.shop.ah), ai (f.shop.room), ai (f.shop.tpl), ai (f.shop.tph), ai (f.shop.apl), ai (f.shop.aph), .q 0, .q 1])) := by simp [SV.res, El.res, At.res, keys]
set_option maxHeartbeats 4000000 in
theorem c17 (f : Fnd) (hl : f.shop.pigs.length ≤ 40) (hn : f.nights.length ≤ 40) : Sig Try.prog 17 [.e (.g [ai (f.shop.pounds), ai (f.shop.tl), ai (f.shop.th), ai (f.shop.al), ai (f.shop.ah), ai (f.shop.room), ai (f.shop.tpl), ai (f.shop.tph), ai (f.shop.apl), ai (f.shop.aph), .q 0, .q 1])] [(0, PL EPig (f.shop.pigs)), (1, PL ENight (f.nights))] (.e (.g [ai (f.shop.pounds), ai (f.shop.tl), ai (f.shop.th), ai (f.shop.al), ai (f.shop.ah), ai (f.shop.room), ai (f.shop.tpl), ai (f.shop.tph), ai (f.shop.apl), ai (f.shop.aph), .q 0, .q 1])) [(0, PL EPig (f.shop.pigs)), (1, PL ENight (f.nights))] := by
  refine Sig.intro Try.func17 rfl 2 [(0, .e (.g [ai (f.shop.pounds), ai (f.shop.tl), ai (f.shop.th), ai (f.shop.al), ai (f.shop.ah), ai (f.shop.room), ai (f.shop.tpl), ai (f.shop.tph), ai (f.shop.apl), ai (f.shop.aph), .q 0, .q 1]))] rfl w17 rfl rfl fun I w => ?_
  refine WP.seq ?_
  refine WP.region ?_
  refine WPl.l 2 3 rfl rfl rfl (o_boxg rfl) ?_
  refine WPl.l 3 4 rfl rfl rfl (o_alloc Z31) ?_
  refine WPl.nil ?_
  refine EX.then ?_
  refine WP.seq ?_
  refine WP.draw (nf := 7) [⟨[6, 7, 8], [5], [], [], []⟩, ⟨[6, 7, 8], [5], [], [], [0]⟩, ⟨[6, 7, 8], [5], [4], [4], [0, 1]⟩, ⟨[3, 4, 5, 7, 8], [4], [5], [5], []⟩, ⟨[3, 4, 5, 6], [4, 5], [], [], []⟩, ⟨[3, 4, 5, 6], [4, 5], [], [], [4]⟩, ⟨[], [], [6], [6, 5], [0, 1, 2, 3, 4, 5]⟩, ⟨[], [], [], [], [0, 1, 2, 3, 4, 5, 6]⟩, ⟨[], [], [], [3], [0, 1, 2, 3, 4, 5, 6, 7]⟩] (by kernel_rfl) (by kernel_rfl) ?_
  refine DRQ.v rfl rfl rfl (o_fldp F31_0 rfl) ?_
  refine DRQ.v rfl rfl rfl (o_ldpg G28 rfl rfl rfl) ?_
  refine DRQ.cs rfl rfl rfl rfl (o_sig 4 (ren [(0, 0)]) (c70 f.shop (by omega)) e70 rfl rfl rfl w70 ⟨(lx rfl), trivial⟩ r70) ?_
  refine DRQ.l 5 rfl rfl rfl rfl (o_bsl (E := ENight) (l := []) R29 rfl rfl (.nil) rfl rfl) ?_
  refine DRQ.v rfl rfl rfl (o_fldp F31_1 rfl) ?_
  refine DRQ.v rfl rfl rfl (o_ldp S29 rfl rfl rfl) ?_
  refine DRQ.l2 6 5 rfl rfl rfl rfl (o_apps R29 EP.str_one rfl rfl rfl (lx rfl) (by simp; omega) (by simp; omega)) ?_
  refine DRQ.v rfl rfl rfl (o_build B31 rfl ⟨(.inr ⟨_, _, _, _, rfl⟩), trivial⟩ rfl rfl) ?_
  refine DRQ.s 3 rfl rfl rfl (o_stag G31 rfl rfl rfl ⟨rfl, rfl, rfl, rfl, rfl, rfl, rfl, rfl, rfl, rfl, (.inl ⟨_, (lx rfl), PL.one⟩), (.inr ⟨_, _, _, _, rfl⟩), trivial⟩ rfl rfl) ?_
  refine DRQ.nil' ?_
  refine EX.then ?_
  refine WP.ret ?_
  refine EX.imp (Imp.frz (E := ENight) (l := [] ++ f.nights) 6 rfl rfl) ?_
  exact EX.fin (ren [(0, 4), (1, 6)]) (.inl rfl) rfl (.cellg G31 rfl rfl rfl (.nil)) rfl r17 ⟨(lx rfl), (lx rfl), trivial⟩ (by simp) (by simp)
theorem w139 {f : Fnd} {d : Int} : ∀ x ∈ ([.e (.g [ai (f.shop.pounds), ai (f.shop.tl), ai (f.shop.th), ai (f.shop.al), ai (f.shop.ah), ai (f.shop.room), ai (f.shop.tpl), ai (f.shop.tph), ai (f.shop.apl), ai (f.shop.aph), .q 0, .q 1]), .i (d)] : List SV), x.res (keys (α := Pred) [(0, PL EPig (f.shop.pigs)), (1, PL ENight (f.nights))]) := by simp [SV.res, El.res, At.res, keys]
theorem r139 {f : Fnd} {d : Int} : SV.res (keys (α := Pred) [(0, PL EPig ((f.less d).pigs))]) (.e (.g [ai ((f.less d).pounds), ai ((f.less d).tl), ai ((f.less d).th), ai ((f.less d).al), ai ((f.less d).ah), ai ((f.less d).room), ai ((f.less d).tpl), ai ((f.less d).tph), ai ((f.less d).apl), ai ((f.less d).aph), .q 0])) := by simp [SV.res, El.res, At.res, keys]
set_option maxHeartbeats 4000000 in
theorem c139 (f : Fnd) (d : Int) (hl : f.shop.pigs.length ≤ 40) (hb : 0 ≤ d ∧ d ≤ 1000) (hp : 0 ≤ f.shop.pounds ∧ f.shop.pounds ≤ 400 ∧ 0 ≤ f.shop.tl ∧ f.shop.tl ≤ 400 ∧ 0 ≤ f.shop.th ∧ f.shop.th ≤ 400) : Sig Try.prog 139 [.e (.g [ai (f.shop.pounds), ai (f.shop.tl), ai (f.shop.th), ai (f.shop.al), ai (f.shop.ah), ai (f.shop.room), ai (f.shop.tpl), ai (f.shop.tph), ai (f.shop.apl), ai (f.shop.aph), .q 0, .q 1]), .i (d)] [(0, PL EPig (f.shop.pigs)), (1, PL ENight (f.nights))] (.e (.g [ai ((f.less d).pounds), ai ((f.less d).tl), ai ((f.less d).th), ai ((f.less d).al), ai ((f.less d).ah), ai ((f.less d).room), ai ((f.less d).tpl), ai ((f.less d).tph), ai ((f.less d).apl), ai ((f.less d).aph), .q 0])) [(0, PL EPig ((f.less d).pigs))] := by
  refine Sig.intro Try.func139 rfl 2 [(0, .e (.g [ai (f.shop.pounds), ai (f.shop.tl), ai (f.shop.th), ai (f.shop.al), ai (f.shop.ah), ai (f.shop.room), ai (f.shop.tpl), ai (f.shop.tph), ai (f.shop.apl), ai (f.shop.aph), .q 0, .q 1])), (1, .i (d))] rfl w139 rfl rfl fun I w => ?_
  refine WP.seq ?_
  refine WP.region ?_
  refine WPl.l 2 3 rfl rfl rfl (o_boxg rfl) ?_
  refine WPl.l 3 4 rfl rfl rfl (o_alloc Z28) ?_
  refine WPl.nil ?_
  refine EX.then ?_
  refine WP.seq ?_
  refine WP.region ?_
  refine WPl.v rfl (o_fldp F31_0 rfl) ?_
  refine WPl.v rfl (o_ldpg G28 rfl rfl rfl) ?_
  refine WPl.cs 5 rfl rfl rfl rfl (o_sig 4 (ren [(0, 0)]) (c70 f.shop (by omega)) e70 rfl rfl rfl w70 ⟨(lx rfl), trivial⟩ r70) ?_
  refine WPl.l 5 6 rfl rfl rfl (o_alloc Z28) ?_
  refine WPl.s1 (o_stag G28 rfl rfl rfl ⟨rfl, rfl, rfl, rfl, rfl, rfl, rfl, rfl, rfl, rfl, (.inl ⟨_, (lx rfl), PL.one⟩), trivial⟩ rfl rfl) ?_
  refine WPl.nil ?_
  refine EX.then ?_
  refine WP.seq ?_
  refine WP.region ?_
  refine WPl.v rfl (o_fldp F28_0 rfl) ?_
  refine WPl.v rfl (o_fldp F25_0 rfl) ?_
  refine WPl.v rfl (o_ldp S3 rfl rfl rfl) ?_
  refine WPl.v rfl (o_move rfl) ?_
  refine WPl.v rfl (o_sub rfl rfl (by first | omega | (simp; omega)) (by first | omega | (simp; omega))) ?_
  refine WPl.v rfl (o_fldp F28_0 rfl) ?_
  refine WPl.v rfl (o_fldp F25_0 rfl) ?_
  refine WPl.s1 (o_sta S3 rfl rfl rfl rfl rfl) ?_
  refine WPl.nil ?_
  refine EX.then ?_
  refine WP.seq ?_
  refine WP.region ?_
  refine WPl.v rfl (o_fldp F28_0 rfl) ?_
  refine WPl.v rfl (o_fldp F25_1 rfl) ?_
  refine WPl.v rfl (o_fldp F23_0 rfl) ?_
  refine WPl.v rfl (o_ldp S3 rfl rfl rfl) ?_
  refine WPl.v rfl (o_move rfl) ?_
  refine WPl.v rfl (o_sub rfl rfl (by first | omega | (simp; omega)) (by first | omega | (simp; omega))) ?_
  refine WPl.v rfl (o_fldp F28_0 rfl) ?_
  refine WPl.v rfl (o_fldp F25_1 rfl) ?_
  refine WPl.v rfl (o_fldp F23_1 rfl) ?_
  refine WPl.v rfl (o_ldp S3 rfl rfl rfl) ?_
  refine WPl.v rfl (o_move rfl) ?_
  refine WPl.v rfl (o_sub rfl rfl (by first | omega | (simp; omega)) (by first | omega | (simp; omega))) ?_
  refine WPl.v rfl (o_build B23 rfl ⟨rfl, rfl, trivial⟩ rfl rfl) ?_
  refine WPl.v rfl (o_fldp F28_0 rfl) ?_
  refine WPl.v rfl (o_fldp F25_1 rfl) ?_
  refine WPl.s1 (o_stag G23 rfl rfl rfl ⟨rfl, rfl, trivial⟩ rfl rfl) ?_
  refine WPl.nil ?_
  refine EX.then ?_
  refine WP.seq ?_
  refine WP.region ?_
  refine WPl.v rfl (o_ldpa G28 rfl rfl rfl) ?_
  refine WPl.s1 (o_stag G28 rfl rfl rfl ⟨rfl, rfl, rfl, rfl, rfl, rfl, rfl, rfl, rfl, rfl, (.inl ⟨_, (lx rfl), PL.one⟩), trivial⟩ rfl rfl) ?_
  refine WPl.nil ?_
  refine EX.then ?_
  refine WP.ret ?_
  exact EX.fin (ren [(0, 4)]) (.inl rfl) rfl (.cellg G28 rfl rfl rfl (.nil)) rfl r139 ⟨(lx rfl), trivial⟩ (by simp) (by simp)
theorem w83 {f : Fnd} {k : Int} : ∀ x ∈ ([.e (.g [ai (f.shop.pounds), ai (f.shop.tl), ai (f.shop.th), ai (f.shop.al), ai (f.shop.ah), ai (f.shop.room), ai (f.shop.tpl), ai (f.shop.tph), ai (f.shop.apl), ai (f.shop.aph), .q 0, .q 1]), .i (k)] : List SV), x.res (keys (α := Pred) [(0, PL EPig (f.shop.pigs)), (1, PL ENight (f.nights))]) := by simp [SV.res, El.res, At.res, keys]
theorem r83 {f : Fnd} {k : Int} : SV.res (keys (α := Pred) []) (.e (.g [ai (loTo f.nights k.toNat), ai (hiTo f.nights k.toNat)])) := by simp [SV.res, El.res, At.res, keys]
set_option maxHeartbeats 4000000 in
theorem c83 (f : Fnd) (k : Int) (hn : NightsOK f.nights) (hk : 0 ≤ k ∧ k ≤ f.nights.length) : Sig Try.prog 83 [.e (.g [ai (f.shop.pounds), ai (f.shop.tl), ai (f.shop.th), ai (f.shop.al), ai (f.shop.ah), ai (f.shop.room), ai (f.shop.tpl), ai (f.shop.tph), ai (f.shop.apl), ai (f.shop.aph), .q 0, .q 1]), .i (k)] [(0, PL EPig (f.shop.pigs)), (1, PL ENight (f.nights))] (.e (.g [ai (loTo f.nights k.toNat), ai (hiTo f.nights k.toNat)])) [] := by
  have hg := lohi_bnd hn
  have hn4 := hn.2
  refine Sig.intro Try.func83 rfl 2 [(0, .e (.g [ai (f.shop.pounds), ai (f.shop.tl), ai (f.shop.th), ai (f.shop.al), ai (f.shop.ah), ai (f.shop.room), ai (f.shop.tpl), ai (f.shop.tph), ai (f.shop.apl), ai (f.shop.aph), .q 0, .q 1])), (1, .i (k))] rfl w83 rfl rfl fun I w => ?_
  refine WP.seq ?_
  refine WP.region ?_
  refine WPl.l 2 3 rfl rfl rfl (o_boxg rfl) ?_
  refine WPl.l 3 4 rfl rfl rfl (o_alloc Z23) ?_
  refine WPl.nil ?_
  refine EX.then ?_
  refine WP.seq ?_
  refine WP.region ?_
  refine WPl.l 4 5 rfl rfl rfl (o_alloc Z23) ?_
  refine WPl.nil ?_
  refine EX.then ?_
  refine WP.seq ?_
  refine WP.seq ?_
  refine WP.region ?_
  refine WPl.v rfl (o_assign rfl) ?_
  refine WPl.nil ?_
  refine EX.then ?_
  refine WP.block ?_
  refine WP.loop (Gh := Nat) (fun i => ⟨5, [(1, .i (k)), (2, .e (.a (.p 2 (0)))), (4, .e (.a (.p 3 (0)))), (5, .e (.a (.p 4 (0)))), (6, .i ((i : Int)))], [(0, PL EPig (f.shop.pigs)), (1, PL ENight (f.nights))], [(2, .blk [ai (f.shop.pounds), ai (f.shop.tl), ai (f.shop.th), ai (f.shop.al), ai (f.shop.ah), ai (f.shop.room), ai (f.shop.tpl), ai (f.shop.tph), ai (f.shop.apl), ai (f.shop.aph), .q 0, .q 1] 31), (3, .blk [ai (0), ai (0)] 23), (4, .blk [ai (loTo f.nights i), ai (hiTo f.nights i)] 23)], [], []⟩) (fun i => (i : Int) ≤ k) (fun i => k.toNat - i) (0) id ?_ (LeR.of ⟨rfl, rfl, rfl, rfl, rfl, trivial⟩ ⟨(lx rfl), (lx rfl), trivial⟩ ⟨rfl, rfl, rfl, trivial⟩ rfl rfl rfl rfl rfl) ?_
  · first | trivial | omega | (constructor <;> omega) | simp
  intro i hφ
  have hik : (i : Int) ≤ k := hφ; have hg1 := hg i (by omega)
  refine WP.seq ?_
  refine WP.seq ?_
  refine WP.region ?_
  refine WPl.v rfl (o_move rfl) ?_
  refine WPl.v rfl (o_move rfl) ?_
  refine WPl.v rfl (o_lss rfl rfl) ?_
  refine WPl.nil ?_
  refine EX.then ?_
  refine WP.cond rfl (fun hc1 => ?_) (fun hc1 => ?_)
  · try simp only [decide_eq_true_eq, decide_eq_false_iff_not, Bool.and_eq_true, Bool.or_eq_true, Bool.and_eq_false_iff, Bool.or_eq_false_iff, Bool.not_eq_true', Bool.not_eq_false', ne_eq, Decidable.not_not] at hc1
    refine WP.skip ?_
    refine EX.then ?_
    refine WP.seq ?_
    refine WP.block ?_
    refine WP.seq ?_
    refine WP.region ?_
    refine WPl.v rfl (o_fldp F31_1 rfl) ?_
    refine WPl.v rfl (o_ldp S29 rfl rfl rfl) ?_
    refine WPl.v rfl (o_move rfl) ?_
    refine WPl.x 5 6 rfl rfl rfl (o_idx L29 rfl (lx rfl) rfl (by first | omega | (simp; omega)) (by first | omega | (simp; omega))) ?_
    refine WPl.v rfl (o_fldq F75_0 rfl (lx rfl)) ?_
    refine WPl.v rfl (o_ldeg G23 rfl (lx rfl) (strG rfl) rfl rfl) ?_
    refine WPl.l 6 7 rfl rfl rfl (o_alloc Z23) ?_
    refine WPl.s1 (o_stag G23 rfl rfl rfl ⟨rfl, rfl, trivial⟩ rfl rfl) ?_
    refine WPl.nil ?_
    refine EX.then ?_
    refine WP.region ?_
    refine WPl.v rfl (o_fldp F23_0 rfl) ?_
    refine WPl.v rfl (o_ldp S3 rfl rfl rfl) ?_
    refine WPl.v rfl (o_fldp F23_0 rfl) ?_
    refine WPl.v rfl (o_ldp S3 rfl rfl rfl) ?_
    have hnb := Night.bnds (hn.at (show i < f.nights.length by omega))
    refine WPl.v rfl (o_add rfl rfl (by first | omega | (simp; omega)) (by first | omega | (simp; omega))) ?_
    refine WPl.v rfl (o_fldp F23_1 rfl) ?_
    refine WPl.v rfl (o_ldp S3 rfl rfl rfl) ?_
    refine WPl.v rfl (o_fldp F23_1 rfl) ?_
    refine WPl.v rfl (o_ldp S3 rfl rfl rfl) ?_
    refine WPl.v rfl (o_add rfl rfl (by first | omega | (simp; omega)) (by first | omega | (simp; omega))) ?_
    refine WPl.v rfl (o_build B23 rfl ⟨rfl, rfl, trivial⟩ rfl rfl) ?_
    refine WPl.s1 (o_stag G23 rfl rfl rfl ⟨rfl, rfl, trivial⟩ rfl rfl) ?_
    refine WPl.nil ?_
    refine EX.blk ?_
    refine EX.then ?_
    refine WP.region ?_
    refine WPl.v rfl (o_move rfl) ?_
    refine WPl.v rfl (o_add rfl rfl (by first | omega | (simp; omega)) (by first | omega | (simp; omega))) ?_
    refine WPl.v rfl (o_assign rfl) ?_
    refine WPl.nil ?_
    refine EX.again (i + 1) id (by first | omega | (constructor <;> omega)) (by omega) (LeR.of ⟨rfl, rfl, rfl, rfl, rfl, trivial⟩ ⟨(lx rfl), (lx rfl), trivial⟩ ⟨rfl, rfl, rfl, trivial⟩ rfl rfl rfl rfl rfl)
  · try simp only [decide_eq_true_eq, decide_eq_false_iff_not, Bool.and_eq_true, Bool.or_eq_true, Bool.and_eq_false_iff, Bool.or_eq_false_iff, Bool.not_eq_true', Bool.not_eq_false', ne_eq, Decidable.not_not] at hc1
    refine WP.exit ?_
    refine EX.exit_then ?_
    refine EX.exit_then ?_
    refine EX.exit_blk ?_
    refine EX.then ?_
    refine WP.seq ?_
    refine WP.region ?_
    refine WPl.v rfl (o_ldpa G23 rfl rfl rfl) ?_
    refine WPl.s1 (o_stag G23 rfl rfl rfl ⟨rfl, rfl, trivial⟩ rfl rfl) ?_
    refine WPl.nil ?_
    refine EX.then ?_
    refine WP.ret ?_
    have hi2 : i = k.toNat := by omega
    subst hi2
    exact EX.fin id (.inl rfl) rfl (.cellg G23 rfl rfl rfl (.nil)) rfl (by simp [SV.res, El.res, At.res, keys]) trivial (by simp) (by simp)
theorem w99 {f : Fnd} {plan : List (List Int)} : ∀ x ∈ ([.e (.g [ai (f.shop.pounds), ai (f.shop.tl), ai (f.shop.th), ai (f.shop.al), ai (f.shop.ah), ai (f.shop.room), ai (f.shop.tpl), ai (f.shop.tph), ai (f.shop.apl), ai (f.shop.aph), .q 0, .q 1]), .e (.a (.q 2))] : List SV), x.res (keys (α := Pred) [(0, PL EPig (f.shop.pigs)), (1, PL ENight (f.nights)), (2, PL (EP.sl EP.int) (plan))]) := by simp [SV.res, El.res, At.res, keys]
theorem r99 {f : Fnd} {plan : List (List Int)} : SV.res (keys (α := Pred) []) (.b (f.isPlan plan)) := by simp [SV.res, El.res, At.res, keys]
set_option maxHeartbeats 4000000 in
theorem c99 (f : Fnd) (plan : List (List Int)) (hf : f.chk = true) : Sig Try.prog 99 [.e (.g [ai (f.shop.pounds), ai (f.shop.tl), ai (f.shop.th), ai (f.shop.al), ai (f.shop.ah), ai (f.shop.room), ai (f.shop.tpl), ai (f.shop.tph), ai (f.shop.apl), ai (f.shop.aph), .q 0, .q 1]), .e (.a (.q 2))] [(0, PL EPig (f.shop.pigs)), (1, PL ENight (f.nights)), (2, PL (EP.sl EP.int) (plan))] (.b (f.isPlan plan)) [] := by
  have hs := Fnd.shopOK hf
  have hn := Fnd.nightsOK hf
  have hn4 := hn.2
  have hpg := Shop.pigsOK hs
  have hp4 := hpg.2
  have htb := tl_bnd hs
  have hlh := lohi_bnd hn
  have hhi := fun i hi => Fnd.hi_le hf (i := i) hi
  refine Sig.intro Try.func99 rfl 3 [(0, .e (.g [ai (f.shop.pounds), ai (f.shop.tl), ai (f.shop.th), ai (f.shop.al), ai (f.shop.ah), ai (f.shop.room), ai (f.shop.tpl), ai (f.shop.tph), ai (f.shop.apl), ai (f.shop.aph), .q 0, .q 1])), (1, .e (.a (.q 2)))] rfl w99 rfl rfl fun I w => ?_
  refine WP.seq ?_
  refine WP.region ?_
  refine WPl.l 3 4 rfl rfl rfl (o_boxg rfl) ?_
  refine WPl.v rfl (o_assign rfl) ?_
  refine WPl.nil ?_
  refine EX.then ?_
  refine WP.seq ?_
  refine WP.seq ?_
  refine WP.region ?_
  refine WPl.v rfl (o_move rfl) ?_
  refine WPl.v rfl (o_lenq L32 rfl (lx rfl)) ?_
  refine WPl.v rfl (o_fldp F31_1 rfl) ?_
  refine WPl.v rfl (o_ldp S29 rfl rfl rfl) ?_
  refine WPl.v rfl (o_lenq L29 rfl (lx rfl)) ?_
  refine WPl.v rfl (o_neq rfl rfl) ?_
  refine WPl.nil ?_
  refine EX.then ?_
  refine WP.cond rfl (fun hc1 => ?_) (fun hc1 => ?_)
  · try simp only [decide_eq_true_eq, decide_eq_false_iff_not, Bool.and_eq_true, Bool.or_eq_true, Bool.and_eq_false_iff, Bool.or_eq_false_iff, Bool.not_eq_true', Bool.not_eq_false', ne_eq, Decidable.not_not] at hc1
    refine WP.seq ?_
    refine WP.region ?_
    refine WPl.v rfl (o_assign rfl) ?_
    refine WPl.nil ?_
    refine EX.then ?_
    refine WP.ret ?_
    refine EX.ret_then ?_
    rw [show f.isPlan plan = false from by simp [Fnd.isPlan]; (try simp at hc1); grind]
    exact EX.fin id (.inl rfl) rfl (.tmp rfl .nil) rfl (by simp [SV.res, El.res, At.res, keys]) trivial (by simp) (by simp)
  · try simp only [decide_eq_true_eq, decide_eq_false_iff_not, Bool.and_eq_true, Bool.or_eq_true, Bool.and_eq_false_iff, Bool.or_eq_false_iff, Bool.not_eq_true', Bool.not_eq_false', ne_eq, Decidable.not_not] at hc1
    refine WP.skip ?_
    refine EX.then ?_
    refine WP.seq ?_
    refine WP.seq ?_
    refine WP.region ?_
    refine WPl.v rfl (o_assign rfl) ?_
    refine WPl.nil ?_
    refine EX.then ?_
    refine WP.block ?_
    refine WP.loop (Gh := Nat) (fun i => ⟨4, [(1, .e (.a (.q 2))), (2, .e (.a (.p 3 (0)))), (4, .b (false)), (5, .i ((i : Int)))], [(0, PL EPig (f.shop.pigs)), (1, PL ENight (f.nights)), (2, PL (EP.sl EP.int) (plan))], [(3, .blk [ai (f.shop.pounds), ai (f.shop.tl), ai (f.shop.th), ai (f.shop.al), ai (f.shop.ah), ai (f.shop.room), ai (f.shop.tpl), ai (f.shop.tph), ai (f.shop.apl), ai (f.shop.aph), .q 0, .q 1] 31)], [], []⟩) (fun i => i ≤ plan.length ∧ allI (rowOK f.shop.pigs plan) i = true) (fun i => plan.length - i) (0) id ?_ (LeR.of ⟨rfl, rfl, rfl, rfl, trivial⟩ ⟨(lx rfl), (lx rfl), (lx rfl), trivial⟩ ⟨rfl, trivial⟩ rfl rfl rfl rfl rfl) ?_
    · exact ⟨by omega, rfl⟩
    intro i hφ
    obtain ⟨hi, hall⟩ := hφ; have hlen : (plan.length : Int) = f.nights.length := by simpa using hc1
    refine WP.seq ?_
    refine WP.seq ?_
    refine WP.region ?_
    refine WPl.v rfl (o_move rfl) ?_
    refine WPl.v rfl (o_move rfl) ?_
    refine WPl.v rfl (o_lenq L32 rfl (lx rfl)) ?_
    refine WPl.v rfl (o_lss rfl rfl) ?_
    refine WPl.nil ?_
    refine EX.then ?_
    refine WP.cond rfl (fun hc2 => ?_) (fun hc2 => ?_)
    · try simp only [decide_eq_true_eq, decide_eq_false_iff_not, Bool.and_eq_true, Bool.or_eq_true, Bool.and_eq_false_iff, Bool.or_eq_false_iff, Bool.not_eq_true', Bool.not_eq_false', ne_eq, Decidable.not_not] at hc2
      refine WP.skip ?_
      refine EX.then ?_
      refine WP.seq ?_
      refine WP.block ?_
      refine WP.seq ?_
      refine WP.seq ?_
      refine WP.draw (nf := 6) [⟨[21, 25, 26, 27, 28], [], [], [], []⟩, ⟨[20, 25, 26, 27, 28], [], [], [], []⟩, ⟨[25, 26, 27, 28], [], [4], [4], [0, 1]⟩, ⟨[25, 26, 27, 28], [], [5], [5], [0, 1, 2]⟩, ⟨[25, 26, 27, 28], [], [], [], [0, 1, 2, 3]⟩, ⟨[20, 21, 22, 23, 24], [4, 5], [], [], []⟩, ⟨[20, 21, 22, 23, 24], [4, 5], [], [], [5]⟩, ⟨[20, 21, 22, 23, 24], [4, 5], [], [], [5, 6]⟩, ⟨[20, 21, 22, 23, 24], [4, 5], [], [], [5, 6, 7]⟩, ⟨[], [], [], [], [0, 1, 2, 3, 4, 5, 6, 7, 8]⟩] (by kernel_rfl) (by kernel_rfl) ?_
      refine DRQ.v rfl rfl rfl (o_move rfl) ?_
      refine DRQ.v rfl rfl rfl (o_move rfl) ?_
      refine DRQ.x 4 rfl rfl rfl rfl (o_idx L32 rfl (lx rfl) rfl (by first | omega | (simp; omega)) (by first | omega | (simp; omega))) ?_
      refine DRQ.x 5 rfl rfl rfl rfl (o_ldqx S44 rfl (lx rfl) slx) ?_
      refine DRQ.v rfl rfl rfl (o_lenq L44 rfl (lx rfl)) ?_
      refine DRQ.v rfl rfl rfl (o_fldp F31_0 rfl) ?_
      refine DRQ.v rfl rfl rfl (o_fldp F28_4 rfl) ?_
      refine DRQ.v rfl rfl rfl (o_ldp S26 rfl rfl rfl) ?_
      refine DRQ.v rfl rfl rfl (o_lenq L26 rfl (lx rfl)) ?_
      refine DRQ.v rfl rfl rfl (o_neq rfl rfl) ?_
      refine DRQ.nil' ?_
      refine EX.then ?_
      refine WP.cond rfl (fun hc3 => ?_) (fun hc3 => ?_)
      · try simp only [decide_eq_true_eq, decide_eq_false_iff_not, Bool.and_eq_true, Bool.or_eq_true, Bool.and_eq_false_iff, Bool.or_eq_false_iff, Bool.not_eq_true', Bool.not_eq_false', ne_eq, Decidable.not_not] at hc3
        refine WP.seq ?_
        refine WP.region ?_
        refine WPl.v rfl (o_assign rfl) ?_
        refine WPl.nil ?_
        refine EX.then ?_
        refine WP.ret ?_
        refine EX.ret_then ?_
        refine EX.ret_blk ?_
        refine EX.ret_then ?_
        refine EX.ret_then ?_
        refine EX.ret_blk ?_
        refine EX.ret_then ?_
        rw [show f.isPlan plan = false from by simp [Fnd.isPlan, allI_false (show i < plan.length by omega) (show rowOK f.shop.pigs plan i = false by simp [rowOK]; (try simp at hc3); grind)]]
        exact EX.fin id (.inl rfl) rfl (.tmp rfl .nil) rfl (by simp [SV.res, El.res, At.res, keys]) trivial (by simp) (by simp)
      · try simp only [decide_eq_true_eq, decide_eq_false_iff_not, Bool.and_eq_true, Bool.or_eq_true, Bool.and_eq_false_iff, Bool.or_eq_false_iff, Bool.not_eq_true', Bool.not_eq_false', ne_eq, Decidable.not_not] at hc3
        refine WP.skip ?_
        refine EX.then ?_
        refine WP.seq ?_
        refine WP.region ?_
        refine WPl.v rfl (o_assign rfl) ?_
        refine WPl.nil ?_
        refine EX.then ?_
        refine WP.block ?_
        refine WP.loop (Gh := Nat) (fun j => ⟨6, [(1, .e (.a (.q 2))), (2, .e (.a (.p 3 (0)))), (4, .b (false)), (5, .i ((i : Int))), (14, .i ((i : Int))), (15, .e (.a (.q 2))), (16, .i ((plan.length : Int))), (17, .b (decide ((i : Int) < (plan.length : Int)))), (20, .e (.a (.q 2))), (21, .i ((i : Int))), (22, .e (.a (.q 4))), (23, .e (.a (.q 5))), (24, .i (((nth plan (i : Int)).length : Int))), (25, .e (.a (.p 3 (0)))), (26, .e (.a (.p 3 (10)))), (27, .e (.a (.q 0))), (28, .i ((f.shop.pigs.length : Int))), (29, .b (decide (((nth plan (i : Int)).length : Int) ≠ (f.shop.pigs.length : Int)))), (6, .i ((j : Int)))], [(0, PL EPig (f.shop.pigs)), (1, PL ENight (f.nights)), (2, PL (EP.sl EP.int) (plan)), (4, PP (EP.sl EP.int) (nth plan (i : Int))), (5, PL EP.int (nth plan (i : Int)))], [(3, .blk [ai (f.shop.pounds), ai (f.shop.tl), ai (f.shop.th), ai (f.shop.al), ai (f.shop.ah), ai (f.shop.room), ai (f.shop.tpl), ai (f.shop.tph), ai (f.shop.apl), ai (f.shop.aph), .q 0, .q 1] 31)], [], []⟩) (fun j => j ≤ (nth plan i).length ∧ allI (fitsMany f.shop.pigs (nth plan i)) j = true) (fun j => (nth plan i).length - j) (0) id ?_ (LeR.of ⟨rfl, rfl, rfl, rfl, rfl, rfl, rfl, rfl, rfl, rfl, rfl, rfl, rfl, rfl, rfl, rfl, rfl, rfl, rfl, trivial⟩ ⟨(lx rfl), (lx rfl), (lx rfl), (lx rfl), (lx rfl), trivial⟩ ⟨rfl, trivial⟩ rfl rfl rfl rfl rfl) ?_
        · exact ⟨by omega, rfl⟩
        intro j hφ
        obtain ⟨hj, hallj⟩ := hφ; have hrow : ((nth plan i).length : Int) = f.shop.pigs.length := by simpa using hc3
        refine WP.seq ?_
        refine WP.seq ?_
        refine WP.region ?_
        refine WPl.v rfl (o_move rfl) ?_
        refine WPl.v rfl (o_move rfl) ?_
        refine WPl.v rfl (o_move rfl) ?_
        refine WPl.x 6 7 rfl rfl rfl (o_idx L32 rfl (lx rfl) rfl (by first | omega | (simp; omega)) (by first | omega | (simp; omega))) ?_
        refine WPl.x 7 8 rfl rfl rfl (o_ldqx S44 rfl (lx rfl) slx) ?_
        refine WPl.v rfl (o_lenq L44 rfl (lx rfl)) ?_
        refine WPl.v rfl (o_lss rfl rfl) ?_
        refine WPl.nil ?_
        refine EX.then ?_
        refine WP.cond rfl (fun hc4 => ?_) (fun hc4 => ?_)
        · try simp only [decide_eq_true_eq, decide_eq_false_iff_not, Bool.and_eq_true, Bool.or_eq_true, Bool.and_eq_false_iff, Bool.or_eq_false_iff, Bool.not_eq_true', Bool.not_eq_false', ne_eq, Decidable.not_not] at hc4
          refine WP.skip ?_
          refine EX.then ?_
          refine WP.seq ?_
          refine WP.block ?_
          refine WP.seq ?_
          refine WP.draw (nf := 12) [⟨[40, 43, 46, 47, 48, 49, 50, 51, 52], [11], [], [], []⟩, ⟨[39, 43, 46, 47, 48, 49, 50, 51, 52], [11], [], [], []⟩, ⟨[43, 46, 47, 48, 49, 50, 51, 52], [11], [8], [8], [0, 1]⟩, ⟨[43, 46, 47, 48, 49, 50, 51, 52], [11], [9], [9], [0, 1, 2]⟩, ⟨[39, 40, 41, 42, 46, 47, 48, 49, 50, 51, 52], [8, 9, 11], [], [], []⟩, ⟨[46, 47, 48, 49, 50, 51, 52], [11], [10], [10], [0, 1, 2, 3, 4]⟩, ⟨[46, 47, 48, 49, 50, 51, 52], [11], [], [], [0, 1, 2, 3, 4, 5]⟩, ⟨[39, 40, 41, 42, 43, 44, 45, 49], [8, 9, 10], [], [], []⟩, ⟨[39, 40, 41, 42, 43, 44, 45, 49], [8, 9, 10], [], [], [7]⟩, ⟨[39, 40, 41, 42, 43, 44, 45, 49], [8, 9, 10], [], [], [7, 8]⟩, ⟨[39, 40, 41, 42, 43, 44, 45, 46, 47, 48], [8, 9, 10], [], [], []⟩, ⟨[39, 40, 41, 42, 43, 44, 45], [8, 9, 10], [11], [11], [7, 8, 9, 10]⟩, ⟨[39, 40, 41, 42, 43, 44, 45], [8, 9, 10], [], [], [7, 8, 9, 10, 11]⟩, ⟨[39, 40, 41, 42, 43, 44, 45], [8, 9, 10], [], [], [7, 8, 9, 10, 11, 12]⟩, ⟨[], [], [], [], [0, 1, 2, 3, 4, 5, 6, 7, 8, 9, 10, 11, 12, 13]⟩, ⟨[], [], [], [], [0, 1, 2, 3, 4, 5, 6, 7, 8, 9, 10, 11, 12, 13, 14]⟩] (by kernel_rfl) (by kernel_rfl) ?_
          refine DRQ.v rfl rfl rfl (o_move rfl) ?_
          refine DRQ.v rfl rfl rfl (o_move rfl) ?_
          refine DRQ.x 8 rfl rfl rfl rfl (o_idx L32 rfl (lx rfl) rfl (by first | omega | (simp; omega)) (by first | omega | (simp; omega))) ?_
          refine DRQ.x 9 rfl rfl rfl rfl (o_ldqx S44 rfl (lx rfl) slx) ?_
          refine DRQ.v rfl rfl rfl (o_move rfl) ?_
          refine DRQ.x 10 rfl rfl rfl rfl (o_idx L44 rfl (lx rfl) rfl (by first | omega | (simp; omega)) (by first | omega | (simp; omega))) ?_
          refine DRQ.v rfl rfl rfl (o_ldq S3 rfl (lx rfl) intc) ?_
          refine DRQ.v rfl rfl rfl (o_fldp F31_0 rfl) ?_
          refine DRQ.v rfl rfl rfl (o_fldp F28_4 rfl) ?_
          refine DRQ.v rfl rfl rfl (o_ldp S26 rfl rfl rfl) ?_
          refine DRQ.v rfl rfl rfl (o_move rfl) ?_
          refine DRQ.x 11 rfl rfl rfl rfl (o_idx L26 rfl (lx rfl) rfl (by first | omega | (simp; omega)) (by first | omega | (simp; omega))) ?_
          refine DRQ.v rfl rfl rfl (o_fldq F78_4 rfl (lx rfl)) ?_
          refine DRQ.v rfl rfl rfl (o_lde S3 rfl (lx rfl) (strI rfl)) ?_
          refine DRQ.cs rfl rfl rfl rfl (o_sig 12 id (c86 (nth (nth plan (i : Int)) (j : Int)) 0 ((nth f.shop.pigs (j : Int)).many)) e86 rfl rfl rfl w86 trivial r86) ?_
          refine DRQ.v rfl rfl rfl (o_not rfl) ?_
          refine DRQ.nil' ?_
          refine EX.then ?_
          refine WP.cond rfl (fun hc5 => ?_) (fun hc5 => ?_)
          · try simp only [decide_eq_true_eq, decide_eq_false_iff_not, Bool.and_eq_true, Bool.or_eq_true, Bool.and_eq_false_iff, Bool.or_eq_false_iff, Bool.not_eq_true', Bool.not_eq_false', ne_eq, Decidable.not_not] at hc5
            refine WP.seq ?_
            refine WP.region ?_
            refine WPl.v rfl (o_assign rfl) ?_
            refine WPl.nil ?_
            refine EX.then ?_
            refine WP.ret ?_
            refine EX.ret_blk ?_
            refine EX.ret_then ?_
            refine EX.ret_then ?_
            refine EX.ret_blk ?_
            refine EX.ret_blk ?_
            refine EX.ret_then ?_
            refine EX.ret_then ?_
            refine EX.ret_blk ?_
            refine EX.ret_then ?_
            rw [show f.isPlan plan = false from by simp [Fnd.isPlan, allI_false (show i < plan.length by omega) (show rowOK f.shop.pigs plan i = false by simp [rowOK, allI_false (show j < (nth plan i).length by omega) (show fitsMany f.shop.pigs (nth plan i) j = false by simpa [fitsMany] using hc5)])]]
            exact EX.fin id (.inl rfl) rfl (.tmp rfl .nil) rfl (by simp [SV.res, El.res, At.res, keys]) trivial (by simp) (by simp)
          · try simp only [decide_eq_true_eq, decide_eq_false_iff_not, Bool.and_eq_true, Bool.or_eq_true, Bool.and_eq_false_iff, Bool.or_eq_false_iff, Bool.not_eq_true', Bool.not_eq_false', ne_eq, Decidable.not_not] at hc5
            refine WP.skip ?_
            refine EX.blk ?_
            refine EX.then ?_
            refine WP.region ?_
            refine WPl.v rfl (o_move rfl) ?_
            refine WPl.v rfl (o_add rfl rfl (by first | omega | (simp; omega)) (by first | omega | (simp; omega))) ?_
            refine WPl.v rfl (o_assign rfl) ?_
            refine WPl.nil ?_
            refine EX.again (j + 1) id (by exact ⟨by omega, by simp [allI, hallj, fitsMany]; simpa using hc5⟩) (by omega) (LeR.of ⟨rfl, rfl, rfl, rfl, rfl, rfl, rfl, rfl, rfl, rfl, rfl, rfl, rfl, rfl, rfl, rfl, rfl, rfl, rfl, trivial⟩ ⟨(lx rfl), (lx rfl), (lx rfl), (lx rfl), (lx rfl), trivial⟩ ⟨rfl, trivial⟩ rfl rfl rfl rfl rfl)
        · try simp only [decide_eq_true_eq, decide_eq_false_iff_not, Bool.and_eq_true, Bool.or_eq_true, Bool.and_eq_false_iff, Bool.or_eq_false_iff, Bool.not_eq_true', Bool.not_eq_false', ne_eq, Decidable.not_not] at hc4
          refine WP.exit ?_
          refine EX.exit_then ?_
          refine EX.exit_then ?_
          refine EX.exit_blk ?_
          refine EX.blk ?_
          refine EX.then ?_
          refine WP.region ?_
          refine WPl.v rfl (o_move rfl) ?_
          refine WPl.v rfl (o_add rfl rfl (by first | omega | (simp; omega)) (by first | omega | (simp; omega))) ?_
          refine WPl.v rfl (o_assign rfl) ?_
          refine WPl.nil ?_
          refine EX.again (i + 1) id (by exact ⟨by omega, by have e : (nth plan i).length = j := (by omega); simp only [allI, hall, rowOK, e, hallj, Bool.true_and, Bool.and_true, decide_eq_true_eq]; omega⟩) (by omega) (LeR.of ⟨rfl, rfl, rfl, rfl, trivial⟩ ⟨(lx rfl), (lx rfl), (lx rfl), trivial⟩ ⟨rfl, trivial⟩ rfl rfl rfl rfl rfl)
    · try simp only [decide_eq_true_eq, decide_eq_false_iff_not, Bool.and_eq_true, Bool.or_eq_true, Bool.and_eq_false_iff, Bool.or_eq_false_iff, Bool.not_eq_true', Bool.not_eq_false', ne_eq, Decidable.not_not] at hc2
      refine WP.exit ?_
      refine EX.exit_then ?_
      refine EX.exit_then ?_
      refine EX.exit_blk ?_
      refine EX.then ?_
      refine WP.seq ?_
      refine WP.seq ?_
      refine WP.region ?_
      refine WPl.v rfl (o_assign rfl) ?_
      refine WPl.nil ?_
      refine EX.then ?_
      refine WP.block ?_
      refine WP.loop (Gh := Nat) (fun k => ⟨4, [(1, .e (.a (.q 2))), (2, .e (.a (.p 3 (0)))), (4, .b (false)), (7, .i ((k : Int)))], [(0, PL EPig (f.shop.pigs)), (1, PL ENight (f.nights)), (2, PL (EP.sl EP.int) (plan))], [(3, .blk [ai (f.shop.pounds), ai (f.shop.tl), ai (f.shop.th), ai (f.shop.al), ai (f.shop.ah), ai (f.shop.room), ai (f.shop.tpl), ai (f.shop.tph), ai (f.shop.apl), ai (f.shop.aph), .q 0, .q 1] 31)], [], []⟩) (fun k => k ≤ plan.length ∧ allI (f.fitsAt plan) k = true) (fun k => plan.length - k) (0) id ?_ (LeR.of ⟨rfl, rfl, rfl, rfl, trivial⟩ ⟨(lx rfl), (lx rfl), (lx rfl), trivial⟩ ⟨rfl, trivial⟩ rfl rfl rfl rfl rfl) ?_
      · exact ⟨by omega, rfl⟩
      intro k hφ
      obtain ⟨hk, hallk⟩ := hφ; have hi2 : i = plan.length := by omega
      subst hi2
      have hrows : ∀ i : Nat, i < plan.length → (nth plan i).length = f.shop.pigs.length ∧ bnd (nth plan i) 5 := fun i hi => rowOK_b hpg (allI_iff.1 hall i hi)
      refine WP.seq ?_
      refine WP.seq ?_
      refine WP.region ?_
      refine WPl.v rfl (o_move rfl) ?_
      refine WPl.v rfl (o_move rfl) ?_
      refine WPl.v rfl (o_lenq L32 rfl (lx rfl)) ?_
      refine WPl.v rfl (o_lss rfl rfl) ?_
      refine WPl.nil ?_
      refine EX.then ?_
      refine WP.cond rfl (fun hc6 => ?_) (fun hc6 => ?_)
      · try simp only [decide_eq_true_eq, decide_eq_false_iff_not, Bool.and_eq_true, Bool.or_eq_true, Bool.and_eq_false_iff, Bool.or_eq_false_iff, Bool.not_eq_true', Bool.not_eq_false', ne_eq, Decidable.not_not] at hc6
        refine WP.skip ?_
        refine EX.then ?_
        refine WP.seq ?_
        refine WP.block ?_
        refine WP.seq ?_
        refine WP.draw (nf := 6) [⟨[62, 63, 64, 65, 67, 68, 69], [], [], [], []⟩, ⟨[61, 63, 67, 68, 69], [], [], [], []⟩, ⟨[61, 62, 67, 68, 69], [], [], [], []⟩, ⟨[61, 67, 68, 69], [], [], [], [1, 2]⟩, ⟨[61, 67, 68, 69], [], [], [], [1, 2, 3]⟩, ⟨[67, 68, 69], [], [4], [4], [0, 1, 2, 3, 4]⟩, ⟨[61, 62, 63, 64, 65, 66, 68, 69], [4], [], [], []⟩, ⟨[61, 62, 63, 64, 65, 66, 67, 69], [4], [], [], []⟩, ⟨[61, 62, 63, 64, 65, 66, 67, 68], [4], [], [], []⟩, ⟨[], [], [5], [5], [0, 1, 2, 3, 4, 5, 6, 7, 8]⟩, ⟨[], [], [], [], [0, 1, 2, 3, 4, 5, 6, 7, 8, 9]⟩, ⟨[], [], [], [], [0, 1, 2, 3, 4, 5, 6, 7, 8, 9, 10]⟩] (by kernel_rfl) (by kernel_rfl) ?_
        refine DRQ.v rfl rfl rfl (o_ldpa G31 rfl rfl rfl) ?_
        refine DRQ.v rfl rfl rfl (o_ldpa G31 rfl rfl rfl) ?_
        refine DRQ.v rfl rfl rfl (o_move rfl) ?_
        have hl1 := hlh k (by omega)
        have hl2 := hhi k (by omega)
        have hni : ((k : Int) + 1).toNat = k + 1 := by omega
        refine DRQ.cs rfl rfl rfl rfl (o_sig 4 (ren [(0, 0), (1, 1)]) (c83 f (k : Int) hn (by omega)) e83 rfl rfl rfl w83 ⟨(lx rfl), (lx rfl), trivial⟩ r83) ?_
        refine DRQ.v rfl rfl rfl (o_field Try.underlying23 rfl S3 rfl rfl) ?_
        refine DRQ.cs rfl rfl rfl rfl (o_sig 4 (ren [(0, 0), (1, 1)]) (c139 f (loTo f.nights (k : Int).toNat) (by omega) (by simp; omega) (by omega)) e139 rfl rfl rfl w139 ⟨(lx rfl), (lx rfl), trivial⟩ r139) ?_
        refine DRQ.v rfl rfl rfl (o_ldpa G31 rfl rfl rfl) ?_
        refine DRQ.v rfl rfl rfl (o_move rfl) ?_
        refine DRQ.v rfl rfl rfl (o_move rfl) ?_
        refine DRQ.cs rfl rfl rfl rfl (o_sig 5 (ren [(0, 0), (1, 1), (2, 2)]) (c82 f plan (k : Int) (by omega) (by omega) (by omega) (fun i hi => ⟨(hrows i hi).1, fun j hj => by have := (hrows i hi).2 j hj; omega⟩)) e82 rfl rfl rfl w82 ⟨(lx rfl), (lx rfl), (lx rfl), trivial⟩ r82) ?_
        refine DRQ.cs rfl rfl rfl rfl (o_sig 6 (ren [(0, 4), (1, 5)]) (c66 (f.less (loTo f.nights (k : Int).toNat)) (upTo f.shop.pigs.length plan ((k : Int) + 1).toNat) hpg (by simp [Fnd.less]; omega)) e66 rfl rfl rfl w66 ⟨(lx rfl), (lx rfl), trivial⟩ r66) ?_
        refine DRQ.v rfl rfl rfl (o_not rfl) ?_
        refine DRQ.nil' ?_
        refine EX.then ?_
        refine WP.cond rfl (fun hc7 => ?_) (fun hc7 => ?_)
        · try simp only [decide_eq_true_eq, decide_eq_false_iff_not, Bool.and_eq_true, Bool.or_eq_true, Bool.and_eq_false_iff, Bool.or_eq_false_iff, Bool.not_eq_true', Bool.not_eq_false', ne_eq, Decidable.not_not] at hc7
          refine WP.seq ?_
          refine WP.region ?_
          refine WPl.v rfl (o_assign rfl) ?_
          refine WPl.nil ?_
          refine EX.then ?_
          refine WP.ret ?_
          refine EX.ret_blk ?_
          refine EX.ret_then ?_
          refine EX.ret_then ?_
          refine EX.ret_blk ?_
          refine EX.ret_then ?_
          rw [show f.isPlan plan = false from by simp [Fnd.isPlan, allI_false (show k < plan.length by omega) (show f.fitsAt plan k = false by rw [hni] at hc7; simpa [Fnd.fitsAt] using hc7)]]
          exact EX.fin id (.inl rfl) rfl (.tmp rfl .nil) rfl (by simp [SV.res, El.res, At.res, keys]) trivial (by simp) (by simp)
        · try simp only [decide_eq_true_eq, decide_eq_false_iff_not, Bool.and_eq_true, Bool.or_eq_true, Bool.and_eq_false_iff, Bool.or_eq_false_iff, Bool.not_eq_true', Bool.not_eq_false', ne_eq, Decidable.not_not] at hc7
          refine WP.skip ?_
          refine EX.blk ?_
          refine EX.then ?_
          refine WP.region ?_
          refine WPl.v rfl (o_move rfl) ?_
          refine WPl.v rfl (o_add rfl rfl (by first | omega | (simp; omega)) (by first | omega | (simp; omega))) ?_
          refine WPl.v rfl (o_assign rfl) ?_
          refine WPl.nil ?_
          refine EX.again (k + 1) id (by exact ⟨by omega, by rw [hni] at hc7; simp [allI, hallk, Fnd.fitsAt]; simpa using hc7⟩) (by omega) (LeR.of ⟨rfl, rfl, rfl, rfl, trivial⟩ ⟨(lx rfl), (lx rfl), (lx rfl), trivial⟩ ⟨rfl, trivial⟩ rfl rfl rfl rfl rfl)
      · try simp only [decide_eq_true_eq, decide_eq_false_iff_not, Bool.and_eq_true, Bool.or_eq_true, Bool.and_eq_false_iff, Bool.or_eq_false_iff, Bool.not_eq_true', Bool.not_eq_false', ne_eq, Decidable.not_not] at hc6
        refine WP.exit ?_
        refine EX.exit_then ?_
        refine EX.exit_then ?_
        refine EX.exit_blk ?_
        refine EX.then ?_
        refine WP.seq ?_
        refine WP.region ?_
        refine WPl.v rfl (o_assign rfl) ?_
        refine WPl.nil ?_
        refine EX.then ?_
        refine WP.ret ?_
        have hk2 : k = plan.length := by omega
        subst hk2
        rw [show f.isPlan plan = true from by simp [Fnd.isPlan, hall, hallk, hlen]]
        exact EX.fin id (.inl rfl) rfl (.tmp rfl .nil) rfl (by simp [SV.res, El.res, At.res, keys]) trivial (by simp) (by simp)
end Go.Flong
