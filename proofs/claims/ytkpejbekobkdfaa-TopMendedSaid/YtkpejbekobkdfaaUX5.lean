/- TopMended returns true for every input and leaves its arguments as they were (night by night). No condition. -/
import Derived.Test.YtkpejbekobkdfaaUX4
set_option linter.unusedSimpArgs false
set_option linter.unusedVariables false
namespace Go.Flong
open Go Go.Eng Go.Proofs
theorem e44 : Enters' Try.prog 44 := Try.call44
theorem e19 : Enters' Try.prog 19 := Try.call19
theorem e5 : Enters' Try.prog 5 := Try.call5
theorem B25 : BldT Try.prog 25 [(0, 1), (1, 2), (3, 2)] [.int .i64 0, .int .i64 0, .int .i64 0, .int .i64 0, .int .i64 0] := BldT.mk (ns := [1, 2, 2]) Try.underlying25 ⟨Try.sizeOf3, Try.sizeOf23, Try.sizeOf23, trivial⟩ rfl Try.zeroValue25 rfl
theorem B53 : BldT Try.prog 53 [(0, 1), (1, 1), (2, 1), (3, 1), (4, 1)] [.int .i64 0, .int .i64 0, .int .i64 0, .int .i64 0, .int .i64 0] := BldT.mk (ns := [1, 1, 1, 1, 1]) Try.underlying53 ⟨Try.sizeOf3, Try.sizeOf3, Try.sizeOf3, Try.sizeOf3, Try.sizeOf3, trivial⟩ rfl Try.zeroValue53 rfl
theorem B28 : BldT Try.prog 28 [(0, 5), (5, 1), (6, 2), (8, 2), (10, 1)] [.int .i64 0, .int .i64 0, .int .i64 0, .int .i64 0, .int .i64 0, .int .i64 0, .int .i64 0, .int .i64 0, .int .i64 0, .int .i64 0, .slice none 0 0] := BldT.mk (ns := [5, 1, 2, 2, 1]) Try.underlying28 ⟨Try.sizeOf25, Try.sizeOf3, Try.sizeOf23, Try.sizeOf23, Try.sizeOf26, trivial⟩ rfl Try.zeroValue28 rfl
theorem B43 : BldT Try.prog 43 [(0, 2), (2, 1)] [.int .i64 0, .int .i64 0, .int .i64 0] := BldT.mk (ns := [2, 1]) Try.underlying43 ⟨Try.sizeOf23, Try.sizeOf3, trivial⟩ rfl Try.zeroValue43 rfl
theorem e46 : Enters' Try.prog 46 := Try.call46
theorem w44 {s : Shop} : ∀ x ∈ ([.e (.g [ai (s.pounds), ai (s.tl), ai (s.th), ai (s.al), ai (s.ah), ai (s.room), ai (s.tpl), ai (s.tph), ai (s.apl), ai (s.aph), .q 0])] : List SV), x.res (keys (α := Pred) [(0, PL EPig (s.pigs))]) := by simp [SV.res, El.res, At.res, keys]
theorem r44 {s : Shop} : SV.res (keys (α := Pred) []) (.b (hugeS s)) := by simp [SV.res, El.res, At.res, keys]
set_option maxHeartbeats 4000000 in
theorem c44 (s : Shop)  : Sig Try.prog 44 [.e (.g [ai (s.pounds), ai (s.tl), ai (s.th), ai (s.al), ai (s.ah), ai (s.room), ai (s.tpl), ai (s.tph), ai (s.apl), ai (s.aph), .q 0])] [(0, PL EPig (s.pigs))] (.b (hugeS s)) [] := by
  refine Sig.intro Try.func44 rfl 1 [(0, .e (.g [ai (s.pounds), ai (s.tl), ai (s.th), ai (s.al), ai (s.ah), ai (s.room), ai (s.tpl), ai (s.tph), ai (s.apl), ai (s.aph), .q 0]))] rfl w44 rfl rfl fun I w => ?_
  refine WP.seq (WP.region ?_)
  refine WPl.l 1 2 rfl rfl rfl (o_boxg rfl) ?_
  refine WPl.v rfl (o_assign rfl) ?_
  refine WPl.nil (EX.then (WP.seq (WP.region ?_)))
  refine WPl.v rfl (o_fldp F28_4 rfl) ?_
  refine WPl.v rfl (o_ldp S26 rfl rfl rfl) ?_
  refine WPl.v rfl (o_lenq L26 rfl (lx rfl)) ?_
  refine WPl.v rfl (o_gtr rfl rfl) ?_
  refine WPl.v rfl (o_assign rfl) ?_
  refine WPl.nil (EX.then (WP.ret ?_))
  exact EX.fin id (.inl rfl) rfl (.tmp rfl .nil) rfl r44 trivial (by simp) (by simp)
theorem w19 {f : Fnd} : ∀ x ∈ ([.e (.g [ai (f.shop.pounds), ai (f.shop.tl), ai (f.shop.th), ai (f.shop.al), ai (f.shop.ah), ai (f.shop.room), ai (f.shop.tpl), ai (f.shop.tph), ai (f.shop.apl), ai (f.shop.aph), .q 0, .q 1])] : List SV), x.res (keys (α := Pred) [(0, PL EPig (f.shop.pigs)), (1, PL ENight (f.nights))]) := by simp [SV.res, El.res, At.res, keys]
theorem r19 {f : Fnd} : SV.res (keys (α := Pred) []) (.b (f.huge)) := by simp [SV.res, El.res, At.res, keys]
set_option maxHeartbeats 4000000 in
theorem c19 (f : Fnd)  : Sig Try.prog 19 [.e (.g [ai (f.shop.pounds), ai (f.shop.tl), ai (f.shop.th), ai (f.shop.al), ai (f.shop.ah), ai (f.shop.room), ai (f.shop.tpl), ai (f.shop.tph), ai (f.shop.apl), ai (f.shop.aph), .q 0, .q 1])] [(0, PL EPig (f.shop.pigs)), (1, PL ENight (f.nights))] (.b (f.huge)) [] := by
  refine Sig.intro Try.func19 rfl 2 [(0, .e (.g [ai (f.shop.pounds), ai (f.shop.tl), ai (f.shop.th), ai (f.shop.al), ai (f.shop.ah), ai (f.shop.room), ai (f.shop.tpl), ai (f.shop.tph), ai (f.shop.apl), ai (f.shop.aph), .q 0, .q 1]))] rfl w19 rfl rfl fun I w => ?_
  refine WP.seq (WP.region ?_)
  refine WPl.l 2 3 rfl rfl rfl (o_boxg rfl) ?_
  refine WPl.v rfl (o_assign rfl) ?_
  refine WPl.nil (EX.then (WP.seq (WP.region ?_)))
  refine WPl.v rfl (o_fldp F31_0 rfl) ?_
  refine WPl.v rfl (o_ldpg G28 rfl rfl rfl) ?_
  refine WPl.cs 3 rfl rfl rfl rfl (o_sig 3 (ren [(0, 0)]) (c44 f.shop) e44 rfl rfl rfl w44 ⟨(lx rfl), trivial⟩ r44) ?_
  refine WPl.v rfl (o_move rfl) ?_
  refine WPl.bit 3 4 (!(hugeS f.shop)) rfl rfl ?_
  refine WPl.gv 3 rfl rfl (.plain rfl (by simp) rfl) (fun hb => o_fldp F31_1 rfl) ?_
  refine WPl.gv 3 rfl rfl (.plain rfl (by simp) rfl) (fun hb => o_ldp S29 rfl rfl rfl) ?_
  refine WPl.gv 3 rfl rfl (.plain rfl (by simp) rfl) (fun hb => o_lenq L29 rfl (lx rfl)) ?_
  refine WPl.gv 3 rfl rfl (.plain rfl (by simp) rfl) (fun hb => o_gtr rfl rfl) ?_
  refine WPl.v rfl (o_or rfl rfl rfl (by first | (simp; done) | simp_all)) ?_
  refine WPl.v rfl (o_assign rfl) ?_
  refine WPl.nil (EX.then (WP.ret ?_))
  exact EX.fin id (.inl rfl) rfl (.tmp rfl .nil) rfl r19 trivial (by simp) (by simp)
theorem w4 {f : Fnd} : ∀ x ∈ ([.e (.g [ai (f.shop.pounds), ai (f.shop.tl), ai (f.shop.th), ai (f.shop.al), ai (f.shop.ah), ai (f.shop.room), ai (f.shop.tpl), ai (f.shop.tph), ai (f.shop.apl), ai (f.shop.aph), .q 0, .q 1])] : List SV), x.res (keys (α := Pred) [(0, PL EPig (f.shop.pigs)), (1, PL ENight (f.nights))]) := by simp [SV.res, El.res, At.res, keys]
theorem r4 {f : Fnd} : SV.res (keys (α := Pred) []) (.b (f.far)) := by simp [SV.res, El.res, At.res, keys]
set_option maxHeartbeats 4000000 in
theorem c4 (f : Fnd)  : Sig Try.prog 4 [.e (.g [ai (f.shop.pounds), ai (f.shop.tl), ai (f.shop.th), ai (f.shop.al), ai (f.shop.ah), ai (f.shop.room), ai (f.shop.tpl), ai (f.shop.tph), ai (f.shop.apl), ai (f.shop.aph), .q 0, .q 1])] [(0, PL EPig (f.shop.pigs)), (1, PL ENight (f.nights))] (.b (f.far)) [] := by
  refine Sig.intro Try.func4 rfl 2 [(0, .e (.g [ai (f.shop.pounds), ai (f.shop.tl), ai (f.shop.th), ai (f.shop.al), ai (f.shop.ah), ai (f.shop.room), ai (f.shop.tpl), ai (f.shop.tph), ai (f.shop.apl), ai (f.shop.aph), .q 0, .q 1]))] rfl w4 rfl rfl fun I w => ?_
  refine WP.seq (WP.region ?_)
  refine WPl.l 2 3 rfl rfl rfl (o_boxg rfl) ?_
  refine WPl.v rfl (o_assign rfl) ?_
  refine WPl.nil (EX.then (WP.seq (WP.seq (WP.region ?_))))
  refine WPl.v rfl (o_ldpa G31 rfl rfl rfl) ?_
  refine WPl.cs 3 rfl rfl rfl rfl (o_sig 3 (ren [(0, 0), (1, 1)]) (c19 f) e19 rfl rfl rfl w19 ⟨(lx rfl), (lx rfl), trivial⟩ r19) ?_
  refine WPl.nil (EX.then ?_)
  refine WP.cond rfl (fun hc1 => ?_) (fun hc1 => ?_)
  · try simp only [cnd] at hc1
    refine WP.seq (WP.region ?_)
    refine WPl.v rfl (o_assign rfl) ?_
    refine WPl.nil (EX.then (WP.ret (EX.ret_then ?_)))
    rw [show f.far = true from by simp [Fnd.far, hc1]]
    exact EX.fin id (.inl rfl) rfl (.tmp rfl .nil) rfl (by simp [SV.res, El.res, At.res, keys]) trivial (by simp) (by simp)
  · try simp only [cnd] at hc1
    refine WP.skip (EX.then (WP.seq (WP.seq (WP.region ?_))))
    refine WPl.v rfl (o_ldpa G31 rfl rfl rfl) ?_
    refine WPl.cs 3 rfl rfl rfl rfl (o_sig 3 (ren [(0, 0), (1, 1)]) (c5 f) e5 rfl rfl rfl w5 ⟨(lx rfl), (lx rfl), trivial⟩ r5) ?_
    refine WPl.v rfl (o_neq rfl rfl) ?_
    refine WPl.nil (EX.then ?_)
    refine WP.cond rfl (fun hc2 => ?_) (fun hc2 => ?_)
    · try simp only [cnd] at hc2
      refine WP.seq (WP.region ?_)
      refine WPl.v rfl (o_assign rfl) ?_
      refine WPl.nil (EX.then (WP.ret (EX.ret_then ?_)))
      rw [show f.far = false from by simp [Fnd.far, show f.huge = false from hc1, show f.chk = false from by (cases hch : f.chk; rfl; simp [errW, hch] at hc2)]]
      exact EX.fin id (.inl rfl) rfl (.tmp rfl .nil) rfl (by simp [SV.res, El.res, At.res, keys]) trivial (by simp) (by simp)
    · try simp only [cnd] at hc2
      have hf : f.chk = true := by simpa [errW_eq] using hc2
      have hnh : f.huge = false := hc1
      have hcb := Fnd.chkB hf
      have hpg := Shop.pigsOK (Fnd.shopOK hf)
      have hn := Fnd.nightsOK hf
      have htb := tl_bnd (Fnd.shopOK hf)
      have hab := fun i hi => farA_bnd hf i hi
      have hp10 : ∀ i : Nat, i ≤ 4 → (10 : Int) ^ i ≤ 10000 := fun i hi => by (rcases (show i = 0 ∨ i = 1 ∨ i = 2 ∨ i = 3 ∨ i = 4 by omega) with rfl | rfl | rfl | rfl | rfl) <;> decide
      have hp9 : ∀ i : Nat, i ≤ 4 → (9 : Int) ^ i ≤ 6561 := fun i hi => by (rcases (show i = 0 ∨ i = 1 ∨ i = 2 ∨ i = 3 ∨ i = 4 by omega) with rfl | rfl | rfl | rfl | rfl) <;> decide
      have hm0 := mulb (a := f.shop.th - f.shop.tl + 1) (A := 401) (b := f.shop.ah - f.shop.al + 1) (B := 401) (by omega) (by omega) (by omega) (by omega)
      refine WP.skip (EX.then (WP.seq (WP.region ?_)))
      refine WPl.v rfl (o_fldp F31_0 rfl) ?_
      refine WPl.v rfl (o_fldp F28_0 rfl) ?_
      refine WPl.v rfl (o_fldp F25_1 rfl) ?_
      refine WPl.v rfl (o_fldp F23_1 rfl) ?_
      refine WPl.v rfl (o_ldp S3 rfl rfl rfl) ?_
      refine WPl.v rfl (o_fldp F31_0 rfl) ?_
      refine WPl.v rfl (o_fldp F28_0 rfl) ?_
      refine WPl.v rfl (o_fldp F25_1 rfl) ?_
      refine WPl.v rfl (o_fldp F23_0 rfl) ?_
      refine WPl.v rfl (o_ldp S3 rfl rfl rfl) ?_
      refine WPl.v rfl (o_sub rfl rfl (by first | omega | (simp; omega)) (by first | omega | (simp; omega))) ?_
      refine WPl.v rfl (o_add rfl rfl (by first | omega | (simp; omega)) (by first | omega | (simp; omega))) ?_
      refine WPl.v rfl (o_fldp F31_0 rfl) ?_
      refine WPl.v rfl (o_fldp F28_0 rfl) ?_
      refine WPl.v rfl (o_fldp F25_2 rfl) ?_
      refine WPl.v rfl (o_fldp F23_1 rfl) ?_
      refine WPl.v rfl (o_ldp S3 rfl rfl rfl) ?_
      refine WPl.v rfl (o_fldp F31_0 rfl) ?_
      refine WPl.v rfl (o_fldp F28_0 rfl) ?_
      refine WPl.v rfl (o_fldp F25_2 rfl) ?_
      refine WPl.v rfl (o_fldp F23_0 rfl) ?_
      refine WPl.v rfl (o_ldp S3 rfl rfl rfl) ?_
      refine WPl.v rfl (o_sub rfl rfl (by first | omega | (simp; omega)) (by first | omega | (simp; omega))) ?_
      refine WPl.v rfl (o_add rfl rfl (by first | omega | (simp; omega)) (by first | omega | (simp; omega))) ?_
      refine WPl.v rfl (o_mul rfl rfl (by first | omega | (simp; omega)) (by first | omega | (simp; omega))) ?_
      refine WPl.v rfl (o_assign rfl) ?_
      refine WPl.nil (EX.then (WP.seq (WP.seq (WP.region ?_))))
      refine WPl.v rfl (o_assign rfl) ?_
      refine WPl.nil (EX.then (WP.block ?_))
      refine WP.loop (Gh := Nat) (fun i => ⟨3, [(1, .e (.a (.p 2 (0)))), (2, .b (false)), (3, .i (f.farA i)), (4, .i ((i : Int)))], [(0, PL EPig (f.shop.pigs)), (1, PL ENight (f.nights))], [(2, .blk [ai (f.shop.pounds), ai (f.shop.tl), ai (f.shop.th), ai (f.shop.al), ai (f.shop.ah), ai (f.shop.room), ai (f.shop.tpl), ai (f.shop.tph), ai (f.shop.apl), ai (f.shop.aph), .q 0, .q 1] 31)], [], []⟩) (fun i => i ≤ f.nights.length) (fun i => f.nights.length - i) (0) id ?_ (LeR.of ⟨rfl, rfl, rfl, rfl, trivial⟩ ⟨(lx rfl), (lx rfl), trivial⟩ ⟨rfl, trivial⟩ rfl rfl rfl rfl rfl) ?_
      · first | trivial | omega | (constructor <;> omega) | simp
      intro i hφ
      have hi : i ≤ f.nights.length := hφ
      have hai := hab i (by omega)
      have hpi := hp10 i (by omega)
      refine WP.seq (WP.seq (WP.region ?_))
      refine WPl.v rfl (o_move rfl) ?_
      refine WPl.v rfl (o_fldp F31_1 rfl) ?_
      refine WPl.v rfl (o_ldp S29 rfl rfl rfl) ?_
      refine WPl.v rfl (o_lenq L29 rfl (lx rfl)) ?_
      refine WPl.v rfl (o_lss rfl rfl) ?_
      refine WPl.nil (EX.then ?_)
      refine WP.cond rfl (fun hc3 => ?_) (fun hc3 => ?_)
      · try simp only [cnd] at hc3
        refine WP.skip (EX.then (WP.seq (WP.block ?_)))
        refine WP.draw (nf := 5) [⟨[45, 46, 47, 48, 49, 50, 51, 52, 53, 54, 55, 56, 57, 58, 59, 60], [3, 4], [], [], []⟩, ⟨[44, 47, 52, 53, 54, 55, 56, 57, 58], [4], [], [], []⟩, ⟨[44, 47, 52, 53, 54, 55, 56, 57, 58], [4], [], [], [1]⟩, ⟨[44, 45, 46, 52, 53, 54, 55, 56, 57, 58], [4], [], [], []⟩, ⟨[44, 52, 53, 54, 55, 56, 57, 58], [4], [3], [3], [1, 2, 3]⟩, ⟨[44, 52, 53, 54, 55, 56, 57, 58], [4], [], [], [1, 2, 3, 4]⟩, ⟨[44, 52, 53, 54, 55, 56, 57, 58], [4], [], [], [1, 2, 3, 4, 5]⟩, ⟨[44, 52, 53, 54, 55, 56, 57, 58], [4], [], [], [1, 2, 3, 4, 5, 6]⟩, ⟨[44, 45, 46, 47, 48, 49, 50, 51, 54], [3], [], [], []⟩, ⟨[44, 45, 46, 47, 48, 49, 50, 51, 54], [3], [], [], [8]⟩, ⟨[44, 45, 46, 47, 48, 49, 50, 51, 52, 53], [3], [], [], []⟩, ⟨[44, 45, 46, 47, 48, 49, 50, 51], [3], [4], [4], [8, 9, 10]⟩, ⟨[44, 45, 46, 47, 48, 49, 50, 51], [3], [], [], [8, 9, 10, 11]⟩, ⟨[44, 45, 46, 47, 48, 49, 50, 51], [3], [], [], [8, 9, 10, 11, 12]⟩, ⟨[44, 45, 46, 47, 48, 49, 50, 51], [3], [], [], [8, 9, 10, 11, 12, 13]⟩, ⟨[44], [], [], [], [1, 2, 3, 4, 5, 6, 7, 8, 9, 10, 11, 12, 13, 14]⟩, ⟨[44], [], [], [], [1, 2, 3, 4, 5, 6, 7, 8, 9, 10, 11, 12, 13, 14, 15]⟩, ⟨[], [], [], [], [0, 1, 2, 3, 4, 5, 6, 7, 8, 9, 10, 11, 12, 13, 14, 15, 16]⟩, ⟨[], [], [], [], [0, 1, 2, 3, 4, 5, 6, 7, 8, 9, 10, 11, 12, 13, 14, 15, 16, 17]⟩] (by kernel_rfl) (by kernel_rfl) ?_
        refine DRQ.v rfl rfl rfl (o_move rfl) ?_
        refine DRQ.v rfl rfl rfl (o_fldp F31_1 rfl) ?_
        refine DRQ.v rfl rfl rfl (o_ldp S29 rfl rfl rfl) ?_
        refine DRQ.v rfl rfl rfl (o_move rfl) ?_
        refine DRQ.x 3 rfl rfl rfl rfl (o_idx L29 rfl (lx rfl) rfl (by first | omega | (simp; omega)) (by first | omega | (simp; omega))) ?_
        refine DRQ.v rfl rfl rfl (o_fldq F43_0 rfl (lx rfl)) ?_
        refine DRQ.v rfl rfl rfl (o_flde F23_1 rfl (lx rfl)) ?_
        refine DRQ.v rfl rfl rfl (o_lde S3 rfl (lx rfl) (strI rfl)) ?_
        refine DRQ.v rfl rfl rfl (o_fldp F31_1 rfl) ?_
        refine DRQ.v rfl rfl rfl (o_ldp S29 rfl rfl rfl) ?_
        refine DRQ.v rfl rfl rfl (o_move rfl) ?_
        refine DRQ.x 4 rfl rfl rfl rfl (o_idx L29 rfl (lx rfl) rfl (by first | omega | (simp; omega)) (by first | omega | (simp; omega))) ?_
        refine DRQ.v rfl rfl rfl (o_fldq F43_0 rfl (lx rfl)) ?_
        refine DRQ.v rfl rfl rfl (o_flde F23_0 rfl (lx rfl)) ?_
        refine DRQ.v rfl rfl rfl (o_lde S3 rfl (lx rfl) (strI rfl)) ?_
        have hnb := Night.bnds (hn.at (show i < f.nights.length by omega))
        have hms := hab (i + 1) (by omega)
        have hpi1 := hp10 (i + 1) (by omega)
        simp only [Fnd.farA] at hms
        refine DRQ.v rfl rfl rfl (o_sub rfl rfl (by first | omega | (simp; omega)) (by first | omega | (simp; omega))) ?_
        refine DRQ.v rfl rfl rfl (o_add rfl rfl (by first | omega | (simp; omega)) (by first | omega | (simp; omega))) ?_
        refine DRQ.v rfl rfl rfl (o_mul rfl rfl (by first | omega | (simp; omega)) (by first | omega | (simp; omega))) ?_
        refine DRQ.v rfl rfl rfl (o_assign rfl) ?_
        refine DRQ.nil' ?_
        refine EX.blk (EX.then (WP.region ?_))
        refine WPl.v rfl (o_move rfl) ?_
        refine WPl.v rfl (o_add rfl rfl (by first | omega | (simp; omega)) (by first | omega | (simp; omega))) ?_
        refine WPl.v rfl (o_assign rfl) ?_
        refine WPl.nil ?_
        refine EX.again (i + 1) id (by first | omega | (constructor <;> omega)) (by omega) (LeR.of ⟨rfl, rfl, rfl, rfl, trivial⟩ ⟨(lx rfl), (lx rfl), trivial⟩ ⟨rfl, trivial⟩ rfl rfl rfl rfl rfl)
      · try simp only [cnd] at hc3
        refine WP.exit (EX.exit_then (EX.exit_then (EX.exit_blk (EX.then (WP.seq (WP.seq (WP.region ?_)))))))
        refine WPl.v rfl (o_assign rfl) ?_
        refine WPl.nil (EX.then (WP.block ?_))
        refine WP.loop (Gh := Nat) (fun k => ⟨3, [(1, .e (.a (.p 2 (0)))), (2, .b (false)), (3, .i (f.farK k)), (5, .i ((k : Int)))], [(0, PL EPig (f.shop.pigs)), (1, PL ENight (f.nights))], [(2, .blk [ai (f.shop.pounds), ai (f.shop.tl), ai (f.shop.th), ai (f.shop.al), ai (f.shop.ah), ai (f.shop.room), ai (f.shop.tpl), ai (f.shop.tph), ai (f.shop.apl), ai (f.shop.aph), .q 0, .q 1] 31)], [], []⟩) (fun k => k ≤ f.shop.pigs.length) (fun k => f.shop.pigs.length - k) (0) id ?_ (LeR.of ⟨rfl, rfl, (congrArg (fun z => some (SV.i z)) (show (f.farA i) = ((fun k => f.farK k) 0) from by rw [show i = f.nights.length by omega]; rfl)), rfl, trivial⟩ ⟨(lx rfl), (lx rfl), trivial⟩ ⟨rfl, trivial⟩ rfl rfl rfl rfl rfl) ?_
        · first | trivial | omega | (constructor <;> omega) | simp
        intro k hφ
        have hk : k ≤ f.shop.pigs.length := hφ
        refine WP.seq (WP.seq (WP.region ?_))
        refine WPl.v rfl (o_move rfl) ?_
        refine WPl.v rfl (o_fldp F31_0 rfl) ?_
        refine WPl.v rfl (o_fldp F28_4 rfl) ?_
        refine WPl.v rfl (o_ldp S26 rfl rfl rfl) ?_
        refine WPl.v rfl (o_lenq L26 rfl (lx rfl)) ?_
        refine WPl.v rfl (o_lss rfl rfl) ?_
        refine WPl.v rfl (o_move rfl) ?_
        refine WPl.bit 3 4 (decide ((k : Int) < (f.shop.pigs.length : Int))) rfl rfl ?_
        refine WPl.gv 3 rfl rfl (.plain rfl Iff.rfl rfl) (fun hb => o_move rfl) ?_
        refine WPl.gv 3 rfl rfl (.plain rfl Iff.rfl rfl) (fun hb => o_leq rfl rfl) ?_
        refine WPl.v rfl (o_and rfl rfl rfl id) ?_
        refine WPl.nil (EX.then ?_)
        refine WP.cond rfl (fun hc4 => ?_) (fun hc4 => ?_)
        · try simp only [cnd] at hc4
          refine WP.skip (EX.then (WP.seq (WP.block (WP.seq (WP.region ?_)))))
          refine WPl.v rfl (o_assign rfl) ?_
          refine WPl.nil (EX.then (WP.block ?_))
          refine WP.loop (Gh := Nat) (fun j => ⟨4, [(1, .e (.a (.p 2 (0)))), (2, .b (false)), (3, .i (farI (nth f.shop.pigs k).many (f.farK k) j)), (5, .i ((k : Int))), (62, .i ((k : Int))), (63, .e (.a (.p 2 (0)))), (64, .e (.a (.p 2 (10)))), (65, .e (.a (.q 0))), (66, .i ((f.shop.pigs.length : Int))), (67, .b (decide ((k : Int) < (f.shop.pigs.length : Int)))), (68, .b (decide ((k : Int) < (f.shop.pigs.length : Int)))), (71, .b ((decide ((k : Int) < (f.shop.pigs.length : Int))) && (decide ((f.farK k) ≤ 3000)))), (6, .i ((j : Int) + 1))], [(0, PL EPig (f.shop.pigs)), (1, PL ENight (f.nights))], [(2, .blk [ai (f.shop.pounds), ai (f.shop.tl), ai (f.shop.th), ai (f.shop.al), ai (f.shop.ah), ai (f.shop.room), ai (f.shop.tpl), ai (f.shop.tph), ai (f.shop.apl), ai (f.shop.aph), .q 0, .q 1] 31)], [], []⟩) (fun j => j ≤ f.nights.length) (fun j => f.nights.length - j) (0) id ?_ (LeR.of ⟨rfl, rfl, rfl, rfl, rfl, rfl, rfl, rfl, rfl, rfl, rfl, rfl, (congrArg (fun z => some (SV.i z)) (show (1) = ((fun j => (j : Int) + 1) 0) from by simp)), trivial⟩ ⟨(lx rfl), (lx rfl), trivial⟩ ⟨rfl, trivial⟩ rfl rfl rfl rfl rfl) ?_
          · first | trivial | omega | (constructor <;> omega) | simp
          intro j hφ
          have hj : j ≤ f.nights.length := hφ
          refine WP.seq (WP.seq (WP.region ?_))
          refine WPl.v rfl (o_move rfl) ?_
          refine WPl.v rfl (o_fldp F31_1 rfl) ?_
          refine WPl.v rfl (o_ldp S29 rfl rfl rfl) ?_
          refine WPl.v rfl (o_lenq L29 rfl (lx rfl)) ?_
          refine WPl.v rfl (o_leq rfl rfl) ?_
          refine WPl.nil (EX.then ?_)
          refine WP.cond rfl (fun hc5 => ?_) (fun hc5 => ?_)
          · try simp only [cnd] at hc5
            refine WP.skip (EX.then (WP.seq (WP.block (WP.region ?_))))
            refine WPl.v rfl (o_move rfl) ?_
            refine WPl.v rfl (o_fldp F31_0 rfl) ?_
            refine WPl.v rfl (o_fldp F28_4 rfl) ?_
            refine WPl.v rfl (o_ldp S26 rfl rfl rfl) ?_
            refine WPl.v rfl (o_move rfl) ?_
            refine WPl.x 4 5 rfl rfl rfl (o_idx L26 rfl (lx rfl) rfl (by first | omega | (simp; omega)) (by first | omega | (simp; omega))) ?_
            refine WPl.v rfl (o_fldq F53_4 rfl (lx rfl)) ?_
            have hkb := Pig.bnds (hpg.at (show k < f.shop.pigs.length by omega))
            have hk0 : 0 ≤ f.farK k := farK_nonneg hf (by omega)
            have hij := farI_bnd (many := (nth f.shop.pigs k).many) (n := f.farK k) (by omega) (by omega) hk0 (by omega) j (by omega)
            have hp9j := hp9 j (by omega)
            have hmm := mulb (a := farI (nth f.shop.pigs k).many (f.farK k) j) (A := 20000000) (b := (nth f.shop.pigs k).many + ((j : Int) + 1)) (B := 10) (by omega) (by omega) (by omega) (by omega)
            have hq0 := Int.tdiv_nonneg hmm.1 (show (0 : Int) ≤ (j : Int) + 1 by omega)
            have hq1 := Int.tdiv_le_self ((j : Int) + 1) hmm.1
            refine WPl.v rfl (o_lde S3 rfl (lx rfl) (strI rfl)) ?_
            refine WPl.v rfl (o_move rfl) ?_
            refine WPl.v rfl (o_add rfl rfl (by first | omega | (simp; omega)) (by first | omega | (simp; omega))) ?_
            refine WPl.v rfl (o_mul rfl rfl (by first | omega | (simp; omega)) (by first | omega | (simp; omega))) ?_
            refine WPl.v rfl (o_move rfl) ?_
            refine WPl.v rfl (o_quo rfl rfl (by first | omega | (simp; omega)) (by first | omega | (simp; omega)) (by first | omega | (simp; omega))) ?_
            refine WPl.v rfl (o_assign rfl) ?_
            refine WPl.nil (EX.blk (EX.then (WP.region ?_)))
            refine WPl.v rfl (o_move rfl) ?_
            refine WPl.v rfl (o_add rfl rfl (by first | omega | (simp; omega)) (by first | omega | (simp; omega))) ?_
            refine WPl.v rfl (o_assign rfl) ?_
            refine WPl.nil ?_
            refine EX.again (j + 1) id (by first | omega | (constructor <;> omega)) (by omega) (LeR.of ⟨rfl, rfl, rfl, rfl, rfl, rfl, rfl, rfl, rfl, rfl, rfl, rfl, (congrArg (fun z => some (SV.i z)) (show (((j : Int) + 1) + 1) = ((fun j => (j : Int) + 1) (j + 1)) from by show (j : Int) + 1 + 1 = ((j + 1 : Nat) : Int) + 1; omega)), trivial⟩ ⟨(lx rfl), (lx rfl), trivial⟩ ⟨rfl, trivial⟩ rfl rfl rfl rfl rfl)
          · try simp only [cnd] at hc5
            refine WP.exit (EX.exit_then (EX.exit_then (EX.exit_blk (EX.blk (EX.then (WP.region ?_))))))
            refine WPl.v rfl (o_move rfl) ?_
            refine WPl.v rfl (o_add rfl rfl (by first | omega | (simp; omega)) (by first | omega | (simp; omega))) ?_
            refine WPl.v rfl (o_assign rfl) ?_
            refine WPl.nil ?_
            refine EX.again (k + 1) id (by first | omega | (constructor <;> omega)) (by omega) (LeR.of ⟨rfl, rfl, (congrArg (fun z => some (SV.i z)) (show (farI (nth f.shop.pigs k).many (f.farK k) j) = ((fun k => f.farK k) (k + 1)) from by rw [show j = f.nights.length by omega]; simp only [Fnd.farK]; rw [if_pos (by omega)])), rfl, trivial⟩ ⟨(lx rfl), (lx rfl), trivial⟩ ⟨rfl, trivial⟩ rfl rfl rfl rfl rfl)
        · try simp only [cnd] at hc4
          refine WP.exit (EX.exit_then (EX.exit_then (EX.exit_blk (EX.then (WP.seq (WP.region ?_))))))
          refine WPl.v rfl (o_move rfl) ?_
          refine WPl.v rfl (o_gtr rfl rfl) ?_
          refine WPl.v rfl (o_assign rfl) ?_
          refine WPl.nil (EX.then (WP.ret ?_))
          rw [show f.far = decide (3000 < f.farK k) from by simp only [Fnd.far, hnh, hf, Bool.false_or, Bool.true_and]; rw [farK_stop hf (k := k) (by omega) (by omega)]]
          exact EX.fin id (.inl rfl) rfl (.tmp rfl .nil) rfl (by simp [SV.res, El.res, At.res, keys]) trivial (by simp) (by simp)
theorem w23  : ∀ x ∈ ([] : List SV), x.res (keys (α := Pred) []) := by simp [SV.res, El.res, At.res, keys]
theorem r23  : SV.res (keys (α := Pred) [(0, PL EPig (exW.shop.pigs)), (1, PL ENight (exW.nights)), (2, PL EPig (exU.shop.pigs)), (3, PL ENight (exU.nights)), (4, PL EPig (exV.shop.pigs)), (5, PL ENight (exV.nights))]) (.t [.g [ai (exW.shop.pounds), ai (exW.shop.tl), ai (exW.shop.th), ai (exW.shop.al), ai (exW.shop.ah), ai (exW.shop.room), ai (exW.shop.tpl), ai (exW.shop.tph), ai (exW.shop.apl), ai (exW.shop.aph), .q 0, .q 1], .g [ai (exU.shop.pounds), ai (exU.shop.tl), ai (exU.shop.th), ai (exU.shop.al), ai (exU.shop.ah), ai (exU.shop.room), ai (exU.shop.tpl), ai (exU.shop.tph), ai (exU.shop.apl), ai (exU.shop.aph), .q 2, .q 3], .g [ai (exV.shop.pounds), ai (exV.shop.tl), ai (exV.shop.th), ai (exV.shop.al), ai (exV.shop.ah), ai (exV.shop.room), ai (exV.shop.tpl), ai (exV.shop.tph), ai (exV.shop.apl), ai (exV.shop.aph), .q 4, .q 5]]) := by simp [SV.res, El.res, At.res, keys]
set_option maxHeartbeats 4000000 in
theorem c23   : Sig Try.prog 23 [] [] (.t [.g [ai (exW.shop.pounds), ai (exW.shop.tl), ai (exW.shop.th), ai (exW.shop.al), ai (exW.shop.ah), ai (exW.shop.room), ai (exW.shop.tpl), ai (exW.shop.tph), ai (exW.shop.apl), ai (exW.shop.aph), .q 0, .q 1], .g [ai (exU.shop.pounds), ai (exU.shop.tl), ai (exU.shop.th), ai (exU.shop.al), ai (exU.shop.ah), ai (exU.shop.room), ai (exU.shop.tpl), ai (exU.shop.tph), ai (exU.shop.apl), ai (exU.shop.aph), .q 2, .q 3], .g [ai (exV.shop.pounds), ai (exV.shop.tl), ai (exV.shop.th), ai (exV.shop.al), ai (exV.shop.ah), ai (exV.shop.room), ai (exV.shop.tpl), ai (exV.shop.tph), ai (exV.shop.apl), ai (exV.shop.aph), .q 4, .q 5]]) [(0, PL EPig (exW.shop.pigs)), (1, PL ENight (exW.nights)), (2, PL EPig (exU.shop.pigs)), (3, PL ENight (exU.nights)), (4, PL EPig (exV.shop.pigs)), (5, PL ENight (exV.nights))] := by
  refine Sig.intro Try.func23 rfl 0 [] rfl w23 rfl rfl fun I w => ?_
  refine WP.seq (WP.region ?_)
  refine WPl.l 0 1 rfl rfl rfl (o_alloc Z31) ?_
  refine WPl.l 1 2 rfl rfl rfl (o_alloc Z31) ?_
  refine WPl.l 2 3 rfl rfl rfl (o_alloc Z31) ?_
  refine WPl.nil (EX.then (WP.seq (WP.region ?_)))
  refine WPl.v rfl (o_build B23 rfl ⟨rfl, rfl, trivial⟩ rfl rfl) ?_
  refine WPl.v rfl (o_build B23 rfl ⟨rfl, rfl, trivial⟩ rfl rfl) ?_
  refine WPl.v rfl (o_build B25 rfl ⟨rfl, trivial⟩ rfl rfl) ?_
  refine WPl.v rfl (o_build B23 rfl ⟨rfl, rfl, trivial⟩ rfl rfl) ?_
  refine WPl.v rfl (o_build B23 rfl ⟨rfl, rfl, trivial⟩ rfl rfl) ?_
  refine WPl.v rfl (o_build B53 rfl ⟨rfl, rfl, rfl, rfl, rfl, trivial⟩ rfl rfl) ?_
  refine WPl.x 3 4 rfl rfl rfl (OpG.settle0 (o_bsl (E := EPig) (l := [(⟨10, 3, 1, 20, 2⟩ : Pig)]) R26 rfl rfl (.cons (⟨rfl, rfl, rfl, rfl, rfl, trivial⟩) rfl (eok_str ⟨rfl, rfl, rfl, rfl, rfl, trivial⟩) (.nil)) rfl rfl)) ?_
  refine WPl.v rfl (o_build B28 rfl ⟨rfl, (.inl ⟨_, (lx rfl), PL.one⟩), trivial⟩ rfl rfl) ?_
  refine WPl.v rfl (o_build B23 rfl ⟨rfl, rfl, trivial⟩ rfl rfl) ?_
  refine WPl.v rfl (o_build B43 rfl trivial rfl rfl) ?_
  refine WPl.v rfl (o_build B23 rfl ⟨rfl, rfl, trivial⟩ rfl rfl) ?_
  refine WPl.v rfl (o_build B43 rfl trivial rfl rfl) ?_
  refine WPl.v rfl (o_build B23 rfl ⟨rfl, rfl, trivial⟩ rfl rfl) ?_
  refine WPl.v rfl (o_build B43 rfl trivial rfl rfl) ?_
  refine WPl.x 4 5 rfl rfl rfl (OpG.settle0 (o_bsl (E := ENight) (l := [(⟨1, 2, 0⟩ : Night), (⟨1, 1, 0⟩ : Night), (⟨1, 2, 0⟩ : Night)]) R29 rfl rfl (.cons (⟨rfl, rfl, rfl, trivial⟩) rfl (eok_str ⟨rfl, rfl, rfl, trivial⟩) (.cons (⟨rfl, rfl, rfl, trivial⟩) rfl (eok_str ⟨rfl, rfl, rfl, trivial⟩) (.cons (⟨rfl, rfl, rfl, trivial⟩) rfl (eok_str ⟨rfl, rfl, rfl, trivial⟩) (.nil)))) rfl rfl)) ?_
  refine WPl.v rfl (o_build B31 rfl ⟨(.inl ⟨_, (lx rfl), PL.one⟩), trivial⟩ rfl rfl) ?_
  refine WPl.s1 (o_stag G31 rfl rfl rfl ⟨rfl, rfl, rfl, rfl, rfl, rfl, rfl, rfl, rfl, rfl, (.inl ⟨_, (lx rfl), PL.one⟩), (.inl ⟨_, (lx rfl), PL.one⟩), trivial⟩ rfl rfl) ?_
  refine WPl.nil (EX.then (WP.seq (WP.region ?_)))
  refine WPl.v rfl (o_ldpa G31 rfl rfl rfl) ?_
  refine WPl.cs 7 rfl rfl rfl rfl (o_sig 5 (ren [(0, 3), (1, 4)]) (c8 exW (by decide) (by decide)) e8 rfl rfl rfl w8 ⟨(lx rfl), (lx rfl), trivial⟩ r8) ?_
  refine WPl.s1 (o_stag G31 rfl rfl rfl ⟨rfl, rfl, rfl, rfl, rfl, rfl, rfl, rfl, rfl, rfl, (.inl ⟨_, (lx rfl), PL.one⟩), (.inl ⟨_, (lx rfl), PL.one⟩), trivial⟩ rfl rfl) ?_
  refine WPl.nil (EX.then (WP.seq (WP.region ?_)))
  refine WPl.v rfl (o_fldp F31_0 rfl) ?_
  refine WPl.v rfl (o_fldp F28_2 rfl) ?_
  refine WPl.v rfl (o_fldp F23_1 rfl) ?_
  refine WPl.s1 (o_sta S3 rfl rfl rfl rfl rfl) ?_
  refine WPl.nil (EX.then (WP.seq ?_))
  refine WP.draw (nf := 9) [⟨[25, 26, 27], [7, 8], [], [], []⟩, ⟨[24, 26, 27], [0, 7, 8], [], [], []⟩, ⟨[24, 25], [], [], [], []⟩, ⟨[24, 25], [], [7, 8], [7, 8], [2]⟩, ⟨[25], [], [], [0], [0, 2, 3]⟩, ⟨[], [], [], [1], [0, 1, 2, 3, 4]⟩, ⟨[], [], [], [2], [0, 1, 2, 3, 4, 5]⟩] (by kernel_rfl) (by kernel_rfl) ?_
  refine DRQ.v rfl rfl rfl (o_ldpa G31 rfl rfl rfl) ?_
  refine DRQ.v rfl rfl rfl (o_ldpa G31 rfl rfl rfl) ?_
  refine DRQ.v rfl rfl rfl (o_ldpa G31 rfl rfl rfl) ?_
  refine DRQ.cs rfl rfl rfl rfl (o_sig 7 (ren [(0, 5), (1, 6)]) (c46 exU 2 ex_chk.2.1 (by decide)) e46 rfl rfl rfl w46 ⟨(lx rfl), (lx rfl), trivial⟩ r46) ?_
  refine DRQ.s 0 rfl rfl rfl (o_stag G31 rfl rfl rfl ⟨rfl, rfl, rfl, rfl, rfl, rfl, rfl, rfl, rfl, rfl, (.inl ⟨_, (lx rfl), PL.one⟩), (.inl ⟨_, (lx rfl), PL.one⟩), trivial⟩ rfl rfl) ?_
  refine DRQ.s 1 rfl rfl rfl (o_stag G31 rfl rfl rfl ⟨rfl, rfl, rfl, rfl, rfl, rfl, rfl, rfl, rfl, rfl, (.inl ⟨_, (lx rfl), PL.one⟩), (.inl ⟨_, (lx rfl), PL.one⟩), trivial⟩ rfl rfl) ?_
  refine DRQ.s 2 rfl rfl rfl (o_stag G31 rfl rfl rfl ⟨rfl, rfl, rfl, rfl, rfl, rfl, rfl, rfl, rfl, rfl, (.inl ⟨_, (lx rfl), PL.one⟩), (.inl ⟨_, (lx rfl), PL.one⟩), trivial⟩ rfl rfl) ?_
  refine DRQ.nil' ?_
  refine EX.then (WP.ret ?_)
  exact EX.fin (ren [(0, 3), (1, 4), (2, 5), (3, 6), (4, 7), (5, 8)]) (.inl rfl) rfl (.cellg G31 rfl rfl rfl (.cellg G31 rfl rfl rfl (.cellg G31 rfl rfl rfl (.nil)))) rfl r23 ⟨(lx rfl), (lx rfl), (lx rfl), (lx rfl), (lx rfl), (lx rfl), trivial⟩ (by simp) (by simp)
end Go.Flong
namespace Go.Flong
open Go Go.Eng
def adItemT (row : List Int) : Eng.Item := ⟨[.e (.a (.q 0))], [(0, PT EP.int row 3)], []⟩
def Shop.adItemsT (s : Shop) : List Eng.Item := (List.range s.adL.length).map fun (i : Nat) => adItemT (nth s.adL (i : Int))
section
variable {s : Shop}
theorem adIdx_atT {i : Nat} (hi : i < s.adBox.length) (h : isAdd s (nth s.adBox i) = true) : s.adItemsT[s.adIdx i]? = some (adItemT (nth s.adBox i)) := by
  rw [nthN hi] at h ⊢
  have h1 := filter_at hi h
  have h2 := (List.getElem?_eq_some_iff.1 h1).1
  rw [Shop.adItemsT, range_at (show s.adIdx i < s.adL.length from h2)]
  congr 2
  exact (nthN (show s.adIdx i < s.adL.length from h2)).trans (List.getElem?_eq_some_iff.1 h1).2
theorem adIdx_endT : s.adIdx s.adBox.length = s.adItemsT.length := by
  rw [adIdx_end]; simp [Shop.adItems, Shop.adItemsT]
end
end Go.Flong
namespace Go.Flong
open Go Go.Eng Go.Proofs
theorem F72_0 : Fld Try.prog 72 0 0 := .mk Try.underlying72 rfl rfl rfl Try.sizeOf28 rfl
abbrev PigQ (q : Pig → Int) : Pred := Pred.all fun (x : Pig) => FvP Try.prog [.e (.g [ai (x.pounds), ai (x.tin), ai (x.ant), ai (x.pence), ai (x.many)])] [] (.i (q x)) []
theorem e52 : Enters' Try.prog 52 := Try.call52
theorem G72 : TyG Try.prog 72 11 := ⟨Try.isAgg72, Try.sizeOf72⟩
theorem e50 : Enters' Try.prog 50 := Try.call50
theorem Z25 : Zero Try.prog 25 [ai (0), ai (0), ai (0), ai (0), ai (0)] := .mk Try.zeroValue25 rfl rfl
theorem e56 : Enters' Try.prog 56 := Try.call56
theorem e57 : Enters' Try.prog 57 := Try.call57
theorem e55 : Enters' Try.prog 55 := Try.call55
theorem e70 : Enters' Try.prog 70 := Try.call70
theorem e71 : Enters' Try.prog 71 := Try.call71
theorem Z72 : Zero Try.prog 72 [ai (0), ai (0), ai (0), ai (0), ai (0), ai (0), ai (0), ai (0), ai (0), ai (0), .v (.slice none 0 0)] := .mk Try.zeroValue72 rfl rfl
theorem B72 : BldT Try.prog 72 [(0, 11)] [.int .i64 0, .int .i64 0, .int .i64 0, .int .i64 0, .int .i64 0, .int .i64 0, .int .i64 0, .int .i64 0, .int .i64 0, .int .i64 0, .slice none 0 0] := BldT.mk (ns := [11]) Try.underlying72 ⟨Try.sizeOf28, trivial⟩ rfl Try.zeroValue72 rfl
abbrev IsS (s : Shop) (v : Bool) : Pred := FvP Try.prog [.e (.g [ai (s.pounds), ai (s.tl), ai (s.th), ai (s.al), ai (s.ah), ai (s.room), ai (s.tpl), ai (s.tph), ai (s.apl), ai (s.aph), .q 0])] [(0, PL EPig (s.pigs))] (.b (v)) []
theorem e32 : Enters' Try.prog 32 := Try.call32
theorem e51 : Enters' Try.prog 51 := Try.call51
theorem e79 : Enters' Try.prog 79 := Try.call79
theorem e72 : Enters' Try.prog 72 := Try.call72
theorem e30 : Enters' Try.prog 30 := Try.call30
theorem e47 : Enters' Try.prog 47 := Try.call47
theorem S69 : TyS Try.prog 69 := ⟨Try.isAgg69, Try.sizeOf69⟩
abbrev OfM (s : Shop) (g : List Int → List Int) : Pred := Pred.all fun (x : AdL s) => FvP Try.prog [.e (.g [ai (s.pounds), ai (s.tl), ai (s.th), ai (s.al), ai (s.ah), ai (s.room), ai (s.tpl), ai (s.tph), ai (s.apl), ai (s.aph), .q 0]), .e (.a (.q 1))] [(0, PL EPig (s.pigs)), (1, PL EP.int (x.1))] (.e (.a (.q 0))) [(0, PL EP.int (g x.1))]
theorem e33 : Enters' Try.prog 33 := Try.call33
theorem e48 : Enters' Try.prog 48 := Try.call48
theorem e49 : Enters' Try.prog 49 := Try.call49
theorem w52 {p : Pig} : ∀ x ∈ ([.e (.g [ai (p.pounds), ai (p.tin), ai (p.ant), ai (p.pence), ai (p.many)])] : List SV), x.res (keys (α := Pred) []) := by simp [SV.res, El.res, At.res, keys]
theorem r52 {p : Pig} : SV.res (keys (α := Pred) []) (.i (p.pounds)) := by simp [SV.res, El.res, At.res, keys]
set_option maxHeartbeats 4000000 in
theorem c52 (p : Pig)  : Sig Try.prog 52 [.e (.g [ai (p.pounds), ai (p.tin), ai (p.ant), ai (p.pence), ai (p.many)])] [] (.i (p.pounds)) [] := by
  refine Sig.intro Try.func52 rfl 0 [(0, .e (.g [ai (p.pounds), ai (p.tin), ai (p.ant), ai (p.pence), ai (p.many)]))] rfl w52 rfl rfl fun I w => ?_
  refine WP.seq (WP.region ?_)
  refine WPl.l 0 1 rfl rfl rfl (o_boxg rfl) ?_
  refine WPl.v rfl (o_assign rfl) ?_
  refine WPl.nil (EX.then (WP.seq (WP.region ?_)))
  refine WPl.v rfl (o_fldp F53_0 rfl) ?_
  refine WPl.v rfl (o_ldp S3 rfl rfl rfl) ?_
  refine WPl.v rfl (o_assign rfl) ?_
  refine WPl.nil (EX.then (WP.ret ?_))
  exact EX.fin id (.inl rfl) rfl (.tmp rfl .nil) rfl r52 trivial (by simp) (by simp)
theorem w56 {p : Pig} : ∀ x ∈ ([.e (.g [ai (p.pounds), ai (p.tin), ai (p.ant), ai (p.pence), ai (p.many)])] : List SV), x.res (keys (α := Pred) []) := by simp [SV.res, El.res, At.res, keys]
theorem r56 {p : Pig} : SV.res (keys (α := Pred) []) (.i (p.tin)) := by simp [SV.res, El.res, At.res, keys]
set_option maxHeartbeats 4000000 in
theorem c56 (p : Pig)  : Sig Try.prog 56 [.e (.g [ai (p.pounds), ai (p.tin), ai (p.ant), ai (p.pence), ai (p.many)])] [] (.i (p.tin)) [] := by
  refine Sig.intro Try.func56 rfl 0 [(0, .e (.g [ai (p.pounds), ai (p.tin), ai (p.ant), ai (p.pence), ai (p.many)]))] rfl w56 rfl rfl fun I w => ?_
  refine WP.seq (WP.region ?_)
  refine WPl.l 0 1 rfl rfl rfl (o_boxg rfl) ?_
  refine WPl.v rfl (o_assign rfl) ?_
  refine WPl.nil (EX.then (WP.seq (WP.region ?_)))
  refine WPl.v rfl (o_fldp F53_1 rfl) ?_
  refine WPl.v rfl (o_ldp S3 rfl rfl rfl) ?_
  refine WPl.v rfl (o_assign rfl) ?_
  refine WPl.nil (EX.then (WP.ret ?_))
  exact EX.fin id (.inl rfl) rfl (.tmp rfl .nil) rfl r56 trivial (by simp) (by simp)
theorem w57 {p : Pig} : ∀ x ∈ ([.e (.g [ai (p.pounds), ai (p.tin), ai (p.ant), ai (p.pence), ai (p.many)])] : List SV), x.res (keys (α := Pred) []) := by simp [SV.res, El.res, At.res, keys]
theorem r57 {p : Pig} : SV.res (keys (α := Pred) []) (.i (p.ant)) := by simp [SV.res, El.res, At.res, keys]
set_option maxHeartbeats 4000000 in
theorem c57 (p : Pig)  : Sig Try.prog 57 [.e (.g [ai (p.pounds), ai (p.tin), ai (p.ant), ai (p.pence), ai (p.many)])] [] (.i (p.ant)) [] := by
  refine Sig.intro Try.func57 rfl 0 [(0, .e (.g [ai (p.pounds), ai (p.tin), ai (p.ant), ai (p.pence), ai (p.many)]))] rfl w57 rfl rfl fun I w => ?_
  refine WP.seq (WP.region ?_)
  refine WPl.l 0 1 rfl rfl rfl (o_boxg rfl) ?_
  refine WPl.v rfl (o_assign rfl) ?_
  refine WPl.nil (EX.then (WP.seq (WP.region ?_)))
  refine WPl.v rfl (o_fldp F53_2 rfl) ?_
  refine WPl.v rfl (o_ldp S3 rfl rfl rfl) ?_
  refine WPl.v rfl (o_assign rfl) ?_
  refine WPl.nil (EX.then (WP.ret ?_))
  exact EX.fin id (.inl rfl) rfl (.tmp rfl .nil) rfl r57 trivial (by simp) (by simp)
theorem w51 {p : Pig} : ∀ x ∈ ([.e (.g [ai (p.pounds), ai (p.tin), ai (p.ant), ai (p.pence), ai (p.many)])] : List SV), x.res (keys (α := Pred) []) := by simp [SV.res, El.res, At.res, keys]
theorem r51 {p : Pig} : SV.res (keys (α := Pred) []) (.i (p.pence)) := by simp [SV.res, El.res, At.res, keys]
set_option maxHeartbeats 4000000 in
theorem c51 (p : Pig)  : Sig Try.prog 51 [.e (.g [ai (p.pounds), ai (p.tin), ai (p.ant), ai (p.pence), ai (p.many)])] [] (.i (p.pence)) [] := by
  refine Sig.intro Try.func51 rfl 0 [(0, .e (.g [ai (p.pounds), ai (p.tin), ai (p.ant), ai (p.pence), ai (p.many)]))] rfl w51 rfl rfl fun I w => ?_
  refine WP.seq (WP.region ?_)
  refine WPl.l 0 1 rfl rfl rfl (o_boxg rfl) ?_
  refine WPl.v rfl (o_assign rfl) ?_
  refine WPl.nil (EX.then (WP.seq (WP.region ?_)))
  refine WPl.v rfl (o_fldp F53_3 rfl) ?_
  refine WPl.v rfl (o_ldp S3 rfl rfl rfl) ?_
  refine WPl.v rfl (o_assign rfl) ?_
  refine WPl.nil (EX.then (WP.ret ?_))
  exact EX.fin id (.inl rfl) rfl (.tmp rfl .nil) rfl r51 trivial (by simp) (by simp)
theorem w50 {s : Shop} {add : List Int} {q : Pig → Int} : ∀ x ∈ ([.e (.g [ai (s.pounds), ai (s.tl), ai (s.th), ai (s.al), ai (s.ah), ai (s.room), ai (s.tpl), ai (s.tph), ai (s.apl), ai (s.aph), .q 0]), .e (.a (.q 1)), .e (.a (.q 2))] : List SV), x.res (keys (α := Pred) [(0, PL EPig (s.pigs)), (1, PL EP.int (add)), (2, PigQ q)]) := by simp [SV.res, El.res, At.res, keys]
theorem r50 {s : Shop} {add : List Int} {q : Pig → Int} : SV.res (keys (α := Pred) []) (.i (sumOf q s.pigs add)) := by simp [SV.res, El.res, At.res, keys]
set_option maxHeartbeats 4000000 in
theorem c50 (s : Shop) (add : List Int) (q : Pig → Int) (hs : PigsOK s.pigs) (ha : bnd add 1000) (hl : add.length ≤ s.pigs.length) (hq : ∀ p : Pig, p.chk = true → 0 ≤ q p ∧ q p ≤ 99) : Sig Try.prog 50 [.e (.g [ai (s.pounds), ai (s.tl), ai (s.th), ai (s.al), ai (s.ah), ai (s.room), ai (s.tpl), ai (s.tph), ai (s.apl), ai (s.aph), .q 0]), .e (.a (.q 1)), .e (.a (.q 2))] [(0, PL EPig (s.pigs)), (1, PL EP.int (add)), (2, PigQ q)] (.i (sumOf q s.pigs add)) [] := by
  have hl2 := hs.2
  have hf : ∀ j : Nat, j < add.length → 0 ≤ q (nth s.pigs j) ∧ q (nth s.pigs j) ≤ 99 := fun j hj => hq _ (hs.at (show j < s.pigs.length by omega))
  have hsum := sumTo_bnd (f := q) ha hf
  refine Sig.intro Try.func50 rfl 3 [(0, .e (.g [ai (s.pounds), ai (s.tl), ai (s.th), ai (s.al), ai (s.ah), ai (s.room), ai (s.tpl), ai (s.tph), ai (s.apl), ai (s.aph), .q 0])), (1, .e (.a (.q 1))), (2, .e (.a (.q 2)))] rfl w50 rfl rfl fun I w => ?_
  refine WP.seq (WP.region ?_)
  refine WPl.l 3 4 rfl rfl rfl (o_boxg rfl) ?_
  refine WPl.v rfl (o_assign rfl) ?_
  refine WPl.nil (EX.then (WP.seq (WP.region ?_)))
  refine WPl.v rfl (o_assign rfl) ?_
  refine WPl.nil (EX.then (WP.seq (WP.seq (WP.region ?_))))
  refine WPl.v rfl (o_move rfl) ?_
  refine WPl.v rfl (o_lenq L32 rfl (lx rfl)) ?_
  refine WPl.v rfl (o_move rfl) ?_
  refine WPl.nil (EX.then (WP.block ?_))
  refine WP.loop (Gh := Nat) (fun i => ⟨4, [(2, .e (.a (.q 2))), (3, .e (.a (.p 3 (0)))), (6, .i (0)), (7, .i (sumTo q s.pigs add i)), (10, .e (.a (.q 1))), (11, .i ((add.length : Int))), (12, .i ((i : Int)))], [(0, PL EPig (s.pigs)), (1, PL EP.int (add)), (2, PigQ q)], [(3, .blk [ai (s.pounds), ai (s.tl), ai (s.th), ai (s.al), ai (s.ah), ai (s.room), ai (s.tpl), ai (s.tph), ai (s.apl), ai (s.aph), .q 0] 72)], [], []⟩) (fun i => i ≤ add.length) (fun i => add.length - i) (0) id ?_ (LeR.of ⟨rfl, rfl, rfl, rfl, rfl, rfl, rfl, trivial⟩ ⟨(lx rfl), (lx rfl), (lx rfl), trivial⟩ ⟨rfl, trivial⟩ rfl rfl rfl rfl rfl) ?_
  · first | trivial | omega | (constructor <;> omega) | simp
  intro i hφ
  have hi : i ≤ add.length := hφ
  refine WP.seq (WP.region ?_)
  refine WPl.v rfl (o_lss rfl rfl) ?_
  refine WPl.nil (EX.then (WP.seq ?_))
  refine WP.cond rfl (fun hc1 => ?_) (fun hc1 => ?_)
  · try simp only [cnd] at hc1
    refine WP.skip (EX.then (WP.seq (WP.block (WP.seq (WP.region ?_)))))
    refine WPl.v rfl (o_move rfl) ?_
    refine WPl.x 4 5 rfl rfl rfl (o_idx L32 rfl (lx rfl) rfl (by first | omega | (simp; omega)) (by first | omega | (simp; omega))) ?_
    refine WPl.v rfl (o_ldq S3 rfl (lx rfl) intc) ?_
    refine WPl.v rfl (o_assign rfl) ?_
    refine WPl.v rfl (o_assign rfl) ?_
    refine WPl.nil (EX.then (WP.region ?_))
    refine WPl.v rfl (o_move rfl) ?_
    refine WPl.v rfl (o_move rfl) ?_
    refine WPl.v rfl (o_move rfl) ?_
    refine WPl.v rfl (o_fldp F72_0 rfl) ?_
    refine WPl.v rfl (o_fldp F28_4 rfl) ?_
    refine WPl.v rfl (o_ldp S26 rfl rfl rfl) ?_
    refine WPl.v rfl (o_move rfl) ?_
    refine WPl.x 5 6 rfl rfl rfl (o_idx L26 rfl (lx rfl) rfl (by first | omega | (simp; omega)) (by first | omega | (simp; omega))) ?_
    refine WPl.v rfl (o_ldqg G53 rfl (lx rfl) (strG rfl) rfl rfl) ?_
    have h1 := ha i (by omega)
    have h2 := hf i (by omega)
    have h3 := mulb h1.1 h1.2 h2.1 h2.2
    have h4 := hsum i (by omega)
    refine WPl.cs 6 rfl rfl rfl rfl (o_callfv (svs := [.e (.g [ai ((nth s.pigs (i : Int)).pounds), ai ((nth s.pigs (i : Int)).tin), ai ((nth s.pigs (i : Int)).ant), ai ((nth s.pigs (i : Int)).pence), ai ((nth s.pigs (i : Int)).many)])]) 6 id rfl (Has.of (lx rfl) fun _ _ h => h ((nth s.pigs (i : Int)))) rfl rfl SvsOK.rf (by simp [SV.res, El.res, At.res, keys]) trivial (by simp [SV.res, El.res, At.res, keys])) ?_
    refine WPl.v rfl (o_mul rfl rfl (by first | omega | (simp; omega)) (by first | omega | (simp; omega))) ?_
    refine WPl.v rfl (o_add rfl rfl (by first | omega | (simp; omega)) (by first | omega | (simp; omega))) ?_
    refine WPl.v rfl (o_assign rfl) ?_
    refine WPl.nil (EX.blk (EX.then (WP.region ?_)))
    refine WPl.v rfl (o_add rfl rfl (by first | omega | (simp; omega)) (by first | omega | (simp; omega))) ?_
    refine WPl.v rfl (o_move rfl) ?_
    refine WPl.nil ?_
    refine EX.again (i + 1) id (by first | omega | (constructor <;> omega)) (by omega) (LeR.of ⟨rfl, rfl, rfl, rfl, rfl, rfl, rfl, trivial⟩ ⟨(lx rfl), (lx rfl), (lx rfl), trivial⟩ ⟨rfl, trivial⟩ rfl rfl rfl rfl rfl)
  · try simp only [cnd] at hc1
    refine WP.exit (EX.exit_then (EX.exit_then (EX.exit_blk (EX.then (WP.seq (WP.region ?_))))))
    refine WPl.v rfl (o_move rfl) ?_
    refine WPl.v rfl (o_assign rfl) ?_
    refine WPl.nil (EX.then (WP.ret ?_))
    have he : i = add.length := by omega
    subst he
    exact EX.fin id (.inl rfl) rfl (.tmp rfl .nil) rfl (by simp [SV.res, El.res, At.res, keys]) trivial (by simp) (by simp)
theorem w32 {s : Shop} {add : List Int} : ∀ x ∈ ([.e (.g [ai (s.pounds), ai (s.tl), ai (s.th), ai (s.al), ai (s.ah), ai (s.room), ai (s.tpl), ai (s.tph), ai (s.apl), ai (s.aph), .q 0]), .e (.a (.q 1))] : List SV), x.res (keys (α := Pred) [(0, PL EPig (s.pigs)), (1, PL EP.int (add))]) := by simp [SV.res, El.res, At.res, keys]
theorem r32 {s : Shop} {add : List Int} : SV.res (keys (α := Pred) []) (.b (isAdd s add)) := by simp [SV.res, El.res, At.res, keys]
set_option maxHeartbeats 4000000 in
theorem c32 (s : Shop) (add : List Int) (hs : s.chk = true) : Sig Try.prog 32 [.e (.g [ai (s.pounds), ai (s.tl), ai (s.th), ai (s.al), ai (s.ah), ai (s.room), ai (s.tpl), ai (s.tph), ai (s.apl), ai (s.aph), .q 0]), .e (.a (.q 1))] [(0, PL EPig (s.pigs)), (1, PL EP.int (add))] (.b (isAdd s add)) [] := by
  have hpg := Shop.pigsOK hs
  have hp4 := hpg.2
  have htb := tl_bnd hs
  refine Sig.intro Try.func32 rfl 2 [(0, .e (.g [ai (s.pounds), ai (s.tl), ai (s.th), ai (s.al), ai (s.ah), ai (s.room), ai (s.tpl), ai (s.tph), ai (s.apl), ai (s.aph), .q 0])), (1, .e (.a (.q 1)))] rfl w32 rfl rfl fun I w => ?_
  refine WP.seq (WP.region ?_)
  refine WPl.l 2 3 rfl rfl rfl (o_boxg rfl) ?_
  refine WPl.v rfl (o_assign rfl) ?_
  refine WPl.nil (EX.then (WP.seq (WP.seq (WP.region ?_))))
  refine WPl.v rfl (o_move rfl) ?_
  refine WPl.v rfl (o_lenq L32 rfl (lx rfl)) ?_
  refine WPl.v rfl (o_fldp F72_0 rfl) ?_
  refine WPl.v rfl (o_fldp F28_4 rfl) ?_
  refine WPl.v rfl (o_ldp S26 rfl rfl rfl) ?_
  refine WPl.v rfl (o_lenq L26 rfl (lx rfl)) ?_
  refine WPl.v rfl (o_neq rfl rfl) ?_
  refine WPl.nil (EX.then ?_)
  refine WP.cond rfl (fun hc1 => ?_) (fun hc1 => ?_)
  · try simp only [cnd] at hc1
    refine WP.seq (WP.region ?_)
    refine WPl.v rfl (o_assign rfl) ?_
    refine WPl.nil (EX.then (WP.ret (EX.ret_then ?_)))
    rw [show isAdd s add = false from by simp [isAdd]; (try simp at hc1); grind]
    exact EX.fin id (.inl rfl) rfl (.tmp rfl .nil) rfl (by simp [SV.res, El.res, At.res, keys]) trivial (by simp) (by simp)
  · try simp only [cnd] at hc1
    refine WP.skip (EX.then (WP.seq (WP.seq (WP.region ?_))))
    refine WPl.v rfl (o_move rfl) ?_
    refine WPl.v rfl (o_lenq L32 rfl (lx rfl)) ?_
    refine WPl.v rfl (o_move rfl) ?_
    refine WPl.nil (EX.then (WP.block ?_))
    refine WP.loop (Gh := Nat) (fun i => ⟨3, [(1, .e (.a (.q 1))), (2, .e (.a (.p 2 (0)))), (4, .b (false)), (14, .e (.a (.q 1))), (15, .i ((add.length : Int))), (16, .i ((i : Int)))], [(0, PL EPig (s.pigs)), (1, PL EP.int (add))], [(2, .blk [ai (s.pounds), ai (s.tl), ai (s.th), ai (s.al), ai (s.ah), ai (s.room), ai (s.tpl), ai (s.tph), ai (s.apl), ai (s.aph), .q 0] 72)], [], []⟩) (fun i => i ≤ add.length ∧ allI (fitsMany s.pigs add) i = true) (fun i => add.length - i) (0) id ?_ (LeR.of ⟨rfl, rfl, rfl, rfl, rfl, rfl, trivial⟩ ⟨(lx rfl), (lx rfl), trivial⟩ ⟨rfl, trivial⟩ rfl rfl rfl rfl rfl) ?_
    · exact ⟨by omega, rfl⟩
    intro i hφ
    have hi : i ≤ add.length := hφ.1
    have hall := hφ.2
    have hlen : (add.length : Int) = s.pigs.length := by simpa using hc1
    refine WP.seq (WP.region ?_)
    refine WPl.v rfl (o_lss rfl rfl) ?_
    refine WPl.nil (EX.then (WP.seq ?_))
    refine WP.cond rfl (fun hc2 => ?_) (fun hc2 => ?_)
    · try simp only [cnd] at hc2
      refine WP.skip (EX.then (WP.seq (WP.block (WP.seq (WP.region ?_)))))
      refine WPl.v rfl (o_move rfl) ?_
      refine WPl.x 3 4 rfl rfl rfl (o_idx L32 rfl (lx rfl) rfl (by first | omega | (simp; omega)) (by first | omega | (simp; omega))) ?_
      refine WPl.v rfl (o_ldq S3 rfl (lx rfl) intc) ?_
      refine WPl.v rfl (o_assign rfl) ?_
      refine WPl.v rfl (o_assign rfl) ?_
      refine WPl.nil (EX.then (WP.seq (WP.region ?_)))
      refine WPl.v rfl (o_move rfl) ?_
      refine WPl.v rfl (o_fldp F72_0 rfl) ?_
      refine WPl.v rfl (o_fldp F28_4 rfl) ?_
      refine WPl.v rfl (o_ldp S26 rfl rfl rfl) ?_
      refine WPl.v rfl (o_move rfl) ?_
      refine WPl.x 4 5 rfl rfl rfl (o_idx L26 rfl (lx rfl) rfl (by first | omega | (simp; omega)) (by first | omega | (simp; omega))) ?_
      refine WPl.v rfl (o_fldq F53_4 rfl (lx rfl)) ?_
      refine WPl.v rfl (o_lde S3 rfl (lx rfl) (strI rfl)) ?_
      refine WPl.cs 5 rfl rfl rfl rfl (o_sig 5 id (c54 (nth add (i : Int)) 0 ((nth s.pigs (i : Int)).many)) e54 rfl rfl rfl w54 trivial r54) ?_
      refine WPl.v rfl (o_not rfl) ?_
      refine WPl.nil (EX.then ?_)
      refine WP.cond rfl (fun hc3 => ?_) (fun hc3 => ?_)
      · try simp only [cnd] at hc3
        refine WP.seq (WP.region ?_)
        refine WPl.v rfl (o_assign rfl) ?_
        refine WPl.nil (EX.then (WP.ret (EX.ret_blk (EX.ret_then (EX.ret_then (EX.ret_blk (EX.ret_then ?_)))))))
        rw [show isAdd s add = false from by simp only [isAdd, not_allI (show i < add.length by omega) (show fitsMany s.pigs add i = false from hc3)]; simp]
        exact EX.fin id (.inl rfl) rfl (.tmp rfl .nil) rfl (by simp [SV.res, El.res, At.res, keys]) trivial (by simp) (by simp)
      · try simp only [cnd] at hc3
        refine WP.skip (EX.blk (EX.then (WP.region ?_)))
        refine WPl.v rfl (o_add rfl rfl (by first | omega | (simp; omega)) (by first | omega | (simp; omega))) ?_
        refine WPl.v rfl (o_move rfl) ?_
        refine WPl.nil ?_
        refine EX.again (i + 1) id (by exact ⟨by omega, by simp only [allI, hall, Bool.true_and]; exact hc3⟩) (by omega) (LeR.of ⟨rfl, rfl, rfl, rfl, rfl, rfl, trivial⟩ ⟨(lx rfl), (lx rfl), trivial⟩ ⟨rfl, trivial⟩ rfl rfl rfl rfl rfl)
    · try simp only [cnd] at hc2
      refine WP.exit (EX.exit_then (EX.exit_then (EX.exit_blk (EX.then (WP.seq ?_)))))
      refine WP.imp (Imp.nam 3 4 (.func (.func 52) #[] #[]) (R := (PigQ Pig.pounds).and (Pred.is (.func (.func 52) #[] #[]))) (fun I => FvP.namea (fun (x : Pig) => (c52 x)) e52 (fun _ => (by simp [SV.res, El.res, At.res, keys])) I) rfl rfl) ?_
      refine WP.draw (nf := 4) [⟨[36, 37, 38, 40, 41, 42], [], [], [], []⟩, ⟨[36, 37, 38, 40, 41, 42], [], [], [], [0]⟩, ⟨[36, 37, 38, 40, 41, 42], [], [], [], [0, 1]⟩, ⟨[36, 37, 38, 40, 41, 42], [], [], [], [0, 1, 2]⟩, ⟨[32, 33, 34, 35, 37, 40, 41, 42], [], [], [], []⟩, ⟨[32, 33, 34, 35, 36, 40, 41, 42], [], [], [], []⟩, ⟨[32, 33, 34, 35, 40, 41, 42], [], [], [], [4, 5]⟩, ⟨[40, 41, 42], [], [], [], [0, 1, 2, 3, 4, 5, 6]⟩, ⟨[32, 33, 34, 35, 36, 37, 38, 39], [], [], [], []⟩, ⟨[32, 33, 34, 35, 36, 37, 38, 39], [], [], [], [8]⟩, ⟨[32, 33, 34, 35, 36, 37, 38, 39], [], [], [], [8, 9]⟩, ⟨[], [], [], [], [0, 1, 2, 3, 4, 5, 6, 7, 8, 9, 10]⟩, ⟨[], [], [], [], [0, 1, 2, 3, 4, 5, 6, 7, 8, 9, 10, 11]⟩] (by kernel_rfl) (by kernel_rfl) ?_
      have he : i = add.length := by omega
      subst he
      have hbn := fits_bnd hpg (by omega) hall
      have hsum := sumOf_bnd (f := Pig.pounds) hpg (by omega) hbn (fun p h => by have := Pig.bnds h; omega)
      refine DRQ.v rfl rfl rfl (o_fldp F72_0 rfl) ?_
      refine DRQ.v rfl rfl rfl (o_fldp F28_0 rfl) ?_
      refine DRQ.v rfl rfl rfl (o_fldp F25_0 rfl) ?_
      refine DRQ.v rfl rfl rfl (o_ldp S3 rfl rfl rfl) ?_
      refine DRQ.v rfl rfl rfl (o_ldpa G72 rfl rfl rfl) ?_
      refine DRQ.v rfl rfl rfl (o_move rfl) ?_
      refine DRQ.cs rfl rfl rfl rfl (o_sigc 4 (ren [(0, 0), (1, 1), (2, 3)]) (c50 s add Pig.pounds hpg hbn (by omega) (fun p h => by have := Pig.bnds h; (show 0 ≤ p.pounds ∧ p.pounds ≤ 99); omega)) e50 rfl rfl ⟨.inl rfl, .inl rfl, .inr ⟨_, _, rfl, fun _ => rfl, (lxr rfl)⟩, trivial⟩ w50 ⟨(lx rfl), (lx rfl), (lxl rfl), trivial⟩ r50) ?_
      refine DRQ.v rfl rfl rfl (o_add rfl rfl (by first | omega | (simp; omega)) (by first | omega | (simp; omega))) ?_
      refine DRQ.v rfl rfl rfl (o_fldp F72_0 rfl) ?_
      refine DRQ.v rfl rfl rfl (o_fldp F28_1 rfl) ?_
      refine DRQ.v rfl rfl rfl (o_ldp S3 rfl rfl rfl) ?_
      refine DRQ.v rfl rfl rfl (o_leq rfl rfl) ?_
      refine DRQ.v rfl rfl rfl (o_assign rfl) ?_
      refine DRQ.nil' ?_
      refine EX.then (WP.ret ?_)
      rw [show isAdd s add = decide (s.pounds + sumOf Pig.pounds s.pigs add ≤ s.room) from by simp [isAdd, hall, hlen]]
      exact EX.fin id (.inl rfl) rfl (.tmp rfl .nil) rfl (by simp [SV.res, El.res, At.res, keys]) trivial (by simp) (by simp)
theorem w55 {a b n : Int} : ∀ x ∈ ([.e (.g [ai (a), ai (b)]), .i (n)] : List SV), x.res (keys (α := Pred) []) := by simp [SV.res, El.res, At.res, keys]
theorem r55 {a b n : Int} : SV.res (keys (α := Pred) []) (.e (.g [ai (a + n), ai (b + n)])) := by simp [SV.res, El.res, At.res, keys]
set_option maxHeartbeats 4000000 in
theorem c55 (a b n : Int) (h1 : -1000000000 ≤ a ∧ a ≤ 1000000000) (h2 : -1000000000 ≤ b ∧ b ≤ 1000000000) (h3 : -1000000000 ≤ n ∧ n ≤ 1000000000) : Sig Try.prog 55 [.e (.g [ai (a), ai (b)]), .i (n)] [] (.e (.g [ai (a + n), ai (b + n)])) [] := by
  refine Sig.intro Try.func55 rfl 0 [(0, .e (.g [ai (a), ai (b)])), (1, .i (n))] rfl w55 rfl rfl fun I w => ?_
  refine WP.seq (WP.region ?_)
  refine WPl.l 0 1 rfl rfl rfl (o_boxg rfl) ?_
  refine WPl.l 1 2 rfl rfl rfl (o_alloc Z23) ?_
  refine WPl.nil (EX.then (WP.seq (WP.region ?_)))
  refine WPl.v rfl (o_fldp F23_0 rfl) ?_
  refine WPl.v rfl (o_ldp S3 rfl rfl rfl) ?_
  refine WPl.v rfl (o_move rfl) ?_
  refine WPl.v rfl (o_add rfl rfl (by first | omega | (simp; omega)) (by first | omega | (simp; omega))) ?_
  refine WPl.v rfl (o_fldp F23_1 rfl) ?_
  refine WPl.v rfl (o_ldp S3 rfl rfl rfl) ?_
  refine WPl.v rfl (o_move rfl) ?_
  refine WPl.v rfl (o_add rfl rfl (by first | omega | (simp; omega)) (by first | omega | (simp; omega))) ?_
  refine WPl.v rfl (o_build B23 rfl ⟨rfl, rfl, trivial⟩ rfl rfl) ?_
  refine WPl.s1 (o_stag G23 rfl rfl rfl ⟨rfl, rfl, trivial⟩ rfl rfl) ?_
  refine WPl.nil (EX.then (WP.ret ?_))
  exact EX.fin id (.inl rfl) rfl (.cellg G23 rfl rfl rfl (.nil)) rfl r55 trivial (by simp) (by simp)
theorem w33 {s : Shop} {add : List Int} : ∀ x ∈ ([.e (.g [ai (s.pounds), ai (s.tl), ai (s.th), ai (s.al), ai (s.ah), ai (s.room), ai (s.tpl), ai (s.tph), ai (s.apl), ai (s.aph), .q 0]), .e (.a (.q 1))] : List SV), x.res (keys (α := Pred) [(0, PL EPig (s.pigs)), (1, PL EP.int (add))]) := by simp [SV.res, El.res, At.res, keys]
theorem r33 {s : Shop} {add : List Int} : SV.res (keys (α := Pred) []) (.e (.g [ai ((s.aft add).pounds), ai ((s.aft add).tl), ai ((s.aft add).th), ai ((s.aft add).al), ai ((s.aft add).ah)])) := by simp [SV.res, El.res, At.res, keys]
set_option maxHeartbeats 4000000 in
theorem c33 (s : Shop) (add : List Int) (hs : s.chk = true) (hl : add.length ≤ s.pigs.length) (hb : bnd add 1000) : Sig Try.prog 33 [.e (.g [ai (s.pounds), ai (s.tl), ai (s.th), ai (s.al), ai (s.ah), ai (s.room), ai (s.tpl), ai (s.tph), ai (s.apl), ai (s.aph), .q 0]), .e (.a (.q 1))] [(0, PL EPig (s.pigs)), (1, PL EP.int (add))] (.e (.g [ai ((s.aft add).pounds), ai ((s.aft add).tl), ai ((s.aft add).th), ai ((s.aft add).al), ai ((s.aft add).ah)])) [] := by
  have hpg := Shop.pigsOK hs
  have htb := tl_bnd hs
  have hs0 := sumOf_bnd (f := Pig.pounds) hpg hl hb (fun p h => by have := Pig.bnds h; omega)
  have hs1 := sumOf_bnd (f := Pig.tin) hpg hl hb (fun p h => by have := Pig.bnds h; omega)
  have hs2 := sumOf_bnd (f := Pig.ant) hpg hl hb (fun p h => by have := Pig.bnds h; omega)
  refine Sig.intro Try.func33 rfl 2 [(0, .e (.g [ai (s.pounds), ai (s.tl), ai (s.th), ai (s.al), ai (s.ah), ai (s.room), ai (s.tpl), ai (s.tph), ai (s.apl), ai (s.aph), .q 0])), (1, .e (.a (.q 1)))] rfl w33 rfl rfl fun I w => ?_
  refine WP.seq (WP.region ?_)
  refine WPl.l 2 3 rfl rfl rfl (o_boxg rfl) ?_
  refine WPl.l 3 4 rfl rfl rfl (o_alloc Z25) ?_
  refine WPl.nil (EX.then (WP.seq ?_))
  refine WP.imp (Imp.nam 4 5 (.func (.func 52) #[] #[]) (R := (PigQ Pig.pounds).and (Pred.is (.func (.func 52) #[] #[]))) (fun I => FvP.namea (fun (x : Pig) => (c52 x)) e52 (fun _ => (by simp [SV.res, El.res, At.res, keys])) I) rfl rfl) ?_
  refine WP.imp (Imp.nam 5 6 (.func (.func 56) #[] #[]) (R := (PigQ Pig.tin).and (Pred.is (.func (.func 56) #[] #[]))) (fun I => FvP.namea (fun (x : Pig) => (c56 x)) e56 (fun _ => (by simp [SV.res, El.res, At.res, keys])) I) rfl rfl) ?_
  refine WP.imp (Imp.nam 6 7 (.func (.func 57) #[] #[]) (R := (PigQ Pig.ant).and (Pred.is (.func (.func 57) #[] #[]))) (fun I => FvP.namea (fun (x : Pig) => (c57 x)) e57 (fun _ => (by simp [SV.res, El.res, At.res, keys])) I) rfl rfl) ?_
  refine WP.draw (nf := 7) [⟨[9, 10, 11, 13, 14, 15, 16, 17, 18, 19, 20, 21, 22, 23, 24, 25, 26, 27, 28], [], [], [], []⟩, ⟨[9, 10, 11, 13, 14, 15, 16, 17, 18, 19, 20, 21, 22, 23, 24, 25, 26, 27, 28], [], [], [], [0]⟩, ⟨[9, 10, 11, 13, 14, 15, 16, 17, 18, 19, 20, 21, 22, 23, 24, 25, 26, 27, 28], [], [], [], [0, 1]⟩, ⟨[9, 10, 11, 13, 14, 15, 16, 17, 18, 19, 20, 21, 22, 23, 24, 25, 26, 27, 28], [], [], [], [0, 1, 2]⟩, ⟨[5, 6, 7, 8, 10, 13, 14, 15, 16, 17, 18, 21, 22, 23, 24, 25, 26], [], [], [], []⟩, ⟨[5, 6, 7, 8, 9, 13, 14, 15, 16, 17, 18, 21, 22, 23, 24, 25, 26], [], [], [], []⟩, ⟨[5, 6, 7, 8, 13, 14, 15, 16, 17, 18, 21, 22, 23, 24, 25, 26], [], [], [], [4, 5]⟩, ⟨[13, 14, 15, 16, 17, 18, 19, 20, 21, 22, 23, 24, 25, 26, 27, 28], [], [], [], [0, 1, 2, 3, 4, 5, 6]⟩, ⟨[5, 6, 7, 8, 9, 10, 11, 12, 17, 18, 19, 21, 22, 23, 24, 25, 26], [], [], [], []⟩, ⟨[5, 6, 7, 8, 9, 10, 11, 12, 17, 18, 19, 21, 22, 23, 24, 25, 26], [], [], [], [8]⟩, ⟨[5, 6, 7, 8, 9, 10, 11, 12, 17, 18, 19, 21, 22, 23, 24, 25, 26], [], [], [], [8, 9]⟩, ⟨[5, 6, 7, 8, 9, 10, 11, 12, 17, 18, 19, 21, 22, 23, 24, 25, 26], [], [], [], [8, 9, 10]⟩, ⟨[5, 6, 7, 8, 9, 10, 11, 12, 13, 14, 15, 16, 18, 21, 22, 23, 24, 25, 26], [], [], [], []⟩, ⟨[5, 6, 7, 8, 9, 10, 11, 12, 13, 14, 15, 16, 17, 21, 22, 23, 24, 25, 26], [], [], [], []⟩, ⟨[5, 6, 7, 8, 12, 13, 14, 15, 16, 21, 22, 23, 24, 25, 26], [], [], [], [4, 5, 6, 12, 13]⟩, ⟨[5, 6, 7, 8, 12, 21, 22, 23, 24, 25, 26], [], [], [], [4, 5, 6, 8, 9, 10, 11, 12, 13, 14]⟩, ⟨[5, 6, 7, 8, 9, 10, 11, 12, 13, 14, 15, 16, 17, 18, 19, 20, 25, 26, 27], [], [], [], []⟩, ⟨[5, 6, 7, 8, 9, 10, 11, 12, 13, 14, 15, 16, 17, 18, 19, 20, 25, 26, 27], [], [], [], [16]⟩, ⟨[5, 6, 7, 8, 9, 10, 11, 12, 13, 14, 15, 16, 17, 18, 19, 20, 25, 26, 27], [], [], [], [16, 17]⟩, ⟨[5, 6, 7, 8, 9, 10, 11, 12, 13, 14, 15, 16, 17, 18, 19, 20, 25, 26, 27], [], [], [], [16, 17, 18]⟩, ⟨[5, 6, 7, 8, 9, 10, 11, 12, 13, 14, 15, 16, 17, 18, 19, 20, 21, 22, 23, 24, 26], [], [], [], []⟩, ⟨[5, 6, 7, 8, 9, 10, 11, 12, 13, 14, 15, 16, 17, 18, 19, 20, 21, 22, 23, 24, 25], [], [], [], []⟩, ⟨[5, 6, 7, 8, 12, 21, 22, 23, 24], [], [], [], [4, 5, 6, 8, 9, 10, 11, 12, 13, 14, 15, 20, 21]⟩, ⟨[5, 6, 7, 8, 12], [], [], [], [4, 5, 6, 8, 9, 10, 11, 12, 13, 14, 15, 16, 17, 18, 19, 20, 21, 22]⟩, ⟨[], [], [], [], [0, 1, 2, 3, 4, 5, 6, 7, 8, 9, 10, 11, 12, 13, 14, 15, 16, 17, 18, 19, 20, 21, 22, 23]⟩, ⟨[], [], [], [3], [0, 1, 2, 3, 4, 5, 6, 7, 8, 9, 10, 11, 12, 13, 14, 15, 16, 17, 18, 19, 20, 21, 22, 23, 24]⟩] (by kernel_rfl) (by kernel_rfl) ?_
  refine DRQ.v rfl rfl rfl (o_fldp F72_0 rfl) ?_
  refine DRQ.v rfl rfl rfl (o_fldp F28_0 rfl) ?_
  refine DRQ.v rfl rfl rfl (o_fldp F25_0 rfl) ?_
  refine DRQ.v rfl rfl rfl (o_ldp S3 rfl rfl rfl) ?_
  refine DRQ.v rfl rfl rfl (o_ldpa G72 rfl rfl rfl) ?_
  refine DRQ.v rfl rfl rfl (o_move rfl) ?_
  refine DRQ.cs rfl rfl rfl rfl (o_sigc 7 (ren [(0, 0), (1, 1), (2, 4)]) (c50 s add Pig.pounds hpg hb hl (fun p h => by have := Pig.bnds h; (show 0 ≤ p.pounds ∧ p.pounds ≤ 99); omega)) e50 rfl rfl ⟨.inl rfl, .inl rfl, .inr ⟨_, _, rfl, fun _ => rfl, (lxr rfl)⟩, trivial⟩ w50 ⟨(lx rfl), (lx rfl), (lxl rfl), trivial⟩ r50) ?_
  refine DRQ.v rfl rfl rfl (o_add rfl rfl (by first | omega | (simp; omega)) (by first | omega | (simp; omega))) ?_
  refine DRQ.v rfl rfl rfl (o_fldp F72_0 rfl) ?_
  refine DRQ.v rfl rfl rfl (o_fldp F28_0 rfl) ?_
  refine DRQ.v rfl rfl rfl (o_fldp F25_1 rfl) ?_
  refine DRQ.v rfl rfl rfl (o_ldpg G23 rfl rfl rfl) ?_
  refine DRQ.v rfl rfl rfl (o_ldpa G72 rfl rfl rfl) ?_
  refine DRQ.v rfl rfl rfl (o_move rfl) ?_
  refine DRQ.cs rfl rfl rfl rfl (o_sigc 7 (ren [(0, 0), (1, 1), (2, 5)]) (c50 s add Pig.tin hpg hb hl (fun p h => by have := Pig.bnds h; (show 0 ≤ p.tin ∧ p.tin ≤ 99); omega)) e50 rfl rfl ⟨.inl rfl, .inl rfl, .inr ⟨_, _, rfl, fun _ => rfl, (lxr rfl)⟩, trivial⟩ w50 ⟨(lx rfl), (lx rfl), (lxl rfl), trivial⟩ r50) ?_
  refine DRQ.cs rfl rfl rfl rfl (o_sig 7 id (c55 s.tl s.th (sumOf Pig.tin s.pigs add) (by omega) (by omega) (by omega)) e55 rfl rfl rfl w55 trivial r55) ?_
  refine DRQ.v rfl rfl rfl (o_fldp F72_0 rfl) ?_
  refine DRQ.v rfl rfl rfl (o_fldp F28_0 rfl) ?_
  refine DRQ.v rfl rfl rfl (o_fldp F25_2 rfl) ?_
  refine DRQ.v rfl rfl rfl (o_ldpg G23 rfl rfl rfl) ?_
  refine DRQ.v rfl rfl rfl (o_ldpa G72 rfl rfl rfl) ?_
  refine DRQ.v rfl rfl rfl (o_move rfl) ?_
  refine DRQ.cs rfl rfl rfl rfl (o_sigc 7 (ren [(0, 0), (1, 1), (2, 6)]) (c50 s add Pig.ant hpg hb hl (fun p h => by have := Pig.bnds h; (show 0 ≤ p.ant ∧ p.ant ≤ 99); omega)) e50 rfl rfl ⟨.inl rfl, .inl rfl, .inr ⟨_, _, rfl, fun _ => rfl, (lxr rfl)⟩, trivial⟩ w50 ⟨(lx rfl), (lx rfl), (lxl rfl), trivial⟩ r50) ?_
  refine DRQ.cs rfl rfl rfl rfl (o_sig 7 id (c55 s.al s.ah (sumOf Pig.ant s.pigs add) (by omega) (by omega) (by omega)) e55 rfl rfl rfl w55 trivial r55) ?_
  refine DRQ.v rfl rfl rfl (o_build B25 rfl ⟨rfl, trivial⟩ rfl rfl) ?_
  refine DRQ.s 3 rfl rfl rfl (o_stag G25 rfl rfl rfl ⟨rfl, rfl, rfl, rfl, rfl, trivial⟩ rfl rfl) ?_
  refine DRQ.nil' ?_
  refine EX.then (WP.ret ?_)
  exact EX.fin id (.inl rfl) rfl (.cellg G25 rfl rfl rfl (.nil)) rfl r33 trivial (by simp) (by simp)
theorem w71 {s : Shop} {p : Po} {n : Int} : ∀ x ∈ ([.e (.g [ai (s.pounds), ai (s.tl), ai (s.th), ai (s.al), ai (s.ah), ai (s.room), ai (s.tpl), ai (s.tph), ai (s.apl), ai (s.aph), .q 0]), .e (.g [ai (p.pounds), ai (p.tl), ai (p.th), ai (p.al), ai (p.ah)]), .i (n)] : List SV), x.res (keys (α := Pred) [(0, PL EPig (s.pigs))]) := by simp [SV.res, El.res, At.res, keys]
theorem r71 {s : Shop} {p : Po} {n : Int} : SV.res (keys (α := Pred) []) (.b (s.failsP p n)) := by simp [SV.res, El.res, At.res, keys]
set_option maxHeartbeats 4000000 in
theorem c71 (s : Shop) (p : Po) (n : Int) (hs : s.chk = true) (hp : PoB p) : Sig Try.prog 71 [.e (.g [ai (s.pounds), ai (s.tl), ai (s.th), ai (s.al), ai (s.ah), ai (s.room), ai (s.tpl), ai (s.tph), ai (s.apl), ai (s.aph), .q 0]), .e (.g [ai (p.pounds), ai (p.tl), ai (p.th), ai (p.al), ai (p.ah)]), .i (n)] [(0, PL EPig (s.pigs))] (.b (s.failsP p n)) [] := by
  have htb := tl_bnd hs
  unfold PoB at hp
  have m0 := mulb (a := p.pounds) (A := 1000000) (b := s.tpl) (B := 1000) (by omega) (by omega) (by omega) (by omega)
  have m1 := mulb (a := p.pounds) (A := 1000000) (b := s.tph) (B := 1000) (by omega) (by omega) (by omega) (by omega)
  have m2 := mulb (a := p.pounds) (A := 1000000) (b := s.apl) (B := 1000) (by omega) (by omega) (by omega) (by omega)
  have m3 := mulb (a := p.pounds) (A := 1000000) (b := s.aph) (B := 1000) (by omega) (by omega) (by omega) (by omega)
  refine Sig.intro Try.func71 rfl 1 [(0, .e (.g [ai (s.pounds), ai (s.tl), ai (s.th), ai (s.al), ai (s.ah), ai (s.room), ai (s.tpl), ai (s.tph), ai (s.apl), ai (s.aph), .q 0])), (1, .e (.g [ai (p.pounds), ai (p.tl), ai (p.th), ai (p.al), ai (p.ah)])), (2, .i (n))] rfl w71 rfl rfl fun I w => ?_
  refine WP.seq (WP.region ?_)
  refine WPl.l 1 2 rfl rfl rfl (o_boxg rfl) ?_
  refine WPl.l 2 3 rfl rfl rfl (o_boxg rfl) ?_
  refine WPl.v rfl (o_assign rfl) ?_
  refine WPl.nil (EX.then (WP.seq (WP.seq (WP.region ?_))))
  refine WPl.v rfl (o_move rfl) ?_
  refine WPl.nil (EX.then (WP.block (WP.seq (WP.region ?_))))
  refine WPl.v rfl (o_eql rfl rfl) ?_
  refine WPl.v rfl (o_assign rfl) ?_
  refine WPl.nil (EX.then ?_)
  refine WP.cond rfl (fun hc1 => ?_) (fun hc1 => ?_)
  · try simp only [cnd] at hc1
    refine WP.seq (WP.region ?_)
    refine WPl.v rfl (o_fldp F25_1 rfl) ?_
    refine WPl.v rfl (o_fldp F23_0 rfl) ?_
    refine WPl.v rfl (o_ldp S3 rfl rfl rfl) ?_
    refine WPl.v rfl (o_mul rfl rfl (by first | omega | (simp; omega)) (by first | omega | (simp; omega))) ?_
    refine WPl.v rfl (o_fldp F25_0 rfl) ?_
    refine WPl.v rfl (o_ldp S3 rfl rfl rfl) ?_
    refine WPl.v rfl (o_fldp F72_0 rfl) ?_
    refine WPl.v rfl (o_fldp F28_2 rfl) ?_
    refine WPl.v rfl (o_fldp F23_0 rfl) ?_
    refine WPl.v rfl (o_ldp S3 rfl rfl rfl) ?_
    refine WPl.v rfl (o_mul rfl rfl (by first | omega | (simp; omega)) (by first | omega | (simp; omega))) ?_
    refine WPl.v rfl (o_lss rfl rfl) ?_
    refine WPl.v rfl (o_assign rfl) ?_
    refine WPl.nil (EX.then (WP.ret (EX.ret_blk (EX.ret_then ?_))))
    rw [show s.failsP p n = decide (1000 * p.tl < p.pounds * s.tpl) from if_pos hc1]
    exact EX.fin id (.inl rfl) rfl (.tmp rfl .nil) rfl (by simp [SV.res, El.res, At.res, keys]) trivial (by simp) (by simp)
  · try simp only [cnd] at hc1
    refine WP.seq (WP.region ?_)
    refine WPl.v rfl (o_eql rfl rfl) ?_
    refine WPl.v rfl (o_assign rfl) ?_
    refine WPl.nil (EX.then ?_)
    refine WP.cond rfl (fun hc2 => ?_) (fun hc2 => ?_)
    · try simp only [cnd] at hc2
      refine WP.seq (WP.region ?_)
      refine WPl.v rfl (o_fldp F25_1 rfl) ?_
      refine WPl.v rfl (o_fldp F23_1 rfl) ?_
      refine WPl.v rfl (o_ldp S3 rfl rfl rfl) ?_
      refine WPl.v rfl (o_mul rfl rfl (by first | omega | (simp; omega)) (by first | omega | (simp; omega))) ?_
      refine WPl.v rfl (o_fldp F25_0 rfl) ?_
      refine WPl.v rfl (o_ldp S3 rfl rfl rfl) ?_
      refine WPl.v rfl (o_fldp F72_0 rfl) ?_
      refine WPl.v rfl (o_fldp F28_2 rfl) ?_
      refine WPl.v rfl (o_fldp F23_1 rfl) ?_
      refine WPl.v rfl (o_ldp S3 rfl rfl rfl) ?_
      refine WPl.v rfl (o_mul rfl rfl (by first | omega | (simp; omega)) (by first | omega | (simp; omega))) ?_
      refine WPl.v rfl (o_gtr rfl rfl) ?_
      refine WPl.v rfl (o_assign rfl) ?_
      refine WPl.nil (EX.then (WP.ret (EX.ret_blk (EX.ret_then ?_))))
      rw [show s.failsP p n = decide (p.pounds * s.tph < 1000 * p.th) from by unfold Shop.failsP; rw [if_neg hc1, if_pos hc2]]
      exact EX.fin id (.inl rfl) rfl (.tmp rfl .nil) rfl (by simp [SV.res, El.res, At.res, keys]) trivial (by simp) (by simp)
    · try simp only [cnd] at hc2
      refine WP.seq (WP.region ?_)
      refine WPl.v rfl (o_eql rfl rfl) ?_
      refine WPl.v rfl (o_assign rfl) ?_
      refine WPl.nil (EX.then ?_)
      refine WP.cond rfl (fun hc3 => ?_) (fun hc3 => ?_)
      · try simp only [cnd] at hc3
        refine WP.seq (WP.region ?_)
        refine WPl.v rfl (o_fldp F25_2 rfl) ?_
        refine WPl.v rfl (o_fldp F23_0 rfl) ?_
        refine WPl.v rfl (o_ldp S3 rfl rfl rfl) ?_
        refine WPl.v rfl (o_mul rfl rfl (by first | omega | (simp; omega)) (by first | omega | (simp; omega))) ?_
        refine WPl.v rfl (o_fldp F25_0 rfl) ?_
        refine WPl.v rfl (o_ldp S3 rfl rfl rfl) ?_
        refine WPl.v rfl (o_fldp F72_0 rfl) ?_
        refine WPl.v rfl (o_fldp F28_3 rfl) ?_
        refine WPl.v rfl (o_fldp F23_0 rfl) ?_
        refine WPl.v rfl (o_ldp S3 rfl rfl rfl) ?_
        refine WPl.v rfl (o_mul rfl rfl (by first | omega | (simp; omega)) (by first | omega | (simp; omega))) ?_
        refine WPl.v rfl (o_lss rfl rfl) ?_
        refine WPl.v rfl (o_assign rfl) ?_
        refine WPl.nil (EX.then (WP.ret (EX.ret_blk (EX.ret_then ?_))))
        rw [show s.failsP p n = decide (1000 * p.al < p.pounds * s.apl) from by unfold Shop.failsP; rw [if_neg hc1, if_neg hc2, if_pos hc3]]
        exact EX.fin id (.inl rfl) rfl (.tmp rfl .nil) rfl (by simp [SV.res, El.res, At.res, keys]) trivial (by simp) (by simp)
      · try simp only [cnd] at hc3
        refine WP.skip (EX.blk (EX.then (WP.seq (WP.region ?_))))
        refine WPl.v rfl (o_fldp F25_2 rfl) ?_
        refine WPl.v rfl (o_fldp F23_1 rfl) ?_
        refine WPl.v rfl (o_ldp S3 rfl rfl rfl) ?_
        refine WPl.v rfl (o_mul rfl rfl (by first | omega | (simp; omega)) (by first | omega | (simp; omega))) ?_
        refine WPl.v rfl (o_fldp F25_0 rfl) ?_
        refine WPl.v rfl (o_ldp S3 rfl rfl rfl) ?_
        refine WPl.v rfl (o_fldp F72_0 rfl) ?_
        refine WPl.v rfl (o_fldp F28_3 rfl) ?_
        refine WPl.v rfl (o_fldp F23_1 rfl) ?_
        refine WPl.v rfl (o_ldp S3 rfl rfl rfl) ?_
        refine WPl.v rfl (o_mul rfl rfl (by first | omega | (simp; omega)) (by first | omega | (simp; omega))) ?_
        refine WPl.v rfl (o_gtr rfl rfl) ?_
        refine WPl.v rfl (o_assign rfl) ?_
        refine WPl.nil (EX.then (WP.ret ?_))
        rw [show s.failsP p n = decide (p.pounds * s.aph < 1000 * p.ah) from by unfold Shop.failsP; rw [if_neg hc1, if_neg hc2, if_neg hc3]]
        exact EX.fin id (.inl rfl) rfl (.tmp rfl .nil) rfl (by simp [SV.res, El.res, At.res, keys]) trivial (by simp) (by simp)
theorem w70  : ∀ x ∈ ([] : List SV), x.res (keys (α := Pred) []) := by simp [SV.res, El.res, At.res, keys]
set_option maxHeartbeats 4000000 in
theorem c70   : SigI Try.prog 70 [] [] (limItems) := by
  refine SigI.intro Try.func70 rfl 1 0 w70 rfl rfl rfl fun I w l Y K F0 hround => ?_
  have hF : ∀ c, F0 c → F0 c := fun _ h => h
  refine WP.seq (WP.region ?_)
  refine WPl.v rfl (o_assign rfl) ?_
  refine WPl.nil (EX.then (WP.block ?_))
  refine WP.loop (Gh := Nat × (Nat → Prop)) (fun (⟨i, F⟩ : Nat × (Nat → Prop)) => ⟨1, [(0, .e (.a (.v (yv l)))), (2, .i ((i : Int) + 1))], [], [(0, .ext ((Y i).xp F))], [], []⟩) (fun (⟨i, F⟩ : Nat × (Nat → Prop)) => i ≤ 4 ∧ ∀ c, F0 c → F c) (fun (⟨i, F⟩ : Nat × (Nat → Prop)) => 4 - i) ((0, F0)) id ?_ (LeR.of ⟨rfl, rfl, trivial⟩ trivial ⟨rfl, trivial⟩ rfl rfl rfl rfl rfl) ?_
  · exact ⟨by omega, fun _ h => h⟩
  rintro ⟨i, F⟩ hφ
  obtain ⟨hi, hF⟩ : i ≤ 4 ∧ ∀ c, F0 c → F c := hφ
  refine WP.seq (WP.seq (WP.region ?_))
  refine WPl.v rfl (o_move rfl) ?_
  refine WPl.v rfl (o_leq rfl rfl) ?_
  refine WPl.nil (EX.then ?_)
  refine WP.cond rfl (fun hc1 => ?_) (fun hc1 => ?_)
  · try simp only [cnd] at hc1
    refine WP.skip (EX.then (WP.seq (WP.block (WP.seq (WP.region ?_)))))
    refine WPl.v rfl (o_move rfl) ?_
    refine WPl.v rfl (o_move rfl) ?_
    refine WPl.yield (Y' := Y (i + 1)) (K' := K) 0 rfl rfl rfl rfl rfl rfl (yieldH (ky := 0) (J := []) (it := ⟨[.i ((i : Int) + 1)], [], []⟩) id (hround (i) _ (range_at (by omega))) rfl (hF) SvsOK.rf (by simp [SV.res, El.res, At.res, keys]) trivial trivial) fun by9 F1 hF1 => ?_
    have hF : ∀ c, F0 c → F1 c := fun c hc => hF1 c (hF c hc)
    cases by9
    · skip
      refine WPl.v rfl (o_not rfl) ?_
      refine WPl.nil (EX.then ?_)
      refine WP.cond rfl (fun _ => ?_) (fun h => by cases h)
      refine WP.ret (EX.ret_blk (EX.ret_then (EX.ret_then (EX.ret_blk ?_))))
      exact EX.finI (.inl rfl) rfl rfl (ky := 0) (Y := K) rfl (fun _ _ h => .inr h)
    · skip
      refine WPl.v rfl (o_not rfl) ?_
      refine WPl.nil (EX.then ?_)
      refine WP.cond rfl (fun h => by cases h) (fun _ => ?_)
      refine WP.skip (EX.blk (EX.then (WP.region ?_)))
      refine WPl.v rfl (o_move rfl) ?_
      refine WPl.v rfl (o_add rfl rfl (by first | omega | (simp; omega)) (by first | omega | (simp; omega))) ?_
      refine WPl.v rfl (o_assign rfl) ?_
      refine WPl.nil ?_
      refine EX.again ((i + 1, F1)) id (by exact ⟨by omega, hF⟩) (by first | omega | (dsimp only; omega) | (simp only []; omega)) (LeR.of ⟨rfl, (congrArg (fun z => some (SV.i z)) (show (((i : Int) + 1) + 1) = ((fun (⟨i, F⟩ : Nat × (Nat → Prop)) => (i : Int) + 1) (i + 1, F1)) from by show (i : Int) + 1 + 1 = ((i + 1 : Nat) : Int) + 1; omega)), trivial⟩ trivial ⟨rfl, trivial⟩ rfl rfl rfl rfl rfl)
  · try simp only [cnd] at hc1
    refine WP.exit (EX.exit_then (EX.exit_then (EX.exit_blk ?_)))
    have hend : i = limItems.length := by simp [limItems]; omega
    exact EX.finI (.inr rfl) rfl rfl (ky := 0) (Y := Y (i)) rfl (fun _ _ h => .inl (by rw [hend] at h; exact h))
theorem w48 {s : Shop} {p : Po} : ∀ x ∈ ([.e (.g [ai (s.pounds), ai (s.tl), ai (s.th), ai (s.al), ai (s.ah), ai (s.room), ai (s.tpl), ai (s.tph), ai (s.apl), ai (s.aph), .q 0]), .e (.g [ai (p.pounds), ai (p.tl), ai (p.th), ai (p.al), ai (p.ah)])] : List SV), x.res (keys (α := Pred) [(0, PL EPig (s.pigs))]) := by simp [SV.res, El.res, At.res, keys]
theorem r48 {s : Shop} {p : Po} : SV.res (keys (α := Pred) []) (.b (s.safeP p)) := by simp [SV.res, El.res, At.res, keys]
set_option maxHeartbeats 4000000 in
theorem c48 (s : Shop) (p : Po) (hs : s.chk = true) (hp : PoB p) : Sig Try.prog 48 [.e (.g [ai (s.pounds), ai (s.tl), ai (s.th), ai (s.al), ai (s.ah), ai (s.room), ai (s.tpl), ai (s.tph), ai (s.apl), ai (s.aph), .q 0]), .e (.g [ai (p.pounds), ai (p.tl), ai (p.th), ai (p.al), ai (p.ah)])] [(0, PL EPig (s.pigs))] (.b (s.safeP p)) [] := by
  refine Sig.intro Try.func48 rfl 1 [(0, .e (.g [ai (s.pounds), ai (s.tl), ai (s.th), ai (s.al), ai (s.ah), ai (s.room), ai (s.tpl), ai (s.tph), ai (s.apl), ai (s.aph), .q 0])), (1, .e (.g [ai (p.pounds), ai (p.tl), ai (p.th), ai (p.al), ai (p.ah)]))] rfl w48 rfl rfl fun I w => ?_
  refine WP.seq (WP.region ?_)
  refine WPl.l 1 2 rfl rfl rfl (o_boxg rfl) ?_
  refine WPl.l 2 3 rfl rfl rfl (o_boxg rfl) ?_
  refine WPl.l 3 4 rfl rfl rfl (o_alloc Z4) ?_
  refine WPl.nil (EX.then (WP.seq (WP.block ?_)))
  refine WP.leR (S' := ⟨4, [(2, .e (.a (.p 1 (0)))), (3, .e (.a (.p 2 (0)))), (4, .e (.a (.p 3 (0))))], [(0, PL EPig (s.pigs))], [(1, .blk [ai (s.pounds), ai (s.tl), ai (s.th), ai (s.al), ai (s.ah), ai (s.room), ai (s.tpl), ai (s.tph), ai (s.apl), ai (s.aph), .q 0] 72), (2, .blk [ai (p.pounds), ai (p.tl), ai (p.th), ai (p.al), ai (p.ah)] 25), (3, .blk [.v (.bool (false))] 4)], [], []⟩) id (LeR.of ⟨rfl, rfl, rfl, trivial⟩ ⟨(lx rfl), trivial⟩ ⟨rfl, rfl, rfl, trivial⟩ rfl rfl rfl rfl rfl) ?_
  refine WP.imp (Imp.nam 4 5 (.bool true) (R := Pred.pure (allI (fun j => !s.failsP p ((j : Int) + 1)) 0 = true)) (fun _ => rfl) rfl rfl) ?_
  refine WP.rangeV 8 0 (4) (fun g => ⟨[.i ((g : Int) + 1)], [], []⟩) (fun g => ⟨8, [(2, .e (.a (.p 1 (0)))), (3, .e (.a (.p 2 (0)))), (4, .e (.a (.p 3 (0))))], [(0, PL EPig (s.pigs)), (7, Pred.pure (allI (fun j => !s.failsP p ((j : Int) + 1)) g = true))], [(1, .blk [ai (s.pounds), ai (s.tl), ai (s.th), ai (s.al), ai (s.ah), ai (s.room), ai (s.tpl), ai (s.tph), ai (s.apl), ai (s.aph), .q 0] 72), (2, .blk [ai (p.pounds), ai (p.tl), ai (p.th), ai (p.al), ai (p.ah)] 25), (3, .blk [.v (.bool (false))] 4), (5, .ob (.deferred (some [])))], [5], []⟩) (fun c T => (s.safeP p = false ∧ c = .ret ∧ T = ⟨8, [(2, .e (.a (.p 1 (0)))), (3, .e (.a (.p 2 (0)))), (4, .e (.a (.p 3 (0))))], [(0, PL EPig (s.pigs))], [(1, .blk [ai (s.pounds), ai (s.tl), ai (s.th), ai (s.al), ai (s.ah), ai (s.room), ai (s.tpl), ai (s.tph), ai (s.apl), ai (s.aph), .q 0] 72), (2, .blk [ai (p.pounds), ai (p.tl), ai (p.th), ai (p.al), ai (p.ah)] 25), (3, .blk [.v (.bool (false))] 4), (5, .ob (.deferred (some [])))], [5], []⟩)) rfl (fv := .e (.a (.f 70 [])))  rfl (SigI.hit c70 e70) (rfl) (fun _ => RSt.of rfl rfl rfl rfl rfl rfl) ((by rintro c T (⟨_, rfl, rfl⟩) <;> exact RSt.of rfl rfl rfl rfl rfl rfl)) rfl rfl rfl (fun _ _ => ItemOK.of rfl) rfl rfl (ren [(7, 4)]) (LeR.of ⟨rfl, rfl, rfl, trivial⟩ ⟨(lx rfl), (lx rfl), trivial⟩ ⟨rfl, rfl, rfl, rfl, trivial⟩ rfl rfl rfl rfl rfl) ?_ ?_ ?_
  · intro g hg w1 E1 I1 R1 pβ1 pν1 us1
    refine WP.pure 7 (lx rfl) fun hinv1 => ?_
    refine WP.region ?_
    refine WPl.v rfl (o_assign rfl) ?_
    refine WPl.nil ?_
    refine EX.beg rfl ?_
    refine WP.block (WP.seq (WP.region ?_))
    refine WPl.v rfl (o_ldpa G72 rfl rfl rfl) ?_
    refine WPl.v rfl (o_ldpa G25 rfl rfl rfl) ?_
    refine WPl.v rfl (o_move rfl) ?_
    refine WPl.cs 8 rfl rfl rfl rfl (o_sig 8 (ren [(0, 0)]) (c71 s p ((g : Int) + 1) hs hp) e71 rfl rfl rfl w71 ⟨(lx rfl), trivial⟩ r71) ?_
    refine WPl.nil (EX.then ?_)
    refine WP.cond rfl (fun hc1 => ?_) (fun hc1 => ?_)
    · try simp only [cnd] at hc1
      refine WP.seq (WP.region ?_)
      refine WPl.s1 (o_sta S4 rfl rfl rfl rfl rfl) ?_
      refine WPl.nil (EX.then (WP.ret (EX.ret_blk ?_)))
      exact EX.jret id ⟨(by exact not_allI hg (by simpa using hc1)), rfl, rfl⟩ (LeR.of trivial ⟨(lx rfl), trivial⟩ ⟨rfl, rfl, rfl, rfl, rfl, trivial⟩ rfl rfl rfl rfl rfl)
    · try simp only [cnd] at hc1
      refine WP.skip (EX.blk ?_)
      have hinvn : allI (fun j => !s.failsP p ((j : Int) + 1)) (g + 1) = true := by simp only [allI, hinv1, Bool.true_and]; simpa using hc1
      refine EX.imp (Imp.nam 8 9 (.bool true) (R := Pred.pure (allI (fun j => !s.failsP p ((j : Int) + 1)) (g + 1) = true)) (fun _ => hinvn) rfl rfl) ?_
      exact EX.next (ren [(7, 8)]) (LeR.of trivial ⟨(lx rfl), (lx rfl), trivial⟩ ⟨rfl, rfl, rfl, rfl, rfl, trivial⟩ rfl rfl rfl rfl rfl)
  · rintro c T (⟨hj, rfl, rfl⟩)
    · skip
      refine WP.ret (EX.ret_blk (EX.ret_then ?_))
      rw [hj]
      exact EX.fin id (.inl rfl) rfl (.cell1 S4 rfl rfl (.nil)) rfl (by simp [SV.res, El.res, At.res, keys]) trivial (marks rfl) (by simp)
  · refine EX.pure 7 (lx rfl) fun hinv1 => ?_
    refine EX.blk (EX.then (WP.seq (WP.region ?_)))
    refine WPl.s1 (o_sta S4 rfl rfl rfl rfl rfl) ?_
    refine WPl.nil (EX.then (WP.ret ?_))
    rw [show s.safeP p = true from hinv1]
    exact EX.fin id (.inl rfl) rfl (.cell1 S4 rfl rfl (.nil)) rfl (by simp [SV.res, El.res, At.res, keys]) trivial (marks rfl) (by simp)
theorem w30N {s : Shop} : ∀ x ∈ ([.e (.g [ai (s.pounds), ai (s.tl), ai (s.th), ai (s.al), ai (s.ah), ai (s.room), ai (s.tpl), ai (s.tph), ai (s.apl), ai (s.aph), .q 0]), .e (.a (.v (.nilFunc)))] : List SV), x.res (keys (α := Pred) [(0, PL EPig (s.pigs))]) := by simp [SV.res, El.res, At.res, keys]
theorem r30N {s : Shop} : SV.res (keys (α := Pred) [(0, PL EPig (s.pigs))]) (.t [.g [ai (s.pounds), ai (s.tl), ai (s.th), ai (s.al), ai (s.ah), ai (s.room), ai (s.tpl), ai (s.tph), ai (s.apl), ai (s.aph), .q 0], .a (ai (errM s.chk))]) := by simp [SV.res, El.res, At.res, keys]
set_option maxHeartbeats 4000000 in
theorem c30N (s : Shop) (hl : s.pigs.length ≤ 40) : Sig Try.prog 30 [.e (.g [ai (s.pounds), ai (s.tl), ai (s.th), ai (s.al), ai (s.ah), ai (s.room), ai (s.tpl), ai (s.tph), ai (s.apl), ai (s.aph), .q 0]), .e (.a (.v (.nilFunc)))] [(0, PL EPig (s.pigs))] (.t [.g [ai (s.pounds), ai (s.tl), ai (s.th), ai (s.al), ai (s.ah), ai (s.room), ai (s.tpl), ai (s.tph), ai (s.apl), ai (s.aph), .q 0], .a (ai (errM s.chk))]) [(0, PL EPig (s.pigs))] := by
  refine Sig.intro Try.func30 rfl 1 [(0, .e (.g [ai (s.pounds), ai (s.tl), ai (s.th), ai (s.al), ai (s.ah), ai (s.room), ai (s.tpl), ai (s.tph), ai (s.apl), ai (s.aph), .q 0])), (1, .e (.a (.v (.nilFunc))))] rfl w30N rfl rfl fun I w => ?_
  refine WP.seq (WP.region ?_)
  refine WPl.l 1 2 rfl rfl rfl (o_boxg rfl) ?_
  refine WPl.l 2 3 rfl rfl rfl (o_alloc Z72) ?_
  refine WPl.v rfl (o_assign rfl) ?_
  refine WPl.nil (EX.then (WP.seq (WP.region ?_)))
  refine WPl.v rfl (o_ldpa G28 rfl rfl rfl) ?_
  refine WPl.v rfl (o_build B72 rfl trivial rfl rfl) ?_
  refine WPl.l 3 4 rfl rfl rfl (o_alloc Z72) ?_
  refine WPl.s1 (o_stag G72 rfl rfl rfl ⟨rfl, rfl, rfl, rfl, rfl, rfl, rfl, rfl, rfl, rfl, (.inl ⟨_, (lx rfl), PL.one⟩), trivial⟩ rfl rfl) ?_
  refine WPl.nil (EX.then (WP.seq (WP.seq (WP.region ?_))))
  refine WPl.v rfl (o_ldpa G28 rfl rfl rfl) ?_
  refine WPl.cs 4 rfl rfl rfl rfl (o_sig 4 (ren [(0, 0)]) (c53 s hl) e53 rfl rfl rfl w53 ⟨(lx rfl), trivial⟩ r53) ?_
  refine WPl.v rfl (o_assign rfl) ?_
  refine WPl.nil (EX.then (WP.seq (WP.region ?_)))
  refine WPl.v rfl (o_move rfl) ?_
  refine WPl.v rfl (o_neq rfl rfl) ?_
  refine WPl.nil (EX.then ?_)
  refine WP.cond rfl (fun hc1 => ?_) (fun hc1 => ?_)
  · try simp only [cnd] at hc1
    refine WP.seq (WP.region ?_)
    refine WPl.v rfl (o_ldpa G72 rfl rfl rfl) ?_
    refine WPl.v rfl (o_move rfl) ?_
    refine WPl.s1 (o_stag G72 rfl rfl rfl ⟨rfl, rfl, rfl, rfl, rfl, rfl, rfl, rfl, rfl, rfl, (.inl ⟨_, (lx rfl), PL.one⟩), trivial⟩ rfl rfl) ?_
    refine WPl.v rfl (o_assign rfl) ?_
    refine WPl.nil (EX.then (WP.ret (EX.ret_then ?_)))
    exact EX.fin (ren [(0, 0)]) (.inl rfl) rfl (.cellg G72 rfl rfl rfl (.tmp rfl .nil)) rfl r30N ⟨(lx rfl), trivial⟩ (by simp) (by simp)
  · try simp only [cnd] at hc1
    refine WP.skip (EX.then (WP.seq (WP.seq (WP.region ?_))))
    refine WPl.v rfl (o_move rfl) ?_
    refine WPl.v rfl (o_nenil Try.underlying76 rfl) ?_
    refine WPl.v rfl (o_move rfl) ?_
    refine WPl.off rfl ⟨_, _, rfl, rfl, rfl⟩ ?_
    refine WPl.off rfl ⟨_, _, rfl, rfl, rfl⟩ ?_
    refine WPl.off rfl ⟨_, _, rfl, rfl, rfl⟩ ?_
    refine WPl.off rfl ⟨_, _, rfl, rfl, rfl⟩ ?_
    refine WPl.v rfl (o_pickF rfl rfl) ?_
    refine WPl.nil (EX.then ?_)
    refine WP.cond rfl (fun h => by cases h) (fun _ => ?_)
    refine WP.skip (EX.then (WP.seq (WP.region ?_)))
    refine WPl.v rfl (o_ldpa G72 rfl rfl rfl) ?_
    refine WPl.s1 (o_stag G72 rfl rfl rfl ⟨rfl, rfl, rfl, rfl, rfl, rfl, rfl, rfl, rfl, rfl, (.inl ⟨_, (lx rfl), PL.one⟩), trivial⟩ rfl rfl) ?_
    refine WPl.v rfl (o_assign rfl) ?_
    refine WPl.nil (EX.then (WP.ret ?_))
    rw [show errM s.chk = 0 from by simpa using hc1]
    exact EX.fin (ren [(0, 0)]) (.inl rfl) rfl (.cellg G72 rfl rfl rfl (.tmp rfl .nil)) rfl (by simp [SV.res, El.res, At.res, keys]) ⟨(lx rfl), trivial⟩ (by simp) (by simp)
theorem w30CE {s : Shop} : ∀ x ∈ ([.e (.g [ai (s.pounds), ai (s.tl), ai (s.th), ai (s.al), ai (s.ah), ai (s.room), ai (s.tpl), ai (s.tph), ai (s.apl), ai (s.aph), .q 0]), .e (.a (.q 1))] : List SV), x.res (keys (α := Pred) [(0, PL EPig (s.pigs)), (1, Pred.fn)]) := by simp [SV.res, El.res, At.res, keys]
theorem r30CE {s : Shop} : SV.res (keys (α := Pred) [(0, PL EPig (s.pigs))]) (.t [.g [ai (s.pounds), ai (s.tl), ai (s.th), ai (s.al), ai (s.ah), ai (s.room), ai (s.tpl), ai (s.tph), ai (s.apl), ai (s.aph), .q 0], .a (ai (10))]) := by simp [SV.res, El.res, At.res, keys]
set_option maxHeartbeats 4000000 in
theorem c30CE (s : Shop) (hf : s.chk = false) (hl : s.pigs.length ≤ 40) : Sig Try.prog 30 [.e (.g [ai (s.pounds), ai (s.tl), ai (s.th), ai (s.al), ai (s.ah), ai (s.room), ai (s.tpl), ai (s.tph), ai (s.apl), ai (s.aph), .q 0]), .e (.a (.q 1))] [(0, PL EPig (s.pigs)), (1, Pred.fn)] (.t [.g [ai (s.pounds), ai (s.tl), ai (s.th), ai (s.al), ai (s.ah), ai (s.room), ai (s.tpl), ai (s.tph), ai (s.apl), ai (s.aph), .q 0], .a (ai (10))]) [(0, PL EPig (s.pigs))] := by
  have hch : errM s.chk = 10 := by simp [hf, errM]
  refine Sig.intro Try.func30 rfl 2 [(0, .e (.g [ai (s.pounds), ai (s.tl), ai (s.th), ai (s.al), ai (s.ah), ai (s.room), ai (s.tpl), ai (s.tph), ai (s.apl), ai (s.aph), .q 0])), (1, .e (.a (.q 1)))] rfl w30CE rfl rfl fun I w => ?_
  refine WP.seq (WP.region ?_)
  refine WPl.l 2 3 rfl rfl rfl (o_boxg rfl) ?_
  refine WPl.l 3 4 rfl rfl rfl (o_alloc Z72) ?_
  refine WPl.v rfl (o_assign rfl) ?_
  refine WPl.nil (EX.then (WP.seq (WP.region ?_)))
  refine WPl.v rfl (o_ldpa G28 rfl rfl rfl) ?_
  refine WPl.v rfl (o_build B72 rfl trivial rfl rfl) ?_
  refine WPl.l 4 5 rfl rfl rfl (o_alloc Z72) ?_
  refine WPl.s1 (o_stag G72 rfl rfl rfl ⟨rfl, rfl, rfl, rfl, rfl, rfl, rfl, rfl, rfl, rfl, (.inl ⟨_, (lx rfl), PL.one⟩), trivial⟩ rfl rfl) ?_
  refine WPl.nil (EX.then (WP.seq (WP.seq (WP.region ?_))))
  refine WPl.v rfl (o_ldpa G28 rfl rfl rfl) ?_
  refine WPl.cs 5 rfl rfl rfl rfl (o_sig 5 (ren [(0, 0)]) (c53 s hl) e53 rfl rfl rfl w53 ⟨(lx rfl), trivial⟩ r53) ?_
  refine WPl.v rfl (o_assign rfl) ?_
  refine WPl.nil (EX.then (WP.seq (WP.region ?_)))
  refine WPl.v rfl (o_move rfl) ?_
  refine WPl.v rfl (o_neq rfl rfl) ?_
  refine WPl.nil (EX.then ?_)
  refine WP.cond rfl (fun hc1 => ?_) (fun hc1 => ?_)
  · try simp only [cnd] at hc1
    refine WP.seq (WP.region ?_)
    refine WPl.v rfl (o_ldpa G72 rfl rfl rfl) ?_
    refine WPl.v rfl (o_move rfl) ?_
    refine WPl.s1 (o_stag G72 rfl rfl rfl ⟨rfl, rfl, rfl, rfl, rfl, rfl, rfl, rfl, rfl, rfl, (.inl ⟨_, (lx rfl), PL.one⟩), trivial⟩ rfl rfl) ?_
    refine WPl.v rfl (o_assign rfl) ?_
    refine WPl.nil (EX.then (WP.ret (EX.ret_then ?_)))
    rw [hch]
    exact EX.fin (ren [(0, 0)]) (.inl rfl) rfl (.cellg G72 rfl rfl rfl (.tmp rfl .nil)) rfl (by simp [SV.res, El.res, At.res, keys]) ⟨(lx rfl), trivial⟩ (by simp) (by simp)
  · try simp only [cnd] at hc1
    simp [hch] at hc1
theorem w30C {s : Shop} {v : Bool} : ∀ x ∈ ([.e (.g [ai (s.pounds), ai (s.tl), ai (s.th), ai (s.al), ai (s.ah), ai (s.room), ai (s.tpl), ai (s.tph), ai (s.apl), ai (s.aph), .q 0]), .e (.a (.q 1))] : List SV), x.res (keys (α := Pred) [(0, PL EPig (s.pigs)), (1, IsS s v)]) := by simp [SV.res, El.res, At.res, keys]
theorem r30C {s : Shop} {v : Bool} : SV.res (keys (α := Pred) [(0, PL EPig (s.pigs))]) (.t [.g [ai (s.pounds), ai (s.tl), ai (s.th), ai (s.al), ai (s.ah), ai (s.room), ai (s.tpl), ai (s.tph), ai (s.apl), ai (s.aph), .q 0], .a (ai (opV v))]) := by simp [SV.res, El.res, At.res, keys]
set_option maxHeartbeats 4000000 in
theorem c30C (s : Shop) (v : Bool) (hf : s.chk = true) : Sig Try.prog 30 [.e (.g [ai (s.pounds), ai (s.tl), ai (s.th), ai (s.al), ai (s.ah), ai (s.room), ai (s.tpl), ai (s.tph), ai (s.apl), ai (s.aph), .q 0]), .e (.a (.q 1))] [(0, PL EPig (s.pigs)), (1, IsS s v)] (.t [.g [ai (s.pounds), ai (s.tl), ai (s.th), ai (s.al), ai (s.ah), ai (s.room), ai (s.tpl), ai (s.tph), ai (s.apl), ai (s.aph), .q 0], .a (ai (opV v))]) [(0, PL EPig (s.pigs))] := by
  have hch : errM s.chk = 0 := by simp [hf, errM]
  refine Sig.intro Try.func30 rfl 2 [(0, .e (.g [ai (s.pounds), ai (s.tl), ai (s.th), ai (s.al), ai (s.ah), ai (s.room), ai (s.tpl), ai (s.tph), ai (s.apl), ai (s.aph), .q 0])), (1, .e (.a (.q 1)))] rfl w30C rfl rfl fun I w => ?_
  refine WP.seq (WP.region ?_)
  refine WPl.l 2 3 rfl rfl rfl (o_boxg rfl) ?_
  refine WPl.l 3 4 rfl rfl rfl (o_alloc Z72) ?_
  refine WPl.v rfl (o_assign rfl) ?_
  refine WPl.nil (EX.then (WP.seq (WP.region ?_)))
  refine WPl.v rfl (o_ldpa G28 rfl rfl rfl) ?_
  refine WPl.v rfl (o_build B72 rfl trivial rfl rfl) ?_
  refine WPl.l 4 5 rfl rfl rfl (o_alloc Z72) ?_
  refine WPl.s1 (o_stag G72 rfl rfl rfl ⟨rfl, rfl, rfl, rfl, rfl, rfl, rfl, rfl, rfl, rfl, (.inl ⟨_, (lx rfl), PL.one⟩), trivial⟩ rfl rfl) ?_
  refine WPl.nil (EX.then (WP.seq (WP.seq (WP.region ?_))))
  refine WPl.v rfl (o_ldpa G28 rfl rfl rfl) ?_
  refine WPl.cs 5 rfl rfl rfl rfl (o_sig 5 (ren [(0, 0)]) (c53 s (by have := (Shop.pigsOK hf).2; omega)) e53 rfl rfl rfl w53 ⟨(lx rfl), trivial⟩ r53) ?_
  refine WPl.v rfl (o_assign rfl) ?_
  refine WPl.nil (EX.then (WP.seq (WP.region ?_)))
  refine WPl.v rfl (o_move rfl) ?_
  refine WPl.v rfl (o_neq rfl rfl) ?_
  refine WPl.nil (EX.then ?_)
  refine WP.cond rfl (fun hc1 => ?_) (fun hc1 => ?_)
  · try simp only [cnd] at hc1
    simp [hch] at hc1
  · try simp only [cnd] at hc1
    refine WP.skip (EX.then (WP.seq (WP.seq (WP.region ?_))))
    refine WPl.v rfl (o_move rfl) ?_
    refine WPl.v rfl (o_nefn Try.underlying76 rfl ((lx rfl).of FvP.fn)) ?_
    refine WPl.v rfl (o_move rfl) ?_
    refine WPl.on rfl ⟨_, _, rfl, rfl, rfl⟩ (o_move rfl) ?_
    refine WPl.on rfl ⟨_, _, rfl, rfl, rfl⟩ (o_ldpa G72 rfl rfl rfl) ?_
    refine WPl.cL 6 rfl rfl rfl rfl ⟨_, _, rfl, rfl, rfl⟩ (o_callfv (svs := [.e (.g [ai (s.pounds), ai (s.tl), ai (s.th), ai (s.al), ai (s.ah), ai (s.room), ai (s.tpl), ai (s.tph), ai (s.apl), ai (s.aph), .q 0])]) 5 (ren [(0, 0)]) rfl (lx rfl) rfl rfl SvsOK.rf (by simp [SV.res, El.res, At.res, keys]) ⟨(lx rfl), trivial⟩ (by simp [SV.res, El.res, At.res, keys])) ?_
    refine WPl.on rfl ⟨_, _, rfl, rfl, rfl⟩ (o_not rfl) ?_
    refine WPl.v rfl (o_pickT rfl rfl) ?_
    refine WPl.nil (EX.then ?_)
    refine WP.cond rfl (fun hc2 => ?_) (fun hc2 => ?_)
    · try simp only [cnd] at hc2
      refine WP.seq (WP.region ?_)
      refine WPl.v rfl (o_ldpa G72 rfl rfl rfl) ?_
      refine WPl.s1 (o_stag G72 rfl rfl rfl ⟨rfl, rfl, rfl, rfl, rfl, rfl, rfl, rfl, rfl, rfl, (.inl ⟨_, (lx rfl), PL.one⟩), trivial⟩ rfl rfl) ?_
      refine WPl.v rfl (o_assign rfl) ?_
      refine WPl.nil (EX.then (WP.ret (EX.ret_then ?_)))
      rw [show opV v = 1 from by rw [show v = false from hc2]; rfl]
      exact EX.fin (ren [(0, 0)]) (.inl rfl) rfl (.cellg G72 rfl rfl rfl (.tmp rfl .nil)) rfl (by simp [SV.res, El.res, At.res, keys]) ⟨(lx rfl), trivial⟩ (by simp) (by simp)
    · try simp only [cnd] at hc2
      refine WP.skip (EX.then (WP.seq (WP.region ?_)))
      refine WPl.v rfl (o_ldpa G72 rfl rfl rfl) ?_
      refine WPl.s1 (o_stag G72 rfl rfl rfl ⟨rfl, rfl, rfl, rfl, rfl, rfl, rfl, rfl, rfl, rfl, (.inl ⟨_, (lx rfl), PL.one⟩), trivial⟩ rfl rfl) ?_
      refine WPl.v rfl (o_assign rfl) ?_
      refine WPl.nil (EX.then (WP.ret ?_))
      rw [show opV v = 0 from by rw [show v = true from hc2]; rfl]
      exact EX.fin (ren [(0, 0)]) (.inl rfl) rfl (.cellg G72 rfl rfl rfl (.tmp rfl .nil)) rfl (by simp [SV.res, El.res, At.res, keys]) ⟨(lx rfl), trivial⟩ (by simp) (by simp)
theorem w31 {s : Shop} {add : List Int} : ∀ x ∈ ([.e (.g [ai (s.pounds), ai (s.tl), ai (s.th), ai (s.al), ai (s.ah), ai (s.room), ai (s.tpl), ai (s.tph), ai (s.apl), ai (s.aph), .q 0]), .e (.a (.q 1))] : List SV), x.res (keys (α := Pred) [(0, PL EPig (s.pigs)), (1, PP (EP.box (PL EP.int (add))) ())]) := by simp [SV.res, El.res, At.res, keys]
theorem r31 {s : Shop} {add : List Int} : SV.res (keys (α := Pred) []) (.b (isAdd s add)) := by simp [SV.res, El.res, At.res, keys]
set_option maxHeartbeats 4000000 in
theorem c31 (s : Shop) (add : List Int) (hs : s.chk = true) : Sig Try.prog 31 [.e (.g [ai (s.pounds), ai (s.tl), ai (s.th), ai (s.al), ai (s.ah), ai (s.room), ai (s.tpl), ai (s.tph), ai (s.apl), ai (s.aph), .q 0]), .e (.a (.q 1))] [(0, PL EPig (s.pigs)), (1, PP (EP.box (PL EP.int (add))) ())] (.b (isAdd s add)) [] := by
  refine Sig.intro Try.func31 rfl 2 [(0, .e (.g [ai (s.pounds), ai (s.tl), ai (s.th), ai (s.al), ai (s.ah), ai (s.room), ai (s.tpl), ai (s.tph), ai (s.apl), ai (s.aph), .q 0])), (1, .e (.a (.q 1)))] rfl w31 rfl rfl fun I w => ?_
  refine WP.seq (WP.region ?_)
  refine WPl.l 2 3 rfl rfl rfl (o_boxg rfl) ?_
  refine WPl.v rfl (o_assign rfl) ?_
  refine WPl.nil (EX.then (WP.seq (WP.region ?_)))
  refine WPl.v rfl (o_ldpa G72 rfl rfl rfl) ?_
  refine WPl.x 3 4 rfl rfl rfl (o_ldqx S32 rfl (lx rfl) boxx) ?_
  refine WPl.cs 4 rfl rfl rfl rfl (o_sig 4 (ren [(0, 0), (1, 3)]) (c32 s add hs) e32 rfl rfl rfl w32 ⟨(lx rfl), (lx rfl), trivial⟩ r32) ?_
  refine WPl.v rfl (o_assign rfl) ?_
  refine WPl.nil (EX.then (WP.ret ?_))
  exact EX.fin id (.inl rfl) rfl (.tmp rfl .nil) rfl r31 trivial (by simp) (by simp)
theorem w28 {s : Shop} {z : AdL s} : ∀ x ∈ ([.e (.g [ai (s.pounds), ai (s.tl), ai (s.th), ai (s.al), ai (s.ah), ai (s.room), ai (s.tpl), ai (s.tph), ai (s.apl), ai (s.aph), .q 0]), .e (.a (.q 1))] : List SV), x.res (keys (α := Pred) [(0, PL EPig (s.pigs)), (1, PL EP.int (z.1))]) := by simp [SV.res, El.res, At.res, keys]
theorem r28 {s : Shop} {z : AdL s} : SV.res (keys (α := Pred) [(0, PL EP.int (priceG s z.1))]) (.e (.a (.q 0))) := by simp [SV.res, El.res, At.res, keys]
set_option maxHeartbeats 4000000 in
theorem c28 (s : Shop) (z : AdL s) (hs : s.chk = true) : Sig Try.prog 28 [.e (.g [ai (s.pounds), ai (s.tl), ai (s.th), ai (s.al), ai (s.ah), ai (s.room), ai (s.tpl), ai (s.tph), ai (s.apl), ai (s.aph), .q 0]), .e (.a (.q 1))] [(0, PL EPig (s.pigs)), (1, PL EP.int (z.1))] (.e (.a (.q 0))) [(0, PL EP.int (priceG s z.1))] := by
  have hpg := Shop.pigsOK hs
  have hx := z.2
  refine Sig.intro Try.func28 rfl 2 [(0, .e (.g [ai (s.pounds), ai (s.tl), ai (s.th), ai (s.al), ai (s.ah), ai (s.room), ai (s.tpl), ai (s.tph), ai (s.apl), ai (s.aph), .q 0])), (1, .e (.a (.q 1)))] rfl w28 rfl rfl fun I w => ?_
  refine WP.seq (WP.region ?_)
  refine WPl.l 2 3 rfl rfl rfl (o_boxg rfl) ?_
  refine WPl.v rfl (o_assign rfl) ?_
  refine WPl.nil (EX.then (WP.seq ?_))
  refine WP.imp (Imp.nam 3 4 (.func (.func 51) #[] #[]) (R := (PigQ Pig.pence).and (Pred.is (.func (.func 51) #[] #[]))) (fun I => FvP.namea (fun (x : Pig) => (c51 x)) e51 (fun _ => (by simp [SV.res, El.res, At.res, keys])) I) rfl rfl) ?_
  refine WP.imp (Imp.nam 4 5 (.func (.func 52) #[] #[]) (R := (PigQ Pig.pounds).and (Pred.is (.func (.func 52) #[] #[]))) (fun I => FvP.namea (fun (x : Pig) => (c52 x)) e52 (fun _ => (by simp [SV.res, El.res, At.res, keys])) I) rfl rfl) ?_
  refine WP.draw (nf := 6) [⟨[6, 8, 9], [], [], [], []⟩, ⟨[5, 8, 9], [], [], [], []⟩, ⟨[8, 9], [], [], [], [0, 1]⟩, ⟨[5, 6, 7, 9], [], [], [], []⟩, ⟨[5, 6, 7, 8], [], [], [], []⟩, ⟨[], [], [], [], [0, 1, 2, 3, 4]⟩, ⟨[], [], [5], [5], [0, 1, 2, 3, 4, 5]⟩, ⟨[], [], [], [], [0, 1, 2, 3, 4, 5, 6]⟩] (by kernel_rfl) (by kernel_rfl) ?_
  refine DRQ.v rfl rfl rfl (o_ldpa G72 rfl rfl rfl) ?_
  refine DRQ.v rfl rfl rfl (o_move rfl) ?_
  refine DRQ.cs rfl rfl rfl rfl (o_sigc 5 (ren [(0, 0), (1, 1), (2, 3)]) (c50 s z.1 Pig.pence hpg hx.2 (by omega) (fun p h => by have := Pig.bnds h; (show 0 ≤ p.pence ∧ p.pence ≤ 99); omega)) e50 rfl rfl ⟨.inl rfl, .inl rfl, .inr ⟨_, _, rfl, fun _ => rfl, (lxr rfl)⟩, trivial⟩ w50 ⟨(lx rfl), (lx rfl), (lxl rfl), trivial⟩ r50) ?_
  refine DRQ.v rfl rfl rfl (o_ldpa G72 rfl rfl rfl) ?_
  refine DRQ.v rfl rfl rfl (o_move rfl) ?_
  refine DRQ.cs rfl rfl rfl rfl (o_sigc 5 (ren [(0, 0), (1, 1), (2, 4)]) (c50 s z.1 Pig.pounds hpg hx.2 (by omega) (fun p h => by have := Pig.bnds h; (show 0 ≤ p.pounds ∧ p.pounds ≤ 99); omega)) e50 rfl rfl ⟨.inl rfl, .inl rfl, .inr ⟨_, _, rfl, fun _ => rfl, (lxr rfl)⟩, trivial⟩ w50 ⟨(lx rfl), (lx rfl), (lxl rfl), trivial⟩ r50) ?_
  refine DRQ.l 5 rfl rfl rfl rfl (o_bsl (E := EP.int) (l := [sumOf Pig.pence s.pigs z.1, sumOf Pig.pounds s.pigs z.1]) R32 rfl rfl (.cons (rfl) rfl (eok_int) (.cons (rfl) rfl (eok_int) (.nil))) rfl rfl) ?_
  refine DRQ.v rfl rfl rfl (o_assign rfl) ?_
  refine DRQ.nil' ?_
  refine EX.then (WP.ret ?_)
  refine EX.imp (Imp.frz (E := EP.int) (l := [sumOf Pig.pence s.pigs z.1, sumOf Pig.pounds s.pigs z.1]) 5 rfl rfl) ?_
  exact EX.fin (ren [(0, 5)]) (.inl rfl) rfl (.tmp rfl .nil) rfl r28 ⟨(lx rfl), trivial⟩ (by simp) (by simp)
theorem w79 {n : Int} : ∀ x ∈ ([.i (n)] : List SV), x.res (keys (α := Pred) []) := by simp [SV.res, El.res, At.res, keys]
theorem r79  : SV.res (keys (α := Pred) []) (.b (false)) := by simp [SV.res, El.res, At.res, keys]
set_option maxHeartbeats 4000000 in
theorem c79 (n : Int)  : Sig Try.prog 79 [.i (n)] [] (.b (false)) [] := by
  refine Sig.intro Try.func79 rfl 0 [(0, .i (n))] rfl w79 rfl rfl fun I w => ?_
  refine WP.seq (WP.region ?_)
  refine WPl.v rfl (o_assign rfl) ?_
  refine WPl.nil (EX.then (WP.seq (WP.region ?_)))
  refine WPl.v rfl (o_move rfl) ?_
  refine WPl.v rfl (o_move rfl) ?_
  refine WPl.v rfl (o_neq rfl rfl) ?_
  refine WPl.v rfl (o_assign rfl) ?_
  refine WPl.nil (EX.then (WP.ret ?_))
  rw [show decide (n ≠ n) = false from by simp]
  exact EX.fin id (.inl rfl) rfl (.tmp rfl .nil) rfl (by simp [SV.res, El.res, At.res, keys]) trivial (by simp) (by simp)
theorem w72 {a b : Int} : ∀ x ∈ ([.i (a), .i (b)] : List SV), x.res (keys (α := Pred) []) := by simp [SV.res, El.res, At.res, keys]
theorem r72 {a b : Int} : SV.res (keys (α := Pred) []) (.i (cmpI a b)) := by simp [SV.res, El.res, At.res, keys]
set_option maxHeartbeats 4000000 in
theorem c72 (a b : Int)  : Sig Try.prog 72 [.i (a), .i (b)] [] (.i (cmpI a b)) [] := by
  refine Sig.intro Try.func72 rfl 0 [(0, .i (a)), (1, .i (b))] rfl w72 rfl rfl fun I w => ?_
  refine WP.seq (WP.region ?_)
  refine WPl.v rfl (o_assign rfl) ?_
  refine WPl.nil (EX.then (WP.seq (WP.region ?_)))
  refine WPl.v rfl (o_move rfl) ?_
  refine WPl.cs 0 rfl rfl rfl rfl (o_sig 0 id (c79 a) e79 rfl rfl rfl w79 trivial r79) ?_
  refine WPl.v rfl (o_assign rfl) ?_
  refine WPl.nil (EX.then (WP.seq (WP.region ?_)))
  refine WPl.v rfl (o_move rfl) ?_
  refine WPl.cs 0 rfl rfl rfl rfl (o_sig 0 id (c79 b) e79 rfl rfl rfl w79 trivial r79) ?_
  refine WPl.v rfl (o_assign rfl) ?_
  refine WPl.nil (EX.then (WP.seq (WP.seq (WP.region ?_))))
  refine WPl.v rfl (o_move rfl) ?_
  refine WPl.nil (EX.then ?_)
  refine WP.cond rfl (fun h => by cases h) (fun _ => ?_)
  refine WP.skip (EX.then (WP.seq (WP.seq (WP.region ?_))))
  refine WPl.v rfl (o_move rfl) ?_
  refine WPl.nil (EX.then ?_)
  refine WP.cond rfl (fun h => by cases h) (fun _ => ?_)
  refine WP.skip (EX.then (WP.seq (WP.seq (WP.region ?_))))
  refine WPl.v rfl (o_move rfl) ?_
  refine WPl.v rfl (o_move rfl) ?_
  refine WPl.v rfl (o_lss rfl rfl) ?_
  refine WPl.nil (EX.then ?_)
  refine WP.cond rfl (fun hc3 => ?_) (fun hc3 => ?_)
  · try simp only [cnd] at hc3
    refine WP.seq (WP.region ?_)
    refine WPl.v rfl (o_assign rfl) ?_
    refine WPl.nil (EX.then (WP.ret (EX.ret_then ?_)))
    rw [show cmpI a b = -1 from if_pos hc3]
    exact EX.fin id (.inl rfl) rfl (.tmp rfl .nil) rfl (by simp [SV.res, El.res, At.res, keys]) trivial (by simp) (by simp)
  · try simp only [cnd] at hc3
    refine WP.skip (EX.then (WP.seq (WP.seq (WP.region ?_))))
    refine WPl.v rfl (o_move rfl) ?_
    refine WPl.v rfl (o_move rfl) ?_
    refine WPl.v rfl (o_gtr rfl rfl) ?_
    refine WPl.nil (EX.then ?_)
    refine WP.cond rfl (fun hc4 => ?_) (fun hc4 => ?_)
    · try simp only [cnd] at hc4
      refine WP.seq (WP.region ?_)
      refine WPl.v rfl (o_assign rfl) ?_
      refine WPl.nil (EX.then (WP.ret (EX.ret_then ?_)))
      rw [show cmpI a b = 1 from by unfold cmpI; rw [if_neg hc3, if_pos hc4]]
      exact EX.fin id (.inl rfl) rfl (.tmp rfl .nil) rfl (by simp [SV.res, El.res, At.res, keys]) trivial (by simp) (by simp)
    · try simp only [cnd] at hc4
      refine WP.skip (EX.then (WP.seq (WP.region ?_)))
      refine WPl.v rfl (o_assign rfl) ?_
      refine WPl.nil (EX.then (WP.ret ?_))
      rw [show cmpI a b = 0 from by unfold cmpI; rw [if_neg hc3, if_neg hc4]]
      exact EX.fin id (.inl rfl) rfl (.tmp rfl .nil) rfl (by simp [SV.res, El.res, At.res, keys]) trivial (by simp) (by simp)
theorem w49 {a b : List Int} : ∀ x ∈ ([.e (.a (.q 0)), .e (.a (.q 1))] : List SV), x.res (keys (α := Pred) [(0, PL EP.int (a)), (1, PL EP.int (b))]) := by simp [SV.res, El.res, At.res, keys]
theorem r49 {a b : List Int} : SV.res (keys (α := Pred) []) (.i (cmpL a b)) := by simp [SV.res, El.res, At.res, keys]
set_option maxHeartbeats 4000000 in
theorem c49 (a b : List Int) (ha : a.length ≤ 1000) (hb : b.length ≤ 1000) : Sig Try.prog 49 [.e (.a (.q 0)), .e (.a (.q 1))] [(0, PL EP.int (a)), (1, PL EP.int (b))] (.i (cmpL a b)) [] := by
  refine Sig.intro Try.func49 rfl 2 [(0, .e (.a (.q 0))), (1, .e (.a (.q 1)))] rfl w49 rfl rfl fun I w => ?_
  refine WP.seq (WP.region ?_)
  refine WPl.v rfl (o_assign rfl) ?_
  refine WPl.nil (EX.then (WP.seq (WP.seq (WP.region ?_))))
  refine WPl.v rfl (o_move rfl) ?_
  refine WPl.v rfl (o_lenq L32 rfl (lx rfl)) ?_
  refine WPl.v rfl (o_move rfl) ?_
  refine WPl.nil (EX.then (WP.block ?_))
  refine WP.loop (Gh := Nat) (fun i => ⟨2, [(0, .e (.a (.q 0))), (1, .e (.a (.q 1))), (4, .i (0)), (9, .e (.a (.q 0))), (10, .i ((a.length : Int))), (11, .i ((i : Int)))], [(0, PL EP.int (a)), (1, PL EP.int (b))], [], [], []⟩) (fun i => i ≤ a.length ∧ i ≤ b.length ∧ allI (sameAt a b) i = true) (fun i => a.length - i) (0) id ?_ (LeR.of ⟨rfl, rfl, rfl, rfl, rfl, rfl, trivial⟩ ⟨(lx rfl), (lx rfl), trivial⟩ trivial rfl rfl rfl rfl rfl) ?_
  · exact ⟨by omega, ⟨by omega, rfl⟩⟩
  intro i hφ
  have hi : i ≤ a.length := hφ.1
  obtain ⟨_, hb1, hall⟩ := hφ
  refine WP.seq (WP.region ?_)
  refine WPl.v rfl (o_lss rfl rfl) ?_
  refine WPl.nil (EX.then (WP.seq ?_))
  refine WP.cond rfl (fun hc1 => ?_) (fun hc1 => ?_)
  · try simp only [cnd] at hc1
    refine WP.skip (EX.then (WP.seq (WP.block (WP.seq (WP.region ?_)))))
    refine WPl.v rfl (o_move rfl) ?_
    refine WPl.x 2 3 rfl rfl rfl (o_idx L32 rfl (lx rfl) rfl (by first | omega | (simp; omega)) (by first | omega | (simp; omega))) ?_
    refine WPl.v rfl (o_ldq S3 rfl (lx rfl) intc) ?_
    refine WPl.v rfl (o_assign rfl) ?_
    refine WPl.v rfl (o_assign rfl) ?_
    refine WPl.nil (EX.then (WP.seq (WP.seq (WP.region ?_))))
    refine WPl.v rfl (o_move rfl) ?_
    refine WPl.v rfl (o_move rfl) ?_
    refine WPl.v rfl (o_lenq L32 rfl (lx rfl)) ?_
    refine WPl.v rfl (o_geq rfl rfl) ?_
    refine WPl.nil (EX.then ?_)
    refine WP.cond rfl (fun hc2 => ?_) (fun hc2 => ?_)
    · try simp only [cnd] at hc2
      refine WP.seq (WP.region ?_)
      refine WPl.v rfl (o_assign rfl) ?_
      refine WPl.nil (EX.then (WP.ret (EX.ret_then (EX.ret_blk (EX.ret_then (EX.ret_then (EX.ret_blk (EX.ret_then ?_))))))))
      rw [show cmpL a b = 1 from cmpL_long hall (by omega) (by omega)]
      exact EX.fin id (.inl rfl) rfl (.tmp rfl .nil) rfl (by simp [SV.res, El.res, At.res, keys]) trivial (by simp) (by simp)
    · try simp only [cnd] at hc2
      refine WP.skip (EX.then (WP.seq (WP.region ?_)))
      refine WPl.v rfl (o_move rfl) ?_
      refine WPl.v rfl (o_move rfl) ?_
      refine WPl.x 3 4 rfl rfl rfl (o_idx L32 rfl (lx rfl) rfl (by first | omega | (simp; omega)) (by first | omega | (simp; omega))) ?_
      refine WPl.v rfl (o_ldq S3 rfl (lx rfl) intc) ?_
      refine WPl.v rfl (o_assign rfl) ?_
      refine WPl.nil (EX.then (WP.seq (WP.region ?_)))
      refine WPl.v rfl (o_move rfl) ?_
      refine WPl.v rfl (o_move rfl) ?_
      refine WPl.cs 4 rfl rfl rfl rfl (o_sig 4 id (c72 (nth a (i : Int)) (nth b (i : Int))) e72 rfl rfl rfl w72 trivial r72) ?_
      refine WPl.v rfl (o_assign rfl) ?_
      refine WPl.nil (EX.then (WP.seq (WP.region ?_)))
      refine WPl.v rfl (o_move rfl) ?_
      refine WPl.v rfl (o_neq rfl rfl) ?_
      refine WPl.nil (EX.then ?_)
      refine WP.cond rfl (fun hc3 => ?_) (fun hc3 => ?_)
      · try simp only [cnd] at hc3
        refine WP.seq (WP.region ?_)
        refine WPl.v rfl (o_move rfl) ?_
        refine WPl.v rfl (o_assign rfl) ?_
        refine WPl.nil (EX.then (WP.ret (EX.ret_blk (EX.ret_then (EX.ret_then (EX.ret_blk (EX.ret_then ?_)))))))
        rw [show cmpL a b = cmpI (nth a (i : Int)) (nth b (i : Int)) from cmpL_at hall (by omega) (by omega) hc3]
        exact EX.fin id (.inl rfl) rfl (.tmp rfl .nil) rfl (by simp [SV.res, El.res, At.res, keys]) trivial (by simp) (by simp)
      · try simp only [cnd] at hc3
        refine WP.skip (EX.blk (EX.then (WP.region ?_)))
        refine WPl.v rfl (o_add rfl rfl (by first | omega | (simp; omega)) (by first | omega | (simp; omega))) ?_
        refine WPl.v rfl (o_move rfl) ?_
        refine WPl.nil ?_
        refine EX.again (i + 1) id (by exact ⟨by omega, ⟨by omega, by simp only [allI, hall, Bool.true_and, sameAt, decide_eq_true_eq]; exact cmpI_eq.1 hc3⟩⟩) (by omega) (LeR.of ⟨rfl, rfl, rfl, rfl, rfl, rfl, trivial⟩ ⟨(lx rfl), (lx rfl), trivial⟩ trivial rfl rfl rfl rfl rfl)
  · try simp only [cnd] at hc1
    refine WP.exit (EX.exit_then (EX.exit_then (EX.exit_blk (EX.then (WP.seq (WP.seq (WP.region ?_)))))))
    refine WPl.v rfl (o_move rfl) ?_
    refine WPl.v rfl (o_lenq L32 rfl (lx rfl)) ?_
    refine WPl.v rfl (o_move rfl) ?_
    refine WPl.v rfl (o_lenq L32 rfl (lx rfl)) ?_
    refine WPl.v rfl (o_lss rfl rfl) ?_
    refine WPl.nil (EX.then ?_)
    refine WP.cond rfl (fun hc4 => ?_) (fun hc4 => ?_)
    · try simp only [cnd] at hc4
      refine WP.seq (WP.region ?_)
      refine WPl.v rfl (o_assign rfl) ?_
      refine WPl.nil (EX.then (WP.ret (EX.ret_then ?_)))
      rw [show cmpL a b = -1 from cmpL_short hall (by omega) (by omega)]
      exact EX.fin id (.inl rfl) rfl (.tmp rfl .nil) rfl (by simp [SV.res, El.res, At.res, keys]) trivial (by simp) (by simp)
    · try simp only [cnd] at hc4
      refine WP.skip (EX.then (WP.seq (WP.region ?_)))
      refine WPl.v rfl (o_assign rfl) ?_
      refine WPl.nil (EX.then (WP.ret ?_))
      rw [show cmpL a b = 0 from cmpL_same hall (by omega) (by omega)]
      exact EX.fin id (.inl rfl) rfl (.tmp rfl .nil) rfl (by simp [SV.res, El.res, At.res, keys]) trivial (by simp) (by simp)
theorem w47 {s : Shop} : ∀ x ∈ ([.e (.g [ai (s.pounds), ai (s.tl), ai (s.th), ai (s.al), ai (s.ah), ai (s.room), ai (s.tpl), ai (s.tph), ai (s.apl), ai (s.aph), .q 0])] : List SV), x.res (keys (α := Pred) [(0, PL EPig (s.pigs))]) := by simp [SV.res, El.res, At.res, keys]
set_option maxHeartbeats 4000000 in
theorem c47 (s : Shop) (hs : s.chk = true) : SigJ Try.prog 47 [.e (.g [ai (s.pounds), ai (s.tl), ai (s.th), ai (s.al), ai (s.ah), ai (s.room), ai (s.tpl), ai (s.tph), ai (s.apl), ai (s.aph), .q 0])] [(0, PL EPig (s.pigs))] (s.adItemsT) := by
  have hpg := Shop.pigsOK hs
  have hp4 := hpg.2
  have h0b := adBox_pos hpg
  have hN0 : 0 < s.adBox.length := (List.getElem?_eq_some_iff.1 h0b).1
  refine SigJ.intro Try.func47 rfl 2 1 w47 rfl rfl rfl fun I w l Y K F0 hround => ?_
  have hF : ∀ c, F0 c → F0 c := fun _ h => h
  refine WP.seq (WP.region ?_)
  refine WPl.l 2 3 rfl rfl rfl (o_boxg rfl) ?_
  refine WPl.nil (EX.then (WP.seq (WP.region ?_)))
  refine WPl.v rfl (o_fldp F72_0 rfl) ?_
  refine WPl.v rfl (o_fldp F28_4 rfl) ?_
  refine WPl.v rfl (o_ldp S26 rfl rfl rfl) ?_
  refine WPl.v rfl (o_lenq L26 rfl (lx rfl)) ?_
  refine WPl.u1 (k := 3) (m := 4) rfl rfl rfl (OpG.newer0 (o_make (z := 0) (E := EP.int) s.pigs.length R32 (fun _ => rfl) rfl rfl (by first | omega | (simp; omega)) (by first | omega | (simp; omega)))) ?_
  refine WPl.v rfl (o_assign rfl) ?_
  refine WPl.nil (EX.then (WP.block ?_))
  refine WP.loop (Gh := Nat × (Nat → Prop)) (fun (⟨i, F⟩ : Nat × (Nat → Prop)) => ⟨4, [(1, .e (.a (.v (yv l)))), (2, .e (.a (.p 2 (0)))), (4, .e (.a (.q 3)))], [(0, PL EPig (s.pigs)), (3, Pred.newer _)], [(1, .ext ((Y (s.adIdx i)).xp F)), (2, .blk [ai (s.pounds), ai (s.tl), ai (s.th), ai (s.al), ai (s.ah), ai (s.room), ai (s.tpl), ai (s.tph), ai (s.apl), ai (s.aph), .q 0] 72), (3, .own 3 EP.int.size ((nth s.adBox (i : Int))).length (RP EP.int ((nth s.adBox (i : Int)))))], [], []⟩) (fun (⟨i, F⟩ : Nat × (Nat → Prop)) => i < s.adBox.length ∧ ∀ c, F0 c → F c) (fun (⟨i, F⟩ : Nat × (Nat → Prop)) => s.adBox.length - i) ((0, F0)) id ?_ (LeR.of ⟨rfl, rfl, rfl, trivial⟩ ⟨(lx rfl), (lx rfl), trivial⟩ ⟨(congrArg (fun z => some (Ent.ext ((Y z).xp F0))) (show 0 = s.adIdx 0 from rfl)), rfl, (congrArg (fun z => some (Ent.own 3 EP.int.size (List.length z) (RP EP.int z))) (show (List.replicate s.pigs.length 0) = ((fun (⟨i, F⟩ : Nat × (Nat → Prop)) => (nth s.adBox (i : Int))) (0, F0)) from by dsimp only; rw [nthN hN0]; exact (List.getElem?_eq_some_iff.1 h0b).2.symm)), trivial⟩ rfl rfl rfl rfl rfl) ?_
  · exact ⟨hN0, fun _ h => h⟩
  rintro ⟨i, F⟩ hφ
  obtain ⟨hiN, hF⟩ : i < s.adBox.length ∧ ∀ c, F0 c → F c := hφ
  obtain ⟨hrl, hrb, hrm⟩ := adBox_row hpg hiN
  refine WP.block (WP.seq (WP.seq (WP.region ?_)))
  refine WPl.v rfl (o_ldpa G72 rfl rfl rfl) ?_
  refine WPl.v rfl (o_move rfl) ?_
  refine WPl.cs 4 rfl rfl rfl rfl (o_sigbc 4 (ren [(0, 0), (1, 3)]) (Sig.free (c32 s (nth s.adBox (i : Int)) hs)) e32 rfl rfl SvsOK.rf w32 ⟨.x (lx rfl), .own rfl rfl, trivial⟩ r32) ?_
  refine WPl.v rfl (o_move rfl) ?_
  rcases Bool.eq_false_or_eq_true (isAdd s (nth s.adBox (i : Int))) with hs14 | hs14
  · refine WPl.imp (Imp.bitF 14 (b' := true) rfl hs14) ?_
    refine WPl.on rfl ⟨_, _, rfl, rfl, rfl⟩ (o_move rfl) ?_
    refine WPl.on rfl ⟨_, _, rfl, rfl, rfl⟩ (o_move rfl) ?_
    refine WPl.cL 5 rfl rfl rfl rfl ⟨_, _, rfl, rfl, rfl⟩ (o_sigbc 4 (ren [(0, 3)]) (c69 (nth s.adBox (i : Int)) (by omega)) e69 rfl rfl SvsOK.rf w69 ⟨.own rfl rfl, trivial⟩ r69) ?_
    refine WPl.yield (Y' := Y (s.adIdx i + 1)) (K' := K) 1 rfl rfl ⟨_, _, rfl, rfl, rfl⟩ rfl rfl rfl (yieldH (ky := 1) (J := [0]) (it := ⟨[.e (.a (.q 0))], [(0, PT EP.int ((nth s.adBox (i : Int))) 3)], []⟩) (ren [(0, 4)]) (hround (s.adIdx i) _ (adIdx_atT hiN hs14)) rfl (hF) SvsOK.rf (by simp [SV.res, El.res, At.res, keys]) ⟨(lx rfl), trivial⟩ trivial) fun by18 F1 hF1 => ?_
    have hF : ∀ c, F0 c → F1 c := fun c hc => hF1 c (hF c hc)
    cases by18
    · skip
      refine WPl.on rfl ⟨_, _, rfl, rfl, rfl⟩ (o_not rfl) ?_
      refine WPl.v rfl (o_pickT rfl rfl) ?_
      refine WPl.nil (EX.then ?_)
      refine WP.cond rfl (fun _ => ?_) (fun h => by cases h)
      refine WP.ret (EX.ret_then (EX.ret_blk (EX.ret_then (EX.ret_blk ?_))))
      exact EX.finI (.inl rfl) rfl rfl (ky := 1) (Y := K) rfl (fun _ _ h => .inr h)
    · skip
      refine WPl.on rfl ⟨_, _, rfl, rfl, rfl⟩ (o_not rfl) ?_
      refine WPl.v rfl (o_pickT rfl rfl) ?_
      refine WPl.nil (EX.then ?_)
      refine WP.cond rfl (fun h => by cases h) (fun _ => ?_)
      refine WP.skip (EX.then (WP.seq (WP.region ?_)))
      refine WPl.v rfl (o_move rfl) ?_
      refine WPl.v rfl (o_leno L32 rfl rfl) ?_
      refine WPl.v rfl (o_sub rfl rfl (by first | omega | (simp; omega)) (by first | omega | (simp; omega))) ?_
      refine WPl.v rfl (o_assign rfl) ?_
      refine WPl.nil (EX.then (WP.seq (WP.block ?_)))
      refine WP.loop (Gh := Nat) (fun j => ⟨5, [(1, .e (.a (.v (yv l)))), (2, .e (.a (.p 2 (0)))), (4, .e (.a (.q 3))), (11, .e (.g [ai (s.pounds), ai (s.tl), ai (s.th), ai (s.al), ai (s.ah), ai (s.room), ai (s.tpl), ai (s.tph), ai (s.apl), ai (s.aph), .q 0])), (12, .e (.a (.q 3))), (13, .b (isAdd s (nth s.adBox (i : Int)))), (14, .b (true)), (15, .e (.a (.v (yv l)))), (16, .e (.a (.q 3))), (17, .e (.a (.q 4))), (18, .b (true)), (19, .b (false)), (20, .b (false)), (21, .e (.a (.q 3))), (22, .i (((nth s.adBox (i : Int)).length : Int))), (23, .i (((nth s.adBox (i : Int)).length : Int) - 1)), (5, .i ((s.pigs.length : Int) - 1 - (j : Int)))], [(0, PL EPig (s.pigs)), (3, Pred.newer _), (4, PT EP.int ((nth s.adBox (i : Int))) 3)], [(1, .ext ((Y (s.adIdx i + 1)).xp F1)), (2, .blk [ai (s.pounds), ai (s.tl), ai (s.th), ai (s.al), ai (s.ah), ai (s.room), ai (s.tpl), ai (s.tph), ai (s.apl), ai (s.aph), .q 0] 72), (3, .own 3 EP.int.size (zr (nth s.adBox (i : Int)) j).length (RP EP.int (zr (nth s.adBox (i : Int)) j)))], [], []⟩) (fun j => j ≤ s.pigs.length ∧ ∀ a : Nat, s.pigs.length - j ≤ a → a < s.pigs.length → nth (nth s.adBox (i : Int)) a = (nth s.pigs a).many) (fun j => s.pigs.length - j) (0) id ?_ (LeR.of ⟨rfl, rfl, rfl, rfl, rfl, rfl, rfl, rfl, rfl, rfl, rfl, rfl, rfl, rfl, rfl, rfl, (congrArg (fun z => some (SV.i z)) (show (((nth s.adBox (i : Int)).length : Int) - 1) = ((fun j => (s.pigs.length : Int) - 1 - (j : Int)) 0) from by rw [hrl]; simp)), trivial⟩ ⟨(lx rfl), (lx rfl), (lx rfl), trivial⟩ ⟨rfl, rfl, (congrArg (fun z => some (Ent.own 3 EP.int.size (List.length z) (RP EP.int z))) (show ((nth s.adBox (i : Int))) = ((fun j => zr (nth s.adBox (i : Int)) j) 0) from by simp [zr])), trivial⟩ rfl rfl rfl rfl rfl) ?_
      · exact ⟨by omega, fun a h1 h2 => by omega⟩
      intro j hφ
      obtain ⟨hj1, hj2⟩ := hφ
      have hzl : (zr (nth s.adBox (i : Int)) j).length = s.pigs.length := by rw [zr_len (by omega)]; exact hrl
      have hzn : j < s.pigs.length → nth (zr (nth s.adBox (i : Int)) j) ((s.pigs.length : Int) - 1 - (j : Int)) = nth (nth s.adBox (i : Int)) ((s.pigs.length : Int) - 1 - (j : Int)) := fun h => by rw [← hrl]; exact zr_nth (by omega)
      refine WP.seq (WP.seq ?_)
      refine WP.imp (Imp.bit 5 6 (decide (0 ≤ ((s.pigs.length : Int) - 1 - (j : Int)))) rfl rfl) ?_
      refine WP.draw (nf := 7) [⟨[], [], [], [], []⟩, ⟨[], [], [], [], [0]⟩, ⟨[], [], [], [], [0, 1]⟩, ⟨[28, 31, 32, 33, 34, 35, 36, 37], [6], [], [], [0, 1, 2]⟩, ⟨[27, 31, 32, 33, 34, 35, 36, 37], [6], [], [], [0, 1, 2]⟩, ⟨[31, 32, 33, 34, 35, 36, 37], [6], [], [], [0, 1, 2, 3, 4]⟩, ⟨[31, 32, 33, 34, 35, 36, 37], [6], [], [], [0, 1, 2, 3, 4, 5]⟩, ⟨[27, 28, 29, 30, 34], [], [], [], [0, 1, 2]⟩, ⟨[27, 28, 29, 30, 34], [], [], [], [0, 1, 2, 7]⟩, ⟨[27, 28, 29, 30, 34], [], [], [], [0, 1, 2, 7, 8]⟩, ⟨[27, 28, 29, 30, 31, 32, 33], [], [], [], [0, 1, 2]⟩, ⟨[27, 28, 29, 30], [], [6], [6], [0, 1, 2, 7, 8, 9, 10]⟩, ⟨[27, 28, 29, 30], [], [], [], [0, 1, 2, 7, 8, 9, 10, 11]⟩, ⟨[27, 28, 29, 30], [], [], [], [0, 1, 2, 7, 8, 9, 10, 11, 12]⟩, ⟨[], [], [], [], [0, 1, 2, 3, 4, 5, 6, 7, 8, 9, 10, 11, 12, 13]⟩, ⟨[], [], [], [], [0, 1, 2, 3, 4, 5, 6, 7, 8, 9, 10, 11, 12, 13, 14]⟩] (by kernel_rfl) (by kernel_rfl) ?_
      refine DRQ.v rfl rfl rfl (o_move rfl) ?_
      refine DRQ.v rfl rfl rfl (o_geq rfl rfl) ?_
      refine DRQ.v rfl rfl rfl (o_move rfl) ?_
      refine DRQ.gv 5 rfl rfl (.plain rfl Iff.rfl rfl) rfl (fun hb => o_move rfl) ?_
      refine DRQ.gv 5 rfl rfl (.plain rfl Iff.rfl rfl) rfl (fun hb => o_move rfl) ?_
      refine DRQ.gv 5 rfl rfl (.plain rfl Iff.rfl rfl) rfl (fun hb => have hb2 := of_decide_eq_true hb; o_idxo L32 rfl rfl rfl (by first | omega | (simp; omega)) (by first | omega | (simp; omega))) ?_
      refine DRQ.gv 5 rfl rfl (.plain rfl Iff.rfl rfl) rfl (fun hb => have hb2 := of_decide_eq_true hb; o_ldoi S3 rfl rfl rfl rfl (by first | omega | (simp; omega)) (by first | omega | (simp; omega))) ?_
      refine DRQ.gv 5 rfl rfl (.plain rfl Iff.rfl rfl) rfl (fun hb => o_fldp F72_0 rfl) ?_
      refine DRQ.gv 5 rfl rfl (.plain rfl Iff.rfl rfl) rfl (fun hb => o_fldp F28_4 rfl) ?_
      refine DRQ.gv 5 rfl rfl (.plain rfl Iff.rfl rfl) rfl (fun hb => o_ldp S26 rfl rfl rfl) ?_
      refine DRQ.gv 5 rfl rfl (.plain rfl Iff.rfl rfl) rfl (fun hb => o_move rfl) ?_
      refine DRQ.gx 5 6 rfl rfl (.plain rfl Iff.rfl rfl) rfl rfl (fun hb => have hb2 := of_decide_eq_true hb; o_idx L26 rfl (lx rfl) rfl (by first | omega | (simp; omega)) (by first | omega | (simp; omega))) ?_
      refine DRQ.gv 5 rfl rfl (.plain rfl Iff.rfl rfl) rfl (fun hb => o_fldq F53_4 rfl (lxi hb rfl)) ?_
      refine DRQ.gv 5 rfl rfl (.plain rfl Iff.rfl rfl) rfl (fun hb => o_lde S3 rfl (lxi hb rfl) (strI rfl)) ?_
      refine DRQ.gv 5 rfl rfl (.plain rfl Iff.rfl rfl) rfl (fun hb => o_eql rfl rfl) ?_
      refine DRQ.v rfl rfl rfl (o_and rfl rfl rfl id) ?_
      refine DRQ.nil' ?_
      refine EX.then ?_
      refine WP.cond rfl (fun hc2 => ?_) (fun hc2 => ?_)
      · try simp only [cnd] at hc2
        obtain ⟨hge, heq⟩ := hc2
        refine WP.skip (EX.then (WP.seq (WP.block (WP.region ?_))))
        refine WPl.v rfl (o_move rfl) ?_
        refine WPl.v rfl (o_move rfl) ?_
        refine WPl.v rfl (o_idxo L32 rfl rfl rfl (by first | omega | (simp; omega)) (by first | omega | (simp; omega))) ?_
        refine WPl.s1 (o_steE2 Try.sizeOf3 rfl rfl rfl rfl eok_int rfl rfl rfl (by first | omega | (simp; omega)) (by first | omega | (simp; omega))) ?_
        refine WPl.nil (EX.blk (EX.then (WP.region ?_)))
        refine WPl.v rfl (o_move rfl) ?_
        refine WPl.v rfl (o_sub rfl rfl (by first | omega | (simp; omega)) (by first | omega | (simp; omega))) ?_
        refine WPl.v rfl (o_assign rfl) ?_
        refine WPl.nil ?_
        refine EX.again (j + 1) id (by exact ⟨by omega, fun a h1 h2 => by by_cases h3 : s.pigs.length - j ≤ a; exact hj2 a h3 h2; have h4 : (a : Int) = (s.pigs.length : Int) - 1 - (j : Int) := (by omega); rw [h4, ← hzn (by omega)]; exact heq⟩) (by omega) (LeR.of ⟨rfl, rfl, rfl, rfl, rfl, rfl, rfl, rfl, rfl, rfl, rfl, rfl, rfl, rfl, rfl, rfl, (congrArg (fun z => some (SV.i z)) (show (((s.pigs.length : Int) - 1 - (j : Int)) - 1) = ((fun j => (s.pigs.length : Int) - 1 - (j : Int)) (j + 1)) from by show (s.pigs.length : Int) - 1 - (j : Int) - 1 = (s.pigs.length : Int) - 1 - ((j + 1 : Nat) : Int); omega)), trivial⟩ ⟨(lx rfl), (lx rfl), (lx rfl), trivial⟩ ⟨rfl, rfl, (congrArg (fun z => some (Ent.own 3 EP.int.size (List.length z) (RP EP.int z))) (show (lset (zr (nth s.adBox (i : Int)) j) ((s.pigs.length : Int) - 1 - (j : Int)) 0) = ((fun j => zr (nth s.adBox (i : Int)) j) (j + 1)) from by dsimp only; rw [← hrl]; exact zr_step (by omega))), trivial⟩ rfl rfl rfl rfl rfl)
      · try simp only [cnd] at hc2
        refine WP.exit (EX.exit_then (EX.exit_then (EX.exit_blk (EX.then (WP.seq (WP.seq (WP.region ?_)))))))
        refine WPl.v rfl (o_move rfl) ?_
        refine WPl.v rfl (o_lss rfl rfl) ?_
        refine WPl.nil (EX.then ?_)
        refine WP.cond rfl (fun hc3 => ?_) (fun hc3 => ?_)
        · try simp only [cnd] at hc3
          refine WP.ret (EX.ret_then (EX.ret_blk (EX.ret_then (EX.ret_blk ?_))))
          have hend : s.adIdx i + 1 = s.adItemsT.length := by rw [← adIdx_endT, ← (ad_next hpg hiN hj2).1 (by omega), adIdx_succ hiN, show isAdd s (nth s.adBox (i : Int)) = true from hs14]; rfl
          exact EX.finI (.inl rfl) rfl rfl (ky := 1) (Y := Y (s.adIdx i + 1)) rfl (fun _ _ h => .inl (by rw [hend] at h; exact h))
        · try simp only [cnd] at hc3
          refine WP.skip (EX.then (WP.region ?_))
          refine WPl.v rfl (o_move rfl) ?_
          refine WPl.v rfl (o_move rfl) ?_
          refine WPl.v rfl (o_idxo L32 rfl rfl rfl (by first | omega | (simp; omega)) (by first | omega | (simp; omega))) ?_
          refine WPl.v rfl (o_ldoi S3 rfl rfl rfl rfl (by first | omega | (simp; omega)) (by first | omega | (simp; omega))) ?_
          have hbb := hrb (s.pigs.length - 1 - j) (by omega)
          rw [show ((s.pigs.length - 1 - j : Nat) : Int) = (s.pigs.length : Int) - 1 - (j : Int) by omega, ← hzn (by omega)] at hbb
          refine WPl.v rfl (o_add rfl rfl (by first | omega | (simp; omega)) (by first | omega | (simp; omega))) ?_
          refine WPl.v rfl (o_idxo L32 rfl rfl rfl (by first | omega | (simp; omega)) (by first | omega | (simp; omega))) ?_
          refine WPl.s1 (o_steE2 Try.sizeOf3 rfl rfl rfl rfl eok_int rfl rfl rfl (by first | omega | (simp; omega)) (by first | omega | (simp; omega))) ?_
          refine WPl.nil (EX.blk ?_)
          have hne := hc2.resolve_left (by omega)
          rw [hzn (by omega)] at hne
          have hnx := (ad_next hpg hiN hj2).2 (by omega) hne
          refine EX.again ((i + 1, F1)) id (by exact ⟨hnx.1, hF⟩) (by first | omega | (dsimp only; omega) | (simp only []; omega)) (LeR.of ⟨rfl, rfl, rfl, trivial⟩ ⟨(lx rfl), (lx rfl), trivial⟩ ⟨(congrArg (fun z => some (Ent.ext ((Y z).xp F1))) (show s.adIdx i + 1 = s.adIdx (i + 1) from by rw [adIdx_succ hiN, show isAdd s (nth s.adBox (i : Int)) = true from hs14]; rfl)), rfl, (congrArg (fun z => some (Ent.own 3 EP.int.size (List.length z) (RP EP.int z))) (show (lset (zr (nth s.adBox (i : Int)) j) ((s.pigs.length : Int) - 1 - (j : Int)) ((nth (zr (nth s.adBox (i : Int)) j) ((s.pigs.length : Int) - 1 - (j : Int))) + 1)) = ((fun (⟨i, F⟩ : Nat × (Nat → Prop)) => (nth s.adBox (i : Int))) (i + 1, F1)) from hnx.2)), trivial⟩ rfl rfl rfl rfl rfl)
  · refine WPl.imp (Imp.bitF 14 (b' := false) rfl hs14) ?_
    refine WPl.off rfl ⟨_, _, rfl, rfl, rfl⟩ ?_
    refine WPl.off rfl ⟨_, _, rfl, rfl, rfl⟩ ?_
    refine WPl.off rfl ⟨_, _, rfl, rfl, rfl⟩ ?_
    refine WPl.off rfl ⟨_, _, rfl, rfl, rfl⟩ ?_
    refine WPl.off rfl ⟨_, _, rfl, rfl, rfl⟩ ?_
    refine WPl.v rfl (o_pickF rfl rfl) ?_
    refine WPl.nil (EX.then ?_)
    refine WP.cond rfl (fun h => by cases h) (fun _ => ?_)
    refine WP.skip (EX.then (WP.seq (WP.region ?_)))
    refine WPl.v rfl (o_move rfl) ?_
    refine WPl.v rfl (o_leno L32 rfl rfl) ?_
    refine WPl.v rfl (o_sub rfl rfl (by first | omega | (simp; omega)) (by first | omega | (simp; omega))) ?_
    refine WPl.v rfl (o_assign rfl) ?_
    refine WPl.nil (EX.then (WP.seq (WP.block ?_)))
    refine WP.loop (Gh := Nat) (fun j => ⟨4, [(1, .e (.a (.v (yv l)))), (2, .e (.a (.p 2 (0)))), (4, .e (.a (.q 3))), (11, .e (.g [ai (s.pounds), ai (s.tl), ai (s.th), ai (s.al), ai (s.ah), ai (s.room), ai (s.tpl), ai (s.tph), ai (s.apl), ai (s.aph), .q 0])), (12, .e (.a (.q 3))), (13, .b (isAdd s (nth s.adBox (i : Int)))), (14, .b (false)), (15, .e (.a (.v (undef)))), (16, .e (.a (.v (undef)))), (17, .e (.a (.v (undef)))), (18, .e (.a (.v (undef)))), (19, .e (.a (.v (undef)))), (20, .b (false)), (21, .e (.a (.q 3))), (22, .i (((nth s.adBox (i : Int)).length : Int))), (23, .i (((nth s.adBox (i : Int)).length : Int) - 1)), (5, .i ((s.pigs.length : Int) - 1 - (j : Int)))], [(0, PL EPig (s.pigs)), (3, Pred.newer _)], [(1, .ext ((Y (s.adIdx i)).xp F)), (2, .blk [ai (s.pounds), ai (s.tl), ai (s.th), ai (s.al), ai (s.ah), ai (s.room), ai (s.tpl), ai (s.tph), ai (s.apl), ai (s.aph), .q 0] 72), (3, .own 3 EP.int.size (zr (nth s.adBox (i : Int)) j).length (RP EP.int (zr (nth s.adBox (i : Int)) j)))], [], []⟩) (fun j => j ≤ s.pigs.length ∧ ∀ a : Nat, s.pigs.length - j ≤ a → a < s.pigs.length → nth (nth s.adBox (i : Int)) a = (nth s.pigs a).many) (fun j => s.pigs.length - j) (0) id ?_ (LeR.of ⟨rfl, rfl, rfl, rfl, rfl, rfl, rfl, rfl, rfl, rfl, rfl, rfl, rfl, rfl, rfl, rfl, (congrArg (fun z => some (SV.i z)) (show (((nth s.adBox (i : Int)).length : Int) - 1) = ((fun j => (s.pigs.length : Int) - 1 - (j : Int)) 0) from by rw [hrl]; simp)), trivial⟩ ⟨(lx rfl), (lx rfl), trivial⟩ ⟨rfl, rfl, (congrArg (fun z => some (Ent.own 3 EP.int.size (List.length z) (RP EP.int z))) (show ((nth s.adBox (i : Int))) = ((fun j => zr (nth s.adBox (i : Int)) j) 0) from by simp [zr])), trivial⟩ rfl rfl rfl rfl rfl) ?_
    · exact ⟨by omega, fun a h1 h2 => by omega⟩
    intro j hφ
    obtain ⟨hj1, hj2⟩ := hφ
    have hzl : (zr (nth s.adBox (i : Int)) j).length = s.pigs.length := by rw [zr_len (by omega)]; exact hrl
    have hzn : j < s.pigs.length → nth (zr (nth s.adBox (i : Int)) j) ((s.pigs.length : Int) - 1 - (j : Int)) = nth (nth s.adBox (i : Int)) ((s.pigs.length : Int) - 1 - (j : Int)) := fun h => by rw [← hrl]; exact zr_nth (by omega)
    refine WP.seq (WP.seq ?_)
    refine WP.imp (Imp.bit 4 5 (decide (0 ≤ ((s.pigs.length : Int) - 1 - (j : Int)))) rfl rfl) ?_
    refine WP.draw (nf := 6) [⟨[], [], [], [], []⟩, ⟨[], [], [], [], [0]⟩, ⟨[], [], [], [], [0, 1]⟩, ⟨[28, 31, 32, 33, 34, 35, 36, 37], [5], [], [], [0, 1, 2]⟩, ⟨[27, 31, 32, 33, 34, 35, 36, 37], [5], [], [], [0, 1, 2]⟩, ⟨[31, 32, 33, 34, 35, 36, 37], [5], [], [], [0, 1, 2, 3, 4]⟩, ⟨[31, 32, 33, 34, 35, 36, 37], [5], [], [], [0, 1, 2, 3, 4, 5]⟩, ⟨[27, 28, 29, 30, 34], [], [], [], [0, 1, 2]⟩, ⟨[27, 28, 29, 30, 34], [], [], [], [0, 1, 2, 7]⟩, ⟨[27, 28, 29, 30, 34], [], [], [], [0, 1, 2, 7, 8]⟩, ⟨[27, 28, 29, 30, 31, 32, 33], [], [], [], [0, 1, 2]⟩, ⟨[27, 28, 29, 30], [], [5], [5], [0, 1, 2, 7, 8, 9, 10]⟩, ⟨[27, 28, 29, 30], [], [], [], [0, 1, 2, 7, 8, 9, 10, 11]⟩, ⟨[27, 28, 29, 30], [], [], [], [0, 1, 2, 7, 8, 9, 10, 11, 12]⟩, ⟨[], [], [], [], [0, 1, 2, 3, 4, 5, 6, 7, 8, 9, 10, 11, 12, 13]⟩, ⟨[], [], [], [], [0, 1, 2, 3, 4, 5, 6, 7, 8, 9, 10, 11, 12, 13, 14]⟩] (by kernel_rfl) (by kernel_rfl) ?_
    refine DRQ.v rfl rfl rfl (o_move rfl) ?_
    refine DRQ.v rfl rfl rfl (o_geq rfl rfl) ?_
    refine DRQ.v rfl rfl rfl (o_move rfl) ?_
    refine DRQ.gv 4 rfl rfl (.plain rfl Iff.rfl rfl) rfl (fun hb => o_move rfl) ?_
    refine DRQ.gv 4 rfl rfl (.plain rfl Iff.rfl rfl) rfl (fun hb => o_move rfl) ?_
    refine DRQ.gv 4 rfl rfl (.plain rfl Iff.rfl rfl) rfl (fun hb => have hb2 := of_decide_eq_true hb; o_idxo L32 rfl rfl rfl (by first | omega | (simp; omega)) (by first | omega | (simp; omega))) ?_
    refine DRQ.gv 4 rfl rfl (.plain rfl Iff.rfl rfl) rfl (fun hb => have hb2 := of_decide_eq_true hb; o_ldoi S3 rfl rfl rfl rfl (by first | omega | (simp; omega)) (by first | omega | (simp; omega))) ?_
    refine DRQ.gv 4 rfl rfl (.plain rfl Iff.rfl rfl) rfl (fun hb => o_fldp F72_0 rfl) ?_
    refine DRQ.gv 4 rfl rfl (.plain rfl Iff.rfl rfl) rfl (fun hb => o_fldp F28_4 rfl) ?_
    refine DRQ.gv 4 rfl rfl (.plain rfl Iff.rfl rfl) rfl (fun hb => o_ldp S26 rfl rfl rfl) ?_
    refine DRQ.gv 4 rfl rfl (.plain rfl Iff.rfl rfl) rfl (fun hb => o_move rfl) ?_
    refine DRQ.gx 4 5 rfl rfl (.plain rfl Iff.rfl rfl) rfl rfl (fun hb => have hb2 := of_decide_eq_true hb; o_idx L26 rfl (lx rfl) rfl (by first | omega | (simp; omega)) (by first | omega | (simp; omega))) ?_
    refine DRQ.gv 4 rfl rfl (.plain rfl Iff.rfl rfl) rfl (fun hb => o_fldq F53_4 rfl (lxi hb rfl)) ?_
    refine DRQ.gv 4 rfl rfl (.plain rfl Iff.rfl rfl) rfl (fun hb => o_lde S3 rfl (lxi hb rfl) (strI rfl)) ?_
    refine DRQ.gv 4 rfl rfl (.plain rfl Iff.rfl rfl) rfl (fun hb => o_eql rfl rfl) ?_
    refine DRQ.v rfl rfl rfl (o_and rfl rfl rfl id) ?_
    refine DRQ.nil' ?_
    refine EX.then ?_
    refine WP.cond rfl (fun hc2 => ?_) (fun hc2 => ?_)
    · try simp only [cnd] at hc2
      obtain ⟨hge, heq⟩ := hc2
      refine WP.skip (EX.then (WP.seq (WP.block (WP.region ?_))))
      refine WPl.v rfl (o_move rfl) ?_
      refine WPl.v rfl (o_move rfl) ?_
      refine WPl.v rfl (o_idxo L32 rfl rfl rfl (by first | omega | (simp; omega)) (by first | omega | (simp; omega))) ?_
      refine WPl.s1 (o_steE2 Try.sizeOf3 rfl rfl rfl rfl eok_int rfl rfl rfl (by first | omega | (simp; omega)) (by first | omega | (simp; omega))) ?_
      refine WPl.nil (EX.blk (EX.then (WP.region ?_)))
      refine WPl.v rfl (o_move rfl) ?_
      refine WPl.v rfl (o_sub rfl rfl (by first | omega | (simp; omega)) (by first | omega | (simp; omega))) ?_
      refine WPl.v rfl (o_assign rfl) ?_
      refine WPl.nil ?_
      refine EX.again (j + 1) id (by exact ⟨by omega, fun a h1 h2 => by by_cases h3 : s.pigs.length - j ≤ a; exact hj2 a h3 h2; have h4 : (a : Int) = (s.pigs.length : Int) - 1 - (j : Int) := (by omega); rw [h4, ← hzn (by omega)]; exact heq⟩) (by omega) (LeR.of ⟨rfl, rfl, rfl, rfl, rfl, rfl, rfl, rfl, rfl, rfl, rfl, rfl, rfl, rfl, rfl, rfl, (congrArg (fun z => some (SV.i z)) (show (((s.pigs.length : Int) - 1 - (j : Int)) - 1) = ((fun j => (s.pigs.length : Int) - 1 - (j : Int)) (j + 1)) from by show (s.pigs.length : Int) - 1 - (j : Int) - 1 = (s.pigs.length : Int) - 1 - ((j + 1 : Nat) : Int); omega)), trivial⟩ ⟨(lx rfl), (lx rfl), trivial⟩ ⟨rfl, rfl, (congrArg (fun z => some (Ent.own 3 EP.int.size (List.length z) (RP EP.int z))) (show (lset (zr (nth s.adBox (i : Int)) j) ((s.pigs.length : Int) - 1 - (j : Int)) 0) = ((fun j => zr (nth s.adBox (i : Int)) j) (j + 1)) from by dsimp only; rw [← hrl]; exact zr_step (by omega))), trivial⟩ rfl rfl rfl rfl rfl)
    · try simp only [cnd] at hc2
      refine WP.exit (EX.exit_then (EX.exit_then (EX.exit_blk (EX.then (WP.seq (WP.seq (WP.region ?_)))))))
      refine WPl.v rfl (o_move rfl) ?_
      refine WPl.v rfl (o_lss rfl rfl) ?_
      refine WPl.nil (EX.then ?_)
      refine WP.cond rfl (fun hc3 => ?_) (fun hc3 => ?_)
      · try simp only [cnd] at hc3
        refine WP.ret (EX.ret_then (EX.ret_blk (EX.ret_then (EX.ret_blk ?_))))
        have hend : s.adIdx i = s.adItemsT.length := by rw [← adIdx_endT, ← (ad_next hpg hiN hj2).1 (by omega), adIdx_succ hiN, show isAdd s (nth s.adBox (i : Int)) = false from hs14]; rfl
        exact EX.finI (.inl rfl) rfl rfl (ky := 1) (Y := Y (s.adIdx i)) rfl (fun _ _ h => .inl (by rw [hend] at h; exact h))
      · try simp only [cnd] at hc3
        refine WP.skip (EX.then (WP.region ?_))
        refine WPl.v rfl (o_move rfl) ?_
        refine WPl.v rfl (o_move rfl) ?_
        refine WPl.v rfl (o_idxo L32 rfl rfl rfl (by first | omega | (simp; omega)) (by first | omega | (simp; omega))) ?_
        refine WPl.v rfl (o_ldoi S3 rfl rfl rfl rfl (by first | omega | (simp; omega)) (by first | omega | (simp; omega))) ?_
        have hbb := hrb (s.pigs.length - 1 - j) (by omega)
        rw [show ((s.pigs.length - 1 - j : Nat) : Int) = (s.pigs.length : Int) - 1 - (j : Int) by omega, ← hzn (by omega)] at hbb
        refine WPl.v rfl (o_add rfl rfl (by first | omega | (simp; omega)) (by first | omega | (simp; omega))) ?_
        refine WPl.v rfl (o_idxo L32 rfl rfl rfl (by first | omega | (simp; omega)) (by first | omega | (simp; omega))) ?_
        refine WPl.s1 (o_steE2 Try.sizeOf3 rfl rfl rfl rfl eok_int rfl rfl rfl (by first | omega | (simp; omega)) (by first | omega | (simp; omega))) ?_
        refine WPl.nil (EX.blk ?_)
        have hne := hc2.resolve_left (by omega)
        rw [hzn (by omega)] at hne
        have hnx := (ad_next hpg hiN hj2).2 (by omega) hne
        refine EX.again ((i + 1, F)) id (by exact ⟨hnx.1, hF⟩) (by first | omega | (dsimp only; omega) | (simp only []; omega)) (LeR.of ⟨rfl, rfl, rfl, trivial⟩ ⟨(lx rfl), (lx rfl), trivial⟩ ⟨(congrArg (fun z => some (Ent.ext ((Y z).xp F))) (show s.adIdx i = s.adIdx (i + 1) from by rw [adIdx_succ hiN, show isAdd s (nth s.adBox (i : Int)) = false from hs14]; rfl)), rfl, (congrArg (fun z => some (Ent.own 3 EP.int.size (List.length z) (RP EP.int z))) (show (lset (zr (nth s.adBox (i : Int)) j) ((s.pigs.length : Int) - 1 - (j : Int)) ((nth (zr (nth s.adBox (i : Int)) j) ((s.pigs.length : Int) - 1 - (j : Int))) + 1)) = ((fun (⟨i, F⟩ : Nat × (Nat → Prop)) => (nth s.adBox (i : Int))) (i + 1, F)) from hnx.2)), trivial⟩ rfl rfl rfl rfl rfl)
theorem w27 {s : Shop} {g : List Int → List Int} : ∀ x ∈ ([.e (.g [ai (s.pounds), ai (s.tl), ai (s.th), ai (s.al), ai (s.ah), ai (s.room), ai (s.tpl), ai (s.tph), ai (s.apl), ai (s.aph), .q 0]), .e (.a (.q 1))] : List SV), x.res (keys (α := Pred) [(0, PL EPig (s.pigs)), (1, OfM s g)]) := by simp [SV.res, El.res, At.res, keys]
theorem r27 {s : Shop} {g : List Int → List Int} : SV.res (keys (α := Pred) [(0, PT EP.int (s.mAdd g) 3), (1, PL EP.int (s.mNum g))]) (.t [.a (.q 0), .a (.q 1), .a (ai (s.mE g))]) := by simp [SV.res, El.res, At.res, keys]
set_option maxHeartbeats 4000000 in
theorem c27 (s : Shop) (g : List Int → List Int) (hl : s.pigs.length ≤ 40) (hg : GOK s g) (hE0 : s.chk = false → errM s.chk = 10) : Sig Try.prog 27 [.e (.g [ai (s.pounds), ai (s.tl), ai (s.th), ai (s.al), ai (s.ah), ai (s.room), ai (s.tpl), ai (s.tph), ai (s.apl), ai (s.aph), .q 0]), .e (.a (.q 1))] [(0, PL EPig (s.pigs)), (1, OfM s g)] (.t [.a (.q 0), .a (.q 1), .a (ai (s.mE g))]) [(0, PT EP.int (s.mAdd g) 3), (1, PL EP.int (s.mNum g))] := by
  refine Sig.intro Try.func27 rfl 2 [(0, .e (.g [ai (s.pounds), ai (s.tl), ai (s.th), ai (s.al), ai (s.ah), ai (s.room), ai (s.tpl), ai (s.tph), ai (s.apl), ai (s.aph), .q 0])), (1, .e (.a (.q 1)))] rfl w27 rfl rfl fun I w => ?_
  refine WP.seq (WP.region ?_)
  refine WPl.l 2 3 rfl rfl rfl (o_boxg rfl) ?_
  refine WPl.l 3 4 rfl rfl rfl (o_boxa rfl (.inl ⟨_, (lx rfl), FvP.onea⟩)) ?_
  refine WPl.l 4 5 rfl rfl rfl (o_alloc Z32) ?_
  refine WPl.l 5 6 rfl rfl rfl (o_alloc Z32) ?_
  refine WPl.v rfl (o_assign rfl) ?_
  refine WPl.nil (EX.then (WP.seq (WP.region ?_)))
  refine WPl.v rfl (o_ldpa G28 rfl rfl rfl) ?_
  refine WPl.cs 7 rfl rfl rfl rfl (o_sig 6 (ren [(0, 0)]) (c30N s hl) e30 rfl rfl rfl w30N ⟨(lx rfl), trivial⟩ r30N) ?_
  refine WPl.v rfl (o_move rfl) ?_
  refine WPl.v rfl (o_extract rfl rfl) ?_
  refine WPl.v rfl (o_extract rfl rfl) ?_
  refine WPl.l 7 8 rfl rfl rfl (o_alloc Z72) ?_
  refine WPl.s1 (o_stag G72 rfl rfl rfl ⟨rfl, rfl, rfl, rfl, rfl, rfl, rfl, rfl, rfl, rfl, (.inl ⟨_, (lx rfl), PL.one⟩), trivial⟩ rfl rfl) ?_
  refine WPl.v rfl (o_assign rfl) ?_
  refine WPl.nil (EX.then (WP.seq (WP.seq (WP.region ?_))))
  refine WPl.v rfl (o_move rfl) ?_
  refine WPl.v rfl (o_neq rfl rfl) ?_
  refine WPl.nil (EX.then ?_)
  refine WP.cond rfl (fun hc1 => ?_) (fun hc1 => ?_)
  · try simp only [cnd] at hc1
    have hs : s.chk = false := errM_ne.1 (by simpa using hc1)
    refine WP.seq (WP.region ?_)
    refine WPl.v rfl (o_move rfl) ?_
    refine WPl.s1 (o_sta S32 rfl rfl rfl rfl rfl) ?_
    refine WPl.s1 (o_sta S32 rfl rfl rfl rfl rfl) ?_
    refine WPl.v rfl (o_assign rfl) ?_
    refine WPl.nil (EX.then (WP.ret (EX.ret_then ?_)))
    refine EX.imp (Imp.nam 8 9 (.slice none 0 0) (R := PTN EP.int 3) ptn_ok rfl rfl) ?_
    refine EX.imp (Imp.swL 4 0 8 rfl rfl (lxr rfl)) ?_
    refine EX.imp (Imp.nam 9 10 (.slice none 0 0) (R := PN EP.int) pn_ok rfl rfl) ?_
    refine EX.imp (Imp.swL 5 0 9 rfl rfl (lxr rfl)) ?_
    rw [hE0 hs]
    have hE : s.mE g = 10 := by unfold Shop.mE; rw [hs]; rfl
    rw [show s.mAdd g = [] from by unfold Shop.mAdd; rw [hE]; rfl, show s.mNum g = [] from by unfold Shop.mNum; rw [hE]; rfl, hE]
    exact EX.fin (ren [(0, 8), (1, 9)]) (.inl rfl) rfl (.cell1 S32 rfl rfl (.cell1 S32 rfl rfl (.tmp rfl .nil))) rfl (by simp [SV.res, El.res, At.res, keys]) ⟨lxl rfl, lxl rfl, trivial⟩ (by simp) (by simp)
  · try simp only [cnd] at hc1
    have hs : s.chk = true := errM_eq.1 (by simpa using hc1)
    have hpg := Shop.pigsOK hs
    refine WP.skip (EX.then (WP.seq (WP.seq (WP.region ?_))))
    refine WPl.v rfl (o_ldpa G72 rfl rfl rfl) ?_
    refine WPl.x 8 9 rfl rfl rfl (o_mkbit 8 (ren [(0, 6)]) (c47 s hs) e47 rfl SvsOK.rf w47 ⟨(lx rfl), trivial⟩) ?_
    refine WPl.nil (EX.then (WP.block ?_))
    refine WP.leR (S' := ⟨9, [(3, .e (.a (.p 3 (0)))), (4, .e (.a (.p 4 (0)))), (5, .e (.a (.p 5 (0)))), (6, .i (errM s.chk)), (7, .e (.a (.p 7 (0)))), (19, .e (.a (.q 8)))], [(1, OfM s g), (6, PL EPig (s.pigs)), (8, ItQ Try.prog s.adItemsT)], [(3, .blk [.q 1] 69), (4, .blk [.v (.slice none 0 0)] 32), (5, .blk [.v (.slice none 0 0)] 32), (7, .blk [ai (s.pounds), ai (s.tl), ai (s.th), ai (s.al), ai (s.ah), ai (s.room), ai (s.tpl), ai (s.tph), ai (s.apl), ai (s.aph), .q 6] 72)], [], []⟩) id (LeR.of ⟨rfl, rfl, rfl, rfl, rfl, rfl, trivial⟩ ⟨(lx rfl), (lx rfl), (lx rfl), trivial⟩ ⟨rfl, rfl, rfl, rfl, trivial⟩ rfl rfl rfl rfl rfl) ?_
    refine WP.imp (Imp.nam 9 10 (.slice none 0 0) (R := PTN EP.int 3) ptn_ok rfl rfl) ?_
    refine WP.imp (Imp.swL 4 0 9 rfl rfl (lxr rfl)) ?_
    refine WP.imp (Imp.nam 10 11 (.slice none 0 0) (R := PZ EP.int []) pz_ok rfl rfl) ?_
    refine WP.imp (Imp.swL 5 0 10 rfl rfl (lxzn rfl)) ?_
    refine WP.rangeV 15 1 (s.adL.length) (fun i => ⟨[.e (.a (.q 0))], [(0, PT EP.int ((nth s.adL (i : Int))) 3)], []⟩) (fun i => ⟨15, [(3, .e (.a (.p 3 (0)))), (4, .e (.a (.p 4 (0)))), (5, .e (.a (.p 5 (0)))), (6, .i (errM s.chk)), (7, .e (.a (.p 7 (0)))), (19, .e (.a (.q 8)))], [(1, OfM s g), (6, PL EPig (s.pigs)), (8, ItQ Try.prog s.adItemsT), (13, PT EP.int ((s.bestM g i).1) 3), (14, PZ EP.int ((s.bestM g i).2))], [(3, .blk [.q 1] 69), (4, .blk [.q 13] 32), (5, .blk [.q 14] 32), (7, .blk [ai (s.pounds), ai (s.tl), ai (s.th), ai (s.al), ai (s.ah), ai (s.room), ai (s.tpl), ai (s.tph), ai (s.apl), ai (s.aph), .q 6] 72), (11, .ob (.deferred (some [])))], [11], []⟩) (fun _ _ => False) rfl  rfl (ItQ.hit (lx rfl)) (rfl) (fun _ => RSt.of rfl rfl rfl rfl rfl rfl) (fun _ _ h => h.elim) rfl rfl rfl (fun _ _ => ItemOK.of rfl) rfl rfl (ren [(13, 9), (14, 10)]) (LeR.of ⟨rfl, rfl, rfl, rfl, rfl, rfl, trivial⟩ ⟨(lx rfl), (lx rfl), (lx rfl), (lxl rfl), (lx rfl), trivial⟩ ⟨rfl, rfl, rfl, rfl, rfl, trivial⟩ rfl rfl rfl rfl rfl) ?_ ?_ ?_
    · intro i hi w1 E1 I1 R1 pβ1 pν1 us1
      have hx := isAddB hpg (adL_at hi)
      refine WP.region ?_
      refine WPl.v rfl (o_assign rfl) ?_
      refine WPl.nil ?_
      refine EX.beg rfl ?_
      refine WP.block (WP.seq (WP.region ?_))
      refine WPl.v rfl (o_ldp S69 rfl rfl rfl) ?_
      refine WPl.v rfl (o_ldpa G72 rfl rfl rfl) ?_
      refine WPl.v rfl (o_move rfl) ?_
      refine WPl.cs 17 rfl rfl rfl rfl (o_callfv (svs := [.e (.g [ai (s.pounds), ai (s.tl), ai (s.th), ai (s.al), ai (s.ah), ai (s.room), ai (s.tpl), ai (s.tph), ai (s.apl), ai (s.aph), .q 0]), .e (.a (.q 1))]) 16 (ren [(0, 6), (1, 15)]) rfl (Has.of (lx rfl) fun _ _ h => h ((⟨(nth s.adL (i : Int)), hx.1, hx.2.2⟩ : AdL s))) rfl rfl SvsOK.rf (by simp [SV.res, El.res, At.res, keys]) ⟨(lx rfl), (lxt rfl), trivial⟩ (by simp [SV.res, El.res, At.res, keys])) ?_
      refine WPl.v rfl (o_assign rfl) ?_
      refine WPl.nil (EX.then (WP.seq ?_))
      refine WP.imp (Imp.bit 17 18 (s.safeP (s.aft (nth s.adL (i : Int)))) rfl rfl) ?_
      refine WP.imp (Imp.bit 18 19 ((s.safeP (s.aft (nth s.adL (i : Int)))) && !(decide ((((s.bestM g i).2).length : Int) = 0))) rfl rfl) ?_
      refine WP.draw (nf := 19) [⟨[26, 27, 28], [], [], [], []⟩, ⟨[25, 27], [], [], [], []⟩, ⟨[25, 26], [], [], [], []⟩, ⟨[25], [], [], [], [1, 2]⟩, ⟨[], [], [], [], [0, 1, 2, 3]⟩, ⟨[], [], [], [], [0, 1, 2, 3, 4]⟩, ⟨[], [], [], [], [0, 1, 2, 3, 4, 5]⟩, ⟨[], [], [], [], [0, 1, 2, 3, 4, 5, 6]⟩, ⟨[], [], [], [], [0, 1, 2, 3, 4, 5, 6, 7]⟩, ⟨[35], [], [], [], [0, 1, 2, 3, 4, 5, 6, 7, 8]⟩, ⟨[34], [], [], [], [0, 1, 2, 3, 4, 5, 6, 7, 8]⟩, ⟨[], [], [], [], [0, 1, 2, 3, 4, 5, 6, 7, 8, 9, 10]⟩, ⟨[], [], [], [], [0, 1, 2, 3, 4, 5, 6, 7, 8, 9, 10, 11]⟩, ⟨[], [], [], [], [0, 1, 2, 3, 4, 5, 6, 7, 8, 9, 10, 11, 12]⟩, ⟨[], [], [], [], [0, 1, 2, 3, 4, 5, 6, 7, 8, 9, 10, 11, 12, 13]⟩] (by kernel_rfl) (by kernel_rfl) ?_
      refine DRQ.v rfl rfl rfl (o_ldpa G72 rfl rfl rfl) ?_
      refine DRQ.v rfl rfl rfl (o_ldpa G72 rfl rfl rfl) ?_
      refine DRQ.v rfl rfl rfl (o_move rfl) ?_
      refine DRQ.cs rfl rfl rfl rfl (o_sig 19 (ren [(0, 6), (1, 15)]) (c33 s (nth s.adL (i : Int)) hs (by omega) hx.2.2) e33 rfl rfl rfl w33 ⟨(lx rfl), (lxt rfl), trivial⟩ r33) ?_
      refine DRQ.cs rfl rfl rfl rfl (o_sig 19 (ren [(0, 6)]) (c48 s (s.aft (nth s.adL (i : Int))) hs (aft_bnd hs (by omega) hx.2.2)) e48 rfl rfl rfl w48 ⟨(lx rfl), trivial⟩ r48) ?_
      refine DRQ.v rfl rfl rfl (o_move rfl) ?_
      refine DRQ.gv 17 rfl rfl (.plain rfl Iff.rfl rfl) rfl (fun hb => o_ldp S32 rfl rfl rfl) ?_
      refine DRQ.gv 17 rfl rfl (.plain rfl Iff.rfl rfl) rfl (fun hb => o_eqz Try.underlying32 rfl (lx rfl)) ?_
      refine DRQ.gv 17 rfl rfl (.plain rfl Iff.rfl rfl) rfl (fun hb => o_move rfl) ?_
      refine DRQ.gv 18 rfl rfl (.nest rfl rfl (by simp) rfl) rfl (fun hb => o_move rfl) ?_
      refine DRQ.gv 18 rfl rfl (.nest rfl rfl (by simp) rfl) rfl (fun hb => o_ldp S32 rfl rfl rfl) ?_
      refine DRQ.gv 18 rfl rfl (.nest rfl rfl (by simp) rfl) rfl (fun hb => o_sig 19 (ren [(0, 16), (1, 14)]) (c49 (g (⟨(nth s.adL (i : Int)), hx.1, hx.2.2⟩ : AdL s).1) ((s.bestM g i).2) (by show (g (nth s.adL (i : Int))).length ≤ 1000; have := (hg (nth s.adL (i : Int))).2; omega) (by have := bestM_len hg i; omega)) e49 rfl rfl rfl w49 ⟨(lx rfl), (lxz rfl), trivial⟩ r49) ?_
      refine DRQ.gv 18 rfl rfl (.nest rfl rfl (by simp) rfl) rfl (fun hb => o_lss rfl rfl) ?_
      refine DRQ.gv 17 rfl rfl (.plain rfl Iff.rfl rfl) rfl (fun hb => o_or rfl rfl rfl (by first | (simp; done) | simp_all)) ?_
      refine DRQ.v rfl rfl rfl (o_and rfl rfl rfl id) ?_
      refine DRQ.nil' ?_
      refine EX.then ?_
      refine WP.cond rfl (fun hc2 => ?_) (fun hc2 => ?_)
      · try simp only [cnd] at hc2
        refine WP.imp (Imp.fact 16 (R' := PZ EP.int (g (⟨(nth s.adL (i : Int)), hx.1, hx.2.2⟩ : AdL s).1)) (lx rfl) (PZ.of (hg _).1)) ?_
        refine WP.region ?_
        refine WPl.v rfl (o_move rfl) ?_
        refine WPl.v rfl (o_move rfl) ?_
        refine WPl.s1 (o_sta S32 rfl rfl rfl (.inl ⟨_, (lxt rfl), PL.one⟩) rfl) ?_
        refine WPl.s1 (o_sta S32 rfl rfl rfl (.inl ⟨_, (lxz rfl), PL.one⟩) rfl) ?_
        refine WPl.nil (EX.blk ?_)
        have hbr : s.bestM g (i + 1) = ((nth s.adL (i : Int)), g (nth s.adL (i : Int))) := by simp only [Shop.bestM]; rw [if_pos (by simpa using hc2)]
        exact EX.next (ren [(13, 15), (14, 16)]) (LeR.of trivial ⟨(lx rfl), (lx rfl), (lx rfl), (has_eq (F := fun z => PT EP.int z 3) (show ((nth s.adL (i : Int))) = ((fun i => (s.bestM g i).1) (i + 1)) from by dsimp only; rw [hbr]; try rfl) (lx rfl)), (has_eq (F := fun z => PZ EP.int z) (show (g (⟨(nth s.adL (i : Int)), hx.1, hx.2.2⟩ : AdL s).1) = ((fun i => (s.bestM g i).2) (i + 1)) from by dsimp only; rw [hbr]; try rfl) (lx rfl)), trivial⟩ ⟨rfl, rfl, rfl, rfl, rfl, rfl, trivial⟩ rfl rfl rfl rfl rfl)
      · try simp only [cnd] at hc2
        refine WP.skip (EX.blk ?_)
        have hbr : s.bestM g (i + 1) = s.bestM g i := by simp only [Shop.bestM]; rw [if_neg (by intro h; rw [Bool.and_eq_true, Bool.or_eq_true, decide_eq_true_eq, decide_eq_true_eq] at h; rcases hc2 with h3 | h3; (rw [h.1] at h3; cases h3); (exact h.2.elim h3.1 h3.2))]
        exact EX.next id (LeR.of trivial ⟨(lx rfl), (lx rfl), (lx rfl), (has_eq (F := fun z => PT EP.int z 3) (show ((s.bestM g i).1) = ((fun i => (s.bestM g i).1) (i + 1)) from by dsimp only; rw [hbr]; try rfl) (lx rfl)), (has_eq (F := fun z => PZ EP.int z) (show ((s.bestM g i).2) = ((fun i => (s.bestM g i).2) (i + 1)) from by dsimp only; rw [hbr]; try rfl) (lx rfl)), trivial⟩ ⟨rfl, rfl, rfl, rfl, rfl, rfl, trivial⟩ rfl rfl rfl rfl rfl)
    · exact fun _ _ h => h.elim
    · skip
      refine EX.blk (EX.then (WP.seq (WP.seq (WP.region ?_))))
      refine WPl.v rfl (o_ldp S32 rfl rfl rfl) ?_
      refine WPl.v rfl (o_eqz Try.underlying32 rfl (lx rfl)) ?_
      refine WPl.nil (EX.then ?_)
      refine WP.cond rfl (fun hc3 => ?_) (fun hc3 => ?_)
      · try simp only [cnd] at hc3
        refine WP.seq (WP.region ?_)
        refine WPl.s1 (o_sta S32 rfl rfl rfl rfl rfl) ?_
        refine WPl.s1 (o_sta S32 rfl rfl rfl rfl rfl) ?_
        refine WPl.v rfl (o_assign rfl) ?_
        refine WPl.nil (EX.then (WP.ret (EX.ret_then ?_)))
        refine EX.imp (Imp.nam 15 16 (.slice none 0 0) (R := PTN EP.int 3) ptn_ok rfl rfl) ?_
        refine EX.imp (Imp.swL 4 0 15 rfl rfl (lxr rfl)) ?_
        refine EX.imp (Imp.nam 16 17 (.slice none 0 0) (R := PN EP.int) pn_ok rfl rfl) ?_
        refine EX.imp (Imp.swL 5 0 16 rfl rfl (lxr rfl)) ?_
        have hE : s.mE g = 3 := by unfold Shop.mE; rw [hs]; exact if_pos hc3
        rw [show s.mAdd g = [] from by unfold Shop.mAdd; rw [hE]; rfl, show s.mNum g = [] from by unfold Shop.mNum; rw [hE]; rfl, hE]
        exact EX.fin (ren [(0, 15), (1, 16)]) (.inl rfl) rfl (.cell1 S32 rfl rfl (.cell1 S32 rfl rfl (.tmp rfl .nil))) rfl (by simp [SV.res, El.res, At.res, keys]) ⟨lxl rfl, lxl rfl, trivial⟩ (marks rfl) (by simp)
      · try simp only [cnd] at hc3
        refine WP.skip (EX.then (WP.seq ?_))
        refine WP.draw (nf := 15) [⟨[45], [], [], [], []⟩, ⟨[44], [4], [], [], []⟩, ⟨[45], [], [], [4], [0]⟩, ⟨[], [], [], [5], [0, 1, 2]⟩, ⟨[], [], [], [], [0, 1, 2, 3]⟩] (by kernel_rfl) (by kernel_rfl) ?_
        refine DRQ.v rfl rfl rfl (o_ldp S32 rfl rfl rfl) ?_
        refine DRQ.v rfl rfl rfl (o_ldp S32 rfl rfl rfl) ?_
        refine DRQ.s 4 rfl rfl rfl (o_sta S32 rfl rfl rfl (.inl ⟨_, (lxt rfl), PL.one⟩) rfl) ?_
        refine DRQ.s 5 rfl rfl rfl (o_sta S32 rfl rfl rfl (.inl ⟨_, (lxz rfl), PL.one⟩) rfl) ?_
        refine DRQ.v rfl rfl rfl (o_assign rfl) ?_
        refine DRQ.nil' ?_
        refine EX.then (WP.ret ?_)
        have hE : s.mE g = 0 := by unfold Shop.mE; rw [hs]; exact if_neg hc3
        rw [show s.mAdd g = (s.bestM g s.adL.length).1 from by unfold Shop.mAdd; rw [hE]; rfl, show s.mNum g = (s.bestM g s.adL.length).2 from by unfold Shop.mNum; rw [hE]; rfl, hE]
        exact EX.fin (ren [(0, 13), (1, 14)]) (.inl rfl) rfl (.cell1 S32 rfl rfl (.cell1 S32 rfl rfl (.tmp rfl .nil))) rfl (by simp [SV.res, El.res, At.res, keys]) ⟨(lx rfl), (lxz rfl), trivial⟩ (marks rfl) (by simp)
end Go.Flong
namespace Go.Flong
open Go Go.Eng Go.Proofs
theorem e31 : Enters' Try.prog 31 := Try.call31
theorem e28 : Enters' Try.prog 28 := Try.call28
theorem e27 : Enters' Try.prog 27 := Try.call27
theorem w14 {s : Shop} {add : List Int} : ∀ x ∈ ([.e (.g [ai (s.pounds), ai (s.tl), ai (s.th), ai (s.al), ai (s.ah), ai (s.room), ai (s.tpl), ai (s.tph), ai (s.apl), ai (s.aph), .q 0]), .e (.a (.q 1))] : List SV), x.res (keys (α := Pred) [(0, PL EPig (s.pigs)), (1, PL EP.int (add))]) := by simp [SV.res, El.res, At.res, keys]
theorem r14 {s : Shop} {add : List Int} : SV.res (keys (α := Pred) []) (.t [.g [ai ((s.mAft add).pounds), ai ((s.mAft add).tl), ai ((s.mAft add).th), ai ((s.mAft add).al), ai ((s.mAft add).ah)], .a (ai (opE s (isAdd s add)))]) := by simp [SV.res, El.res, At.res, keys]
set_option maxHeartbeats 4000000 in
theorem c14 (s : Shop) (add : List Int) (hl : s.pigs.length ≤ 40) : Sig Try.prog 14 [.e (.g [ai (s.pounds), ai (s.tl), ai (s.th), ai (s.al), ai (s.ah), ai (s.room), ai (s.tpl), ai (s.tph), ai (s.apl), ai (s.aph), .q 0]), .e (.a (.q 1))] [(0, PL EPig (s.pigs)), (1, PL EP.int (add))] (.t [.g [ai ((s.mAft add).pounds), ai ((s.mAft add).tl), ai ((s.mAft add).th), ai ((s.mAft add).al), ai ((s.mAft add).ah)], .a (ai (opE s (isAdd s add)))]) [] := by
  rcases Bool.eq_false_or_eq_true s.chk with hf | hf
  · skip
    refine Sig.intro Try.func14 rfl 2 [(0, .e (.g [ai (s.pounds), ai (s.tl), ai (s.th), ai (s.al), ai (s.ah), ai (s.room), ai (s.tpl), ai (s.tph), ai (s.apl), ai (s.aph), .q 0])), (1, .e (.a (.q 1)))] rfl w14 rfl rfl fun I w => ?_
    refine WP.seq (WP.region ?_)
    refine WPl.l 2 3 rfl rfl rfl (o_boxg rfl) ?_
    refine WPl.l 3 4 rfl rfl rfl (o_boxa rfl (.inl ⟨_, (lx rfl), PL.one⟩)) ?_
    refine WPl.l 4 5 rfl rfl rfl (o_alloc Z25) ?_
    refine WPl.v rfl (o_assign rfl) ?_
    refine WPl.nil (EX.then (WP.seq (WP.region ?_)))
    refine WPl.v rfl (o_ldpa G28 rfl rfl rfl) ?_
    refine WPl.imp (Imp.frzb (E := EP.box (PL EP.int (add))) (y := ()) 3 5 6 rfl rfl (bok_box (lx rfl)) rfl rfl rfl) ?_
    refine WPl.x 6 7 rfl rfl rfl (o_mkfv (svs := [.e (.g [ai (s.pounds), ai (s.tl), ai (s.th), ai (s.al), ai (s.ah), ai (s.room), ai (s.tpl), ai (s.tph), ai (s.apl), ai (s.aph), .q 0])]) (X0 := [(0, PL EPig (s.pigs))]) (sv := .b ((isAdd s add))) (X := []) (cs := [.e (.a (.q 1))]) (Xc := [(1, PP (EP.box (PL EP.int (add))) ())]) 6 (ren [(1, 5)]) (c31 s add hf) e31 rfl rfl SvsOK.rf (by simp [SV.res, El.res, At.res, keys]) (by simp [SV.res, El.res, At.res, keys]) ⟨(lx rfl), trivial⟩) ?_
    refine WPl.cs 8 rfl rfl rfl rfl (o_sig 7 (ren [(0, 0), (1, 6)]) (c30C s (isAdd s add) hf) e30 rfl rfl rfl w30C ⟨(lx rfl), (lx rfl), trivial⟩ r30C) ?_
    refine WPl.v rfl (o_move rfl) ?_
    refine WPl.v rfl (o_extract rfl rfl) ?_
    refine WPl.v rfl (o_extract rfl rfl) ?_
    refine WPl.l 8 9 rfl rfl rfl (o_alloc Z72) ?_
    refine WPl.s1 (o_stag G72 rfl rfl rfl ⟨rfl, rfl, rfl, rfl, rfl, rfl, rfl, rfl, rfl, rfl, (.inl ⟨_, (lx rfl), PL.one⟩), trivial⟩ rfl rfl) ?_
    refine WPl.v rfl (o_assign rfl) ?_
    refine WPl.nil (EX.then (WP.seq (WP.seq (WP.region ?_))))
    refine WPl.v rfl (o_move rfl) ?_
    refine WPl.v rfl (o_neq rfl rfl) ?_
    refine WPl.nil (EX.then ?_)
    refine WP.cond rfl (fun hc1 => ?_) (fun hc1 => ?_)
    · try simp only [cnd] at hc1
      refine WP.seq (WP.region ?_)
      refine WPl.v rfl (o_build B25 rfl trivial rfl rfl) ?_
      refine WPl.v rfl (o_move rfl) ?_
      refine WPl.s1 (o_stag G25 rfl rfl rfl ⟨rfl, rfl, rfl, rfl, rfl, trivial⟩ rfl rfl) ?_
      refine WPl.v rfl (o_assign rfl) ?_
      refine WPl.nil (EX.then (WP.ret (EX.ret_then ?_)))
      have hE : opE s (isAdd s add) = opV (isAdd s add) := opE_t hf _
      have hv : isAdd s add = false := opV_ne.1 (by simpa using hc1)
      rw [hE, show s.mAft add = po0 from by unfold Shop.mAft; rw [hE, hv]; rfl]
      exact EX.fin id (.inl rfl) rfl (.cellg G25 rfl rfl rfl (.tmp rfl .nil)) rfl (by simp [SV.res, El.res, At.res, keys]) trivial (by simp) (by simp)
    · try simp only [cnd] at hc1
      have hE : opE s (isAdd s add) = 0 := (opE_t hf _).trans (by simpa using hc1)
      have hv : isAdd s add = true := opV_eq.1 (by simpa using hc1)
      have hpg := Shop.pigsOK hf
      have had := isAddB hpg hv
      refine WP.skip (EX.then (WP.seq (WP.region ?_)))
      refine WPl.v rfl (o_ldpa G72 rfl rfl rfl) ?_
      refine WPl.x 9 10 rfl rfl rfl (o_ldqx S32 rfl (lx rfl) boxx) ?_
      refine WPl.cs 10 rfl rfl rfl rfl (o_sig 10 (ren [(0, 7), (1, 9)]) (c33 s add hf (by omega) had.2.2) e33 rfl rfl rfl w33 ⟨(lx rfl), (lx rfl), trivial⟩ r33) ?_
      refine WPl.s1 (o_stag G25 rfl rfl rfl ⟨rfl, rfl, rfl, rfl, rfl, trivial⟩ rfl rfl) ?_
      refine WPl.v rfl (o_assign rfl) ?_
      refine WPl.nil (EX.then (WP.ret ?_))
      rw [hE, show s.mAft add = s.aft add from by unfold Shop.mAft; rw [hE]; rfl]
      exact EX.fin id (.inl rfl) rfl (.cellg G25 rfl rfl rfl (.tmp rfl .nil)) rfl (by simp [SV.res, El.res, At.res, keys]) trivial (by simp) (by simp)
  · skip
    refine Sig.intro Try.func14 rfl 2 [(0, .e (.g [ai (s.pounds), ai (s.tl), ai (s.th), ai (s.al), ai (s.ah), ai (s.room), ai (s.tpl), ai (s.tph), ai (s.apl), ai (s.aph), .q 0])), (1, .e (.a (.q 1)))] rfl w14 rfl rfl fun I w => ?_
    refine WP.seq (WP.region ?_)
    refine WPl.l 2 3 rfl rfl rfl (o_boxg rfl) ?_
    refine WPl.l 3 4 rfl rfl rfl (o_boxa rfl (.inl ⟨_, (lx rfl), PL.one⟩)) ?_
    refine WPl.l 4 5 rfl rfl rfl (o_alloc Z25) ?_
    refine WPl.v rfl (o_assign rfl) ?_
    refine WPl.nil (EX.then (WP.seq (WP.region ?_)))
    refine WPl.v rfl (o_ldpa G28 rfl rfl rfl) ?_
    refine WPl.imp (Imp.frzb (E := EP.box (PL EP.int (add))) (y := ()) 3 5 6 rfl rfl (bok_box (lx rfl)) rfl rfl rfl) ?_
    refine WPl.x 6 7 rfl rfl rfl (o_mkfn0 6 rfl) ?_
    refine WPl.cs 8 rfl rfl rfl rfl (o_sig 7 (ren [(0, 0), (1, 6)]) (c30CE s hf hl) e30 rfl rfl rfl w30CE ⟨(lx rfl), (lx rfl), trivial⟩ r30CE) ?_
    refine WPl.v rfl (o_move rfl) ?_
    refine WPl.v rfl (o_extract rfl rfl) ?_
    refine WPl.v rfl (o_extract rfl rfl) ?_
    refine WPl.l 8 9 rfl rfl rfl (o_alloc Z72) ?_
    refine WPl.s1 (o_stag G72 rfl rfl rfl ⟨rfl, rfl, rfl, rfl, rfl, rfl, rfl, rfl, rfl, rfl, (.inl ⟨_, (lx rfl), PL.one⟩), trivial⟩ rfl rfl) ?_
    refine WPl.v rfl (o_assign rfl) ?_
    refine WPl.nil (EX.then (WP.seq (WP.seq (WP.region ?_))))
    refine WPl.v rfl (o_move rfl) ?_
    refine WPl.v rfl (o_neq rfl rfl) ?_
    refine WPl.nil (EX.then ?_)
    refine WP.cond rfl (fun hc1 => ?_) (fun hc1 => ?_)
    · try simp only [cnd] at hc1
      refine WP.seq (WP.region ?_)
      refine WPl.v rfl (o_build B25 rfl trivial rfl rfl) ?_
      refine WPl.v rfl (o_move rfl) ?_
      refine WPl.s1 (o_stag G25 rfl rfl rfl ⟨rfl, rfl, rfl, rfl, rfl, trivial⟩ rfl rfl) ?_
      refine WPl.v rfl (o_assign rfl) ?_
      refine WPl.nil (EX.then (WP.ret (EX.ret_then ?_)))
      have hE : opE s (isAdd s add) = 10 := opE_f hf _
      rw [hE, show s.mAft add = po0 from by unfold Shop.mAft; rw [hE]; rfl]
      exact EX.fin id (.inl rfl) rfl (.cellg G25 rfl rfl rfl (.tmp rfl .nil)) rfl (by simp [SV.res, El.res, At.res, keys]) trivial (by simp) (by simp)
    · try simp only [cnd] at hc1
      simp at hc1
theorem w27E {s : Shop} : ∀ x ∈ ([.e (.g [ai (s.pounds), ai (s.tl), ai (s.th), ai (s.al), ai (s.ah), ai (s.room), ai (s.tpl), ai (s.tph), ai (s.apl), ai (s.aph), .q 0]), .e (.a (.q 1))] : List SV), x.res (keys (α := Pred) [(0, PL EPig (s.pigs)), (1, Pred.fn)]) := by simp [SV.res, El.res, At.res, keys]
theorem r27E  : SV.res (keys (α := Pred) [(0, PT EP.int ([]) 3), (1, PL EP.int ([]))]) (.t [.a (.q 0), .a (.q 1), .a (ai (10))]) := by simp [SV.res, El.res, At.res, keys]
set_option maxHeartbeats 4000000 in
theorem c27E (s : Shop) (hl : s.pigs.length ≤ 40) (hf : s.chk = false) : Sig Try.prog 27 [.e (.g [ai (s.pounds), ai (s.tl), ai (s.th), ai (s.al), ai (s.ah), ai (s.room), ai (s.tpl), ai (s.tph), ai (s.apl), ai (s.aph), .q 0]), .e (.a (.q 1))] [(0, PL EPig (s.pigs)), (1, Pred.fn)] (.t [.a (.q 0), .a (.q 1), .a (ai (10))]) [(0, PT EP.int ([]) 3), (1, PL EP.int ([]))] := by
  have hch : errM s.chk = 10 := by simp [hf, errM]
  refine Sig.intro Try.func27 rfl 2 [(0, .e (.g [ai (s.pounds), ai (s.tl), ai (s.th), ai (s.al), ai (s.ah), ai (s.room), ai (s.tpl), ai (s.tph), ai (s.apl), ai (s.aph), .q 0])), (1, .e (.a (.q 1)))] rfl w27E rfl rfl fun I w => ?_
  refine WP.seq (WP.region ?_)
  refine WPl.l 2 3 rfl rfl rfl (o_boxg rfl) ?_
  refine WPl.l 3 4 rfl rfl rfl (o_boxa rfl (.inl ⟨_, (lx rfl), (fun _ _ ⟨_, _, _, h⟩ => by subst h; rfl)⟩)) ?_
  refine WPl.l 4 5 rfl rfl rfl (o_alloc Z32) ?_
  refine WPl.l 5 6 rfl rfl rfl (o_alloc Z32) ?_
  refine WPl.v rfl (o_assign rfl) ?_
  refine WPl.nil (EX.then (WP.seq (WP.region ?_)))
  refine WPl.v rfl (o_ldpa G28 rfl rfl rfl) ?_
  refine WPl.cs 7 rfl rfl rfl rfl (o_sig 6 (ren [(0, 0)]) (c30N s hl) e30 rfl rfl rfl w30N ⟨(lx rfl), trivial⟩ r30N) ?_
  refine WPl.v rfl (o_move rfl) ?_
  refine WPl.v rfl (o_extract rfl rfl) ?_
  refine WPl.v rfl (o_extract rfl rfl) ?_
  refine WPl.l 7 8 rfl rfl rfl (o_alloc Z72) ?_
  refine WPl.s1 (o_stag G72 rfl rfl rfl ⟨rfl, rfl, rfl, rfl, rfl, rfl, rfl, rfl, rfl, rfl, (.inl ⟨_, (lx rfl), PL.one⟩), trivial⟩ rfl rfl) ?_
  refine WPl.v rfl (o_assign rfl) ?_
  refine WPl.nil (EX.then (WP.seq (WP.seq (WP.region ?_))))
  refine WPl.v rfl (o_move rfl) ?_
  refine WPl.v rfl (o_neq rfl rfl) ?_
  refine WPl.nil (EX.then ?_)
  refine WP.cond rfl (fun hc1 => ?_) (fun hc1 => ?_)
  · try simp only [cnd] at hc1
    refine WP.seq (WP.region ?_)
    refine WPl.v rfl (o_move rfl) ?_
    refine WPl.s1 (o_sta S32 rfl rfl rfl rfl rfl) ?_
    refine WPl.s1 (o_sta S32 rfl rfl rfl rfl rfl) ?_
    refine WPl.v rfl (o_assign rfl) ?_
    refine WPl.nil (EX.then (WP.ret (EX.ret_then ?_)))
    refine EX.imp (Imp.nam 8 9 (.slice none 0 0) (R := PTN EP.int 3) ptn_ok rfl rfl) ?_
    refine EX.imp (Imp.swL 4 0 8 rfl rfl (lxr rfl)) ?_
    refine EX.imp (Imp.nam 9 10 (.slice none 0 0) (R := PN EP.int) pn_ok rfl rfl) ?_
    refine EX.imp (Imp.swL 5 0 9 rfl rfl (lxr rfl)) ?_
    rw [hch]
    exact EX.fin (ren [(0, 8), (1, 9)]) (.inl rfl) rfl (.cell1 S32 rfl rfl (.cell1 S32 rfl rfl (.tmp rfl .nil))) rfl (by simp [SV.res, El.res, At.res, keys]) ⟨lxl rfl, lxl rfl, trivial⟩ (by simp) (by simp)
  · try simp only [cnd] at hc1
    simp [hch] at hc1
theorem w12 {s : Shop} : ∀ x ∈ ([.e (.g [ai (s.pounds), ai (s.tl), ai (s.th), ai (s.al), ai (s.ah), ai (s.room), ai (s.tpl), ai (s.tph), ai (s.apl), ai (s.aph), .q 0])] : List SV), x.res (keys (α := Pred) [(0, PL EPig (s.pigs))]) := by simp [SV.res, El.res, At.res, keys]
theorem r12 {s : Shop} : SV.res (keys (α := Pred) [(0, PT EP.int (s.mAdd (priceG s)) 3)]) (.t [.a (.q 0), .a (ai (s.mE (priceG s)))]) := by simp [SV.res, El.res, At.res, keys]
set_option maxHeartbeats 4000000 in
theorem c12 (s : Shop) (hl : s.pigs.length ≤ 40) : Sig Try.prog 12 [.e (.g [ai (s.pounds), ai (s.tl), ai (s.th), ai (s.al), ai (s.ah), ai (s.room), ai (s.tpl), ai (s.tph), ai (s.apl), ai (s.aph), .q 0])] [(0, PL EPig (s.pigs))] (.t [.a (.q 0), .a (ai (s.mE (priceG s)))]) [(0, PT EP.int (s.mAdd (priceG s)) 3)] := by
  rcases Bool.eq_false_or_eq_true s.chk with hf | hf
  · skip
    refine Sig.intro Try.func12 rfl 1 [(0, .e (.g [ai (s.pounds), ai (s.tl), ai (s.th), ai (s.al), ai (s.ah), ai (s.room), ai (s.tpl), ai (s.tph), ai (s.apl), ai (s.aph), .q 0]))] rfl w12 rfl rfl fun I w => ?_
    refine WP.seq (WP.region ?_)
    refine WPl.l 1 2 rfl rfl rfl (o_boxg rfl) ?_
    refine WPl.v rfl (o_assign rfl) ?_
    refine WPl.v rfl (o_assign rfl) ?_
    refine WPl.nil (EX.then (WP.seq (WP.region ?_)))
    refine WPl.v rfl (o_ldpa G28 rfl rfl rfl) ?_
    refine WPl.imp (Imp.nam 2 3 (.func (.func 28) #[] #[]) (R := (OfM s (priceG s)).and (Pred.is (.func (.func 28) #[] #[]))) (fun I => FvP.namea (fun (x : AdL s) => (c28 s x hf)) e28 (fun _ => (by simp [SV.res, El.res, At.res, keys])) I) rfl rfl) ?_
    refine WPl.cs 5 rfl rfl rfl rfl (o_sigc 3 (ren [(0, 0), (1, 2)]) (c27 s (priceG s) hl (price_ok s) (fun h => by rw [hf] at h; cases h)) e27 rfl rfl ⟨.inl rfl, .inr ⟨_, _, rfl, fun _ => rfl, (lxr rfl)⟩, trivial⟩ w27 ⟨(lx rfl), (lxl rfl), trivial⟩ r27) ?_
    refine WPl.v rfl (o_move rfl) ?_
    refine WPl.v rfl (o_extract rfl rfl) ?_
    refine WPl.v rfl (o_extract rfl rfl) ?_
    refine WPl.v rfl (o_extract rfl rfl) ?_
    refine WPl.v rfl (o_assign rfl) ?_
    refine WPl.v rfl (o_assign rfl) ?_
    refine WPl.v rfl (o_assign rfl) ?_
    refine WPl.nil (EX.then (WP.seq (WP.region ?_)))
    refine WPl.v rfl (o_move rfl) ?_
    refine WPl.v rfl (o_move rfl) ?_
    refine WPl.v rfl (o_assign rfl) ?_
    refine WPl.v rfl (o_assign rfl) ?_
    refine WPl.nil (EX.then (WP.ret ?_))
    exact EX.fin (ren [(0, 3)]) (.inl rfl) rfl (.tmp rfl (.tmp rfl .nil)) rfl r12 ⟨(lx rfl), trivial⟩ (by simp) (by simp)
  · skip
    refine Sig.intro Try.func12 rfl 1 [(0, .e (.g [ai (s.pounds), ai (s.tl), ai (s.th), ai (s.al), ai (s.ah), ai (s.room), ai (s.tpl), ai (s.tph), ai (s.apl), ai (s.aph), .q 0]))] rfl w12 rfl rfl fun I w => ?_
    refine WP.seq (WP.region ?_)
    refine WPl.l 1 2 rfl rfl rfl (o_boxg rfl) ?_
    refine WPl.v rfl (o_assign rfl) ?_
    refine WPl.v rfl (o_assign rfl) ?_
    refine WPl.nil (EX.then (WP.seq (WP.region ?_)))
    refine WPl.v rfl (o_ldpa G28 rfl rfl rfl) ?_
    refine WPl.imp (Imp.nam 2 3 (.func (.func 28) #[] #[]) (R := Pred.fn.and (Pred.is (.func (.func 28) #[] #[]))) (fun _ => ⟨⟨_, _, _, rfl⟩, rfl⟩) rfl rfl) ?_
    refine WPl.cs 5 rfl rfl rfl rfl (o_sigc 3 (ren [(0, 0), (1, 2)]) (c27E s hl hf) e27 rfl rfl ⟨.inl rfl, .inr ⟨_, _, rfl, fun _ => rfl, (lxr rfl)⟩, trivial⟩ w27E ⟨(lx rfl), (lxl rfl), trivial⟩ r27E) ?_
    refine WPl.v rfl (o_move rfl) ?_
    refine WPl.v rfl (o_extract rfl rfl) ?_
    refine WPl.v rfl (o_extract rfl rfl) ?_
    refine WPl.v rfl (o_extract rfl rfl) ?_
    refine WPl.v rfl (o_assign rfl) ?_
    refine WPl.v rfl (o_assign rfl) ?_
    refine WPl.v rfl (o_assign rfl) ?_
    refine WPl.nil (EX.then (WP.seq (WP.region ?_)))
    refine WPl.v rfl (o_move rfl) ?_
    refine WPl.v rfl (o_move rfl) ?_
    refine WPl.v rfl (o_assign rfl) ?_
    refine WPl.v rfl (o_assign rfl) ?_
    refine WPl.nil (EX.then (WP.ret ?_))
    have hE : s.mE (priceG s) = 10 := by unfold Shop.mE; rw [hf]; rfl
    rw [hE, show s.mAdd (priceG s) = [] from by unfold Shop.mAdd; rw [hE]; rfl]
    exact EX.fin (ren [(0, 3)]) (.inl rfl) rfl (.tmp rfl (.tmp rfl .nil)) rfl (by simp [SV.res, El.res, At.res, keys]) ⟨(lx rfl), trivial⟩ (by simp) (by simp)
end Go.Flong
namespace Go.Flong
open Go Go.Eng Go.Proofs
theorem e45 : Enters' Try.prog 45 := Try.call45
theorem w45 {s : Shop} {i n : Int} : ∀ x ∈ ([.e (.g [ai (s.pounds), ai (s.tl), ai (s.th), ai (s.al), ai (s.ah), ai (s.room), ai (s.tpl), ai (s.tph), ai (s.apl), ai (s.aph), .q 0]), .i (i), .i (n)] : List SV), x.res (keys (α := Pred) [(0, PL EPig (s.pigs))]) := by simp [SV.res, El.res, At.res, keys]
theorem r45 {s : Shop} {i n : Int} : SV.res (keys (α := Pred) [(0, PL EPig ((s.pigged i n).pigs))]) (.e (.g [ai ((s.pigged i n).pounds), ai ((s.pigged i n).tl), ai ((s.pigged i n).th), ai ((s.pigged i n).al), ai ((s.pigged i n).ah), ai ((s.pigged i n).room), ai ((s.pigged i n).tpl), ai ((s.pigged i n).tph), ai ((s.pigged i n).apl), ai ((s.pigged i n).aph), .q 0])) := by simp [SV.res, El.res, At.res, keys]
set_option maxHeartbeats 4000000 in
theorem c45 (s : Shop) (i n : Int) (hl : s.pigs.length ≤ 40) (hi : 0 ≤ i ∧ i < s.pigs.length) : Sig Try.prog 45 [.e (.g [ai (s.pounds), ai (s.tl), ai (s.th), ai (s.al), ai (s.ah), ai (s.room), ai (s.tpl), ai (s.tph), ai (s.apl), ai (s.aph), .q 0]), .i (i), .i (n)] [(0, PL EPig (s.pigs))] (.e (.g [ai ((s.pigged i n).pounds), ai ((s.pigged i n).tl), ai ((s.pigged i n).th), ai ((s.pigged i n).al), ai ((s.pigged i n).ah), ai ((s.pigged i n).room), ai ((s.pigged i n).tpl), ai ((s.pigged i n).tph), ai ((s.pigged i n).apl), ai ((s.pigged i n).aph), .q 0])) [(0, PL EPig ((s.pigged i n).pigs))] := by
  refine Sig.intro Try.func45 rfl 1 [(0, .e (.g [ai (s.pounds), ai (s.tl), ai (s.th), ai (s.al), ai (s.ah), ai (s.room), ai (s.tpl), ai (s.tph), ai (s.apl), ai (s.aph), .q 0])), (1, .i (i)), (2, .i (n))] rfl w45 rfl rfl fun I w => ?_
  refine WP.seq (WP.region ?_)
  refine WPl.l 1 2 rfl rfl rfl (o_boxg rfl) ?_
  refine WPl.l 2 3 rfl rfl rfl (o_alloc Z28) ?_
  refine WPl.nil (EX.then (WP.seq (WP.region ?_)))
  refine WPl.v rfl (o_ldpa G28 rfl rfl rfl) ?_
  refine WPl.cL 4 rfl rfl rfl rfl rfl (o_sigo 3 (ren [(0, 0)]) (c10O s hl) e10 rfl rfl SvsOK.rf w10O ⟨(lx rfl), trivial⟩ r10O rfl rfl) ?_
  refine WPl.l 4 5 rfl rfl rfl (o_alloc Z28) ?_
  refine WPl.s1 (o_stag G28 rfl rfl rfl ⟨rfl, rfl, rfl, rfl, rfl, rfl, rfl, rfl, rfl, rfl, (.inr ⟨_, _, _, _, rfl⟩), trivial⟩ rfl rfl) ?_
  refine WPl.nil (EX.then (WP.seq (WP.region ?_)))
  refine WPl.v rfl (o_fldp F28_4 rfl) ?_
  refine WPl.v rfl (o_ldp S26 rfl rfl rfl) ?_
  refine WPl.v rfl (o_move rfl) ?_
  refine WPl.v rfl (o_idxo L26 rfl rfl rfl (by first | omega | (simp; omega)) (by first | omega | (simp; omega))) ?_
  refine WPl.v rfl (o_ldoG G53 rfl rfl rfl rfl (by first | omega | (simp; omega)) (by first | omega | (simp; omega)) (strG rfl) rfl rfl) ?_
  refine WPl.l 5 6 rfl rfl rfl (o_alloc Z53) ?_
  refine WPl.s1 (o_stag G53 rfl rfl rfl ⟨rfl, rfl, rfl, rfl, rfl, trivial⟩ rfl rfl) ?_
  refine WPl.nil (EX.then (WP.seq (WP.region ?_)))
  refine WPl.v rfl (o_move rfl) ?_
  refine WPl.v rfl (o_fldp F53_4 rfl) ?_
  refine WPl.s1 (o_sta S3 rfl rfl rfl rfl rfl) ?_
  refine WPl.nil (EX.then (WP.seq (WP.region ?_)))
  refine WPl.v rfl (o_fldp F28_4 rfl) ?_
  refine WPl.v rfl (o_ldp S26 rfl rfl rfl) ?_
  refine WPl.v rfl (o_move rfl) ?_
  refine WPl.v rfl (o_ldpa G53 rfl rfl rfl) ?_
  refine WPl.v rfl (o_idxo L26 rfl rfl rfl (by first | omega | (simp; omega)) (by first | omega | (simp; omega))) ?_
  refine WPl.s1 (o_steE2 (z := ({ nth s.pigs i with many := n } : Pig)) Try.sizeOf53 rfl rfl rfl ⟨rfl, rfl, rfl, rfl, rfl, trivial⟩ (eok_str ⟨rfl, rfl, rfl, rfl, rfl, trivial⟩) rfl rfl rfl (by first | omega | (simp; omega)) (by first | omega | (simp; omega))) ?_
  refine WPl.nil (EX.then (WP.seq (WP.region ?_)))
  refine WPl.v rfl (o_ldpa G28 rfl rfl rfl) ?_
  refine WPl.s1 (o_stag G28 rfl rfl rfl ⟨rfl, rfl, rfl, rfl, rfl, rfl, rfl, rfl, rfl, rfl, (.inr ⟨_, _, _, _, rfl⟩), trivial⟩ rfl rfl) ?_
  refine WPl.nil (EX.then (WP.ret ?_))
  refine EX.imp (Imp.frz (E := EPig) (l := lset ([] ++ s.pigs) i ({ nth s.pigs i with many := n } : Pig)) 3 rfl rfl) ?_
  exact EX.fin (ren [(0, 3)]) (.inl rfl) rfl (.cellg G28 rfl rfl rfl (.nil)) rfl r45 ⟨(lx rfl), trivial⟩ (by simp) (by simp)
theorem w22  : ∀ x ∈ ([] : List SV), x.res (keys (α := Pred) []) := by simp [SV.res, El.res, At.res, keys]
theorem r22  : SV.res (keys (α := Pred) [(0, PL EPig (exM.pigs)), (1, PL EPig (exL.pigs))]) (.t [.g [ai (exM.pounds), ai (exM.tl), ai (exM.th), ai (exM.al), ai (exM.ah), ai (exM.room), ai (exM.tpl), ai (exM.tph), ai (exM.apl), ai (exM.aph), .q 0], .g [ai (exL.pounds), ai (exL.tl), ai (exL.th), ai (exL.al), ai (exL.ah), ai (exL.room), ai (exL.tpl), ai (exL.tph), ai (exL.apl), ai (exL.aph), .q 1]]) := by simp [SV.res, El.res, At.res, keys]
set_option maxHeartbeats 4000000 in
theorem c22   : Sig Try.prog 22 [] [] (.t [.g [ai (exM.pounds), ai (exM.tl), ai (exM.th), ai (exM.al), ai (exM.ah), ai (exM.room), ai (exM.tpl), ai (exM.tph), ai (exM.apl), ai (exM.aph), .q 0], .g [ai (exL.pounds), ai (exL.tl), ai (exL.th), ai (exL.al), ai (exL.ah), ai (exL.room), ai (exL.tpl), ai (exL.tph), ai (exL.apl), ai (exL.aph), .q 1]]) [(0, PL EPig (exM.pigs)), (1, PL EPig (exL.pigs))] := by
  refine Sig.intro Try.func22 rfl 0 [] rfl w22 rfl rfl fun I w => ?_
  refine WP.seq (WP.region ?_)
  refine WPl.l 0 1 rfl rfl rfl (o_alloc Z28) ?_
  refine WPl.l 1 2 rfl rfl rfl (o_alloc Z28) ?_
  refine WPl.nil (EX.then (WP.seq (WP.region ?_)))
  refine WPl.v rfl (o_build B23 rfl ⟨rfl, rfl, trivial⟩ rfl rfl) ?_
  refine WPl.v rfl (o_build B23 rfl ⟨rfl, rfl, trivial⟩ rfl rfl) ?_
  refine WPl.v rfl (o_build B25 rfl ⟨rfl, trivial⟩ rfl rfl) ?_
  refine WPl.v rfl (o_build B23 rfl ⟨rfl, rfl, trivial⟩ rfl rfl) ?_
  refine WPl.v rfl (o_build B23 rfl ⟨rfl, rfl, trivial⟩ rfl rfl) ?_
  refine WPl.v rfl (o_build B53 rfl ⟨rfl, rfl, rfl, rfl, trivial⟩ rfl rfl) ?_
  refine WPl.v rfl (o_build B53 rfl ⟨rfl, rfl, rfl, rfl, rfl, trivial⟩ rfl rfl) ?_
  refine WPl.v rfl (o_build B53 rfl ⟨rfl, rfl, rfl, trivial⟩ rfl rfl) ?_
  refine WPl.x 2 3 rfl rfl rfl (OpG.settle0 (o_bsl (E := EPig) (l := [(⟨10, 5, 0, 30, 3⟩ : Pig), (⟨20, 1, 6, 25, 2⟩ : Pig), (⟨25, 0, 0, 5, 2⟩ : Pig)]) R26 rfl rfl (.cons (⟨rfl, rfl, rfl, rfl, rfl, trivial⟩) rfl (eok_str ⟨rfl, rfl, rfl, rfl, rfl, trivial⟩) (.cons (⟨rfl, rfl, rfl, rfl, rfl, trivial⟩) rfl (eok_str ⟨rfl, rfl, rfl, rfl, rfl, trivial⟩) (.cons (⟨rfl, rfl, rfl, rfl, rfl, trivial⟩) rfl (eok_str ⟨rfl, rfl, rfl, rfl, rfl, trivial⟩) (.nil)))) rfl rfl)) ?_
  refine WPl.v rfl (o_build B28 rfl ⟨rfl, (.inl ⟨_, (lx rfl), PL.one⟩), trivial⟩ rfl rfl) ?_
  refine WPl.s1 (o_stag G28 rfl rfl rfl ⟨rfl, rfl, rfl, rfl, rfl, rfl, rfl, rfl, rfl, rfl, (.inl ⟨_, (lx rfl), PL.one⟩), trivial⟩ rfl rfl) ?_
  refine WPl.nil (EX.then (WP.seq ?_))
  refine WP.draw (nf := 4) [⟨[13, 14], [3], [], [], []⟩, ⟨[12], [], [], [], []⟩, ⟨[12], [], [3], [3], [1]⟩, ⟨[], [], [], [0], [0, 1, 2]⟩, ⟨[], [], [], [1], [0, 1, 2, 3]⟩] (by kernel_rfl) (by kernel_rfl) ?_
  refine DRQ.v rfl rfl rfl (o_ldpa G28 rfl rfl rfl) ?_
  refine DRQ.v rfl rfl rfl (o_ldpa G28 rfl rfl rfl) ?_
  refine DRQ.cs rfl rfl rfl rfl (o_sig 3 (ren [(0, 2)]) (c45 exM 0 0 (by decide) (by decide)) e45 rfl rfl rfl w45 ⟨(lx rfl), trivial⟩ r45) ?_
  refine DRQ.s 0 rfl rfl rfl (o_stag G28 rfl rfl rfl ⟨rfl, rfl, rfl, rfl, rfl, rfl, rfl, rfl, rfl, rfl, (.inl ⟨_, (lx rfl), PL.one⟩), trivial⟩ rfl rfl) ?_
  refine DRQ.s 1 rfl rfl rfl (o_stag G28 rfl rfl rfl ⟨rfl, rfl, rfl, rfl, rfl, rfl, rfl, rfl, rfl, rfl, (.inl ⟨_, (lx rfl), PL.one⟩), trivial⟩ rfl rfl) ?_
  refine DRQ.nil' ?_
  refine EX.then (WP.ret ?_)
  exact EX.fin (ren [(0, 2), (1, 3)]) (.inl rfl) rfl (.cellg G28 rfl rfl rfl (.cellg G28 rfl rfl rfl (.nil))) rfl r22 ⟨(lx rfl), (lx rfl), trivial⟩ (by simp) (by simp)
end Go.Flong
namespace Go.Flong
open Go Go.Eng Go.Proofs
theorem w9 {s : Shop} {t a : Int} : ∀ x ∈ ([.e (.g [ai (s.pounds), ai (s.tl), ai (s.th), ai (s.al), ai (s.ah), ai (s.room), ai (s.tpl), ai (s.tph), ai (s.apl), ai (s.aph), .q 0]), .i (t), .i (a)] : List SV), x.res (keys (α := Pred) [(0, PL EPig (s.pigs))]) := by simp [SV.res, El.res, At.res, keys]
theorem r9 {s : Shop} {t a : Int} : SV.res (keys (α := Pred) [(0, PL EPig ((s.inTr t a).pigs))]) (.e (.g [ai ((s.inTr t a).pounds), ai ((s.inTr t a).tl), ai ((s.inTr t a).th), ai ((s.inTr t a).al), ai ((s.inTr t a).ah), ai ((s.inTr t a).room), ai ((s.inTr t a).tpl), ai ((s.inTr t a).tph), ai ((s.inTr t a).apl), ai ((s.inTr t a).aph), .q 0])) := by simp [SV.res, El.res, At.res, keys]
set_option maxHeartbeats 4000000 in
theorem c9 (s : Shop) (t a : Int) (hl : s.pigs.length ≤ 40) : Sig Try.prog 9 [.e (.g [ai (s.pounds), ai (s.tl), ai (s.th), ai (s.al), ai (s.ah), ai (s.room), ai (s.tpl), ai (s.tph), ai (s.apl), ai (s.aph), .q 0]), .i (t), .i (a)] [(0, PL EPig (s.pigs))] (.e (.g [ai ((s.inTr t a).pounds), ai ((s.inTr t a).tl), ai ((s.inTr t a).th), ai ((s.inTr t a).al), ai ((s.inTr t a).ah), ai ((s.inTr t a).room), ai ((s.inTr t a).tpl), ai ((s.inTr t a).tph), ai ((s.inTr t a).apl), ai ((s.inTr t a).aph), .q 0])) [(0, PL EPig ((s.inTr t a).pigs))] := by
  refine Sig.intro Try.func9 rfl 1 [(0, .e (.g [ai (s.pounds), ai (s.tl), ai (s.th), ai (s.al), ai (s.ah), ai (s.room), ai (s.tpl), ai (s.tph), ai (s.apl), ai (s.aph), .q 0])), (1, .i (t)), (2, .i (a))] rfl w9 rfl rfl fun I w => ?_
  refine WP.seq (WP.region ?_)
  refine WPl.l 1 2 rfl rfl rfl (o_boxg rfl) ?_
  refine WPl.l 2 3 rfl rfl rfl (o_alloc Z28) ?_
  refine WPl.nil (EX.then (WP.seq (WP.region ?_)))
  refine WPl.v rfl (o_ldpa G28 rfl rfl rfl) ?_
  refine WPl.cs 4 rfl rfl rfl rfl (o_sig 3 (ren [(0, 0)]) (c10 s (by omega)) e10 rfl rfl rfl w10 ⟨(lx rfl), trivial⟩ r10) ?_
  refine WPl.l 4 5 rfl rfl rfl (o_alloc Z28) ?_
  refine WPl.s1 (o_stag G28 rfl rfl rfl ⟨rfl, rfl, rfl, rfl, rfl, rfl, rfl, rfl, rfl, rfl, (.inl ⟨_, (lx rfl), PL.one⟩), trivial⟩ rfl rfl) ?_
  refine WPl.nil (EX.then (WP.seq (WP.region ?_)))
  refine WPl.v rfl (o_move rfl) ?_
  refine WPl.v rfl (o_move rfl) ?_
  refine WPl.v rfl (o_build B23 rfl ⟨rfl, rfl, trivial⟩ rfl rfl) ?_
  refine WPl.v rfl (o_fldp F28_0 rfl) ?_
  refine WPl.v rfl (o_fldp F25_1 rfl) ?_
  refine WPl.s1 (o_stag G23 rfl rfl rfl ⟨rfl, rfl, trivial⟩ rfl rfl) ?_
  refine WPl.nil (EX.then (WP.seq (WP.region ?_)))
  refine WPl.v rfl (o_move rfl) ?_
  refine WPl.v rfl (o_move rfl) ?_
  refine WPl.v rfl (o_build B23 rfl ⟨rfl, rfl, trivial⟩ rfl rfl) ?_
  refine WPl.v rfl (o_fldp F28_0 rfl) ?_
  refine WPl.v rfl (o_fldp F25_2 rfl) ?_
  refine WPl.s1 (o_stag G23 rfl rfl rfl ⟨rfl, rfl, trivial⟩ rfl rfl) ?_
  refine WPl.nil (EX.then (WP.seq (WP.region ?_)))
  refine WPl.v rfl (o_ldpa G28 rfl rfl rfl) ?_
  refine WPl.s1 (o_stag G28 rfl rfl rfl ⟨rfl, rfl, rfl, rfl, rfl, rfl, rfl, rfl, rfl, rfl, (.inl ⟨_, (lx rfl), PL.one⟩), trivial⟩ rfl rfl) ?_
  refine WPl.nil (EX.then (WP.ret ?_))
  exact EX.fin (ren [(0, 3)]) (.inl rfl) rfl (.cellg G28 rfl rfl rfl (.nil)) rfl r9 ⟨(lx rfl), trivial⟩ (by simp) (by simp)
end Go.Flong
namespace Go.Flong
open Go Go.Eng
section
variable {s : Shop}
theorem menE (hs : s.chk = true) (he : ¬ s.mE (priceG s) = 0) : s.mE (priceG s) = 3 := by
  rcases cheap_spec hs with ⟨g, _⟩ | ⟨g, _⟩
  · exact g
  · exact absurd g he
theorem menB (hs : s.chk = true) (he : s.mE (priceG s) = 0) : s.menL.length = s.pigs.length ∧ s.pigs.length ≤ 4 ∧ isAdd s s.menL = true ∧ PoB (s.mAft s.menL) ∧ ∀ j : Nat, j < s.pigs.length → 0 ≤ nth s.menL j ∧ nth s.menL j ≤ (nth s.pigs j).many ∧ (nth s.pigs j).many ≤ 1000 := by
  have hk : s.okM s.menL = true := by
    rcases cheap_spec hs with ⟨g, _⟩ | ⟨_, g, _⟩
    · rw [he] at g; cases g
    · exact g
  unfold Shop.okM at hk
  rw [Bool.and_eq_true] at hk
  have ha := hk.1
  have hb := isAddB (Shop.pigsOK hs) ha
  refine ⟨hb.1, (Shop.pigsOK hs).2, ha, ?_, fun j hj => ?_⟩
  · unfold Shop.mAft
    rw [opE_t hs, ha]
    exact aft_bnd hs (by omega) hb.2.2
  · have ha2 := ha
    simp only [isAdd, Bool.and_eq_true, decide_eq_true_eq] at ha2
    have h4 := allI_iff.1 ha2.1.2 j (by omega)
    simp only [fitsMany, within, Bool.and_eq_true, decide_eq_true_eq] at h4
    have h5 := Pig.bnds ((Shop.pigsOK hs).at hj)
    omega
theorem menPig {l : List Int} {k : Nat} (hk : k < s.pigs.length) : nth (pigsTo s.pigs l k) (k : Int) = nth s.pigs k := by
  rw [pigsTo_nth s.pigs l k k (by omega), if_neg (Nat.lt_irrefl _)]
end
theorem menOKs {f : Fnd} {t : Tru} {i : Nat} (h : ∀ j : Nat, j < i → f.menOK t j = true) (hs : (f.menS t i).chk = true) (he : (f.menS t i).mE (priceG (f.menS t i)) = 0) : ∀ j : Nat, j < i + 1 → f.menOK t j = true := fun j hj => by
  rcases Nat.lt_succ_iff_lt_or_eq.1 hj with g | g
  · exact h j g
  · subst g; unfold Fnd.menOK; rw [hs, decide_eq_true he]; rfl
end Go.Flong
namespace Go.Flong
open Go Go.Eng Go.Proofs
theorem e22 : Enters' Try.prog 22 := Try.call22
theorem e23 : Enters' Try.prog 23 := Try.call23
theorem e12 : Enters' Try.prog 12 := Try.call12
theorem e18 : Enters' Try.prog 18 := Try.call18
theorem e24 : Enters' Try.prog 24 := Try.call24
theorem e4 : Enters' Try.prog 4 := Try.call4
theorem F34_2 : Fld Try.prog 34 2 2 := .mk Try.underlying34 rfl rfl rfl Try.sizeOf32 rfl
theorem F34_0 : Fld Try.prog 34 0 0 := .mk Try.underlying34 rfl rfl rfl Try.sizeOf3 rfl
theorem F34_1 : Fld Try.prog 34 1 1 := .mk Try.underlying34 rfl rfl rfl Try.sizeOf3 rfl
theorem e7 : Enters' Try.prog 7 := Try.call7
theorem e9 : Enters' Try.prog 9 := Try.call9
theorem e13 : Enters' Try.prog 13 := Try.call13
theorem e14 : Enters' Try.prog 14 := Try.call14
theorem e15 : Enters' Try.prog 15 := Try.call15
theorem e16 : Enters' Try.prog 16 := Try.call16
theorem e17 : Enters' Try.prog 17 := Try.call17
theorem w7  : ∀ x ∈ ([] : List SV), x.res (keys (α := Pred) []) := by simp [SV.res, El.res, At.res, keys]
theorem r7  : SV.res (keys (α := Pred) []) (.b (true)) := by simp [SV.res, El.res, At.res, keys]
set_option maxHeartbeats 4000000 in
set_option maxRecDepth 10000 in
theorem c7   : Sig Try.prog 7 [] [] (.b (true)) [] := by
  refine Sig.intro Try.func7 rfl 0 [] rfl w7 rfl rfl fun I w => ?_
  refine WP.seq (WP.region ?_)
  refine WPl.v rfl (o_assign rfl) ?_
  refine WPl.nil (EX.then (WP.seq (WP.region ?_)))
  refine WPl.cs 2 rfl rfl rfl rfl (o_sig 0 id c22 e22 rfl rfl rfl w22 trivial r22) ?_
  refine WPl.v rfl (o_move rfl) ?_
  refine WPl.v rfl (o_extract rfl rfl) ?_
  refine WPl.v rfl (o_extract rfl rfl) ?_
  refine WPl.l 2 3 rfl rfl rfl (o_alloc Z28) ?_
  refine WPl.l 3 4 rfl rfl rfl (o_alloc Z28) ?_
  refine WPl.s1 (o_stag G28 rfl rfl rfl ⟨rfl, rfl, rfl, rfl, rfl, rfl, rfl, rfl, rfl, rfl, (.inl ⟨_, (lx rfl), PL.one⟩), trivial⟩ rfl rfl) ?_
  refine WPl.s1 (o_stag G28 rfl rfl rfl ⟨rfl, rfl, rfl, rfl, rfl, rfl, rfl, rfl, rfl, rfl, (.inl ⟨_, (lx rfl), PL.one⟩), trivial⟩ rfl rfl) ?_
  refine WPl.nil (EX.then (WP.seq (WP.region ?_)))
  refine WPl.cs 10 rfl rfl rfl rfl (o_sig 4 id c23 e23 rfl rfl rfl w23 trivial r23) ?_
  refine WPl.v rfl (o_move rfl) ?_
  refine WPl.v rfl (o_extract rfl rfl) ?_
  refine WPl.v rfl (o_extract rfl rfl) ?_
  refine WPl.v rfl (o_extract rfl rfl) ?_
  refine WPl.l 10 11 rfl rfl rfl (o_alloc Z31) ?_
  refine WPl.l 11 12 rfl rfl rfl (o_alloc Z31) ?_
  refine WPl.l 12 13 rfl rfl rfl (o_alloc Z31) ?_
  refine WPl.s1 (o_stag G31 rfl rfl rfl ⟨rfl, rfl, rfl, rfl, rfl, rfl, rfl, rfl, rfl, rfl, (.inl ⟨_, (lx rfl), PL.one⟩), (.inl ⟨_, (lx rfl), PL.one⟩), trivial⟩ rfl rfl) ?_
  refine WPl.s1 (o_stag G31 rfl rfl rfl ⟨rfl, rfl, rfl, rfl, rfl, rfl, rfl, rfl, rfl, rfl, (.inl ⟨_, (lx rfl), PL.one⟩), (.inl ⟨_, (lx rfl), PL.one⟩), trivial⟩ rfl rfl) ?_
  refine WPl.s1 (o_stag G31 rfl rfl rfl ⟨rfl, rfl, rfl, rfl, rfl, rfl, rfl, rfl, rfl, rfl, (.inl ⟨_, (lx rfl), PL.one⟩), (.inl ⟨_, (lx rfl), PL.one⟩), trivial⟩ rfl rfl) ?_
  refine WPl.nil (EX.then (WP.seq (WP.region ?_)))
  refine WPl.v rfl (o_ldpa G28 rfl rfl rfl) ?_
  refine WPl.cs 14 rfl rfl rfl rfl (o_sig 13 (ren [(0, 0)]) (c12 exM (by decide)) e12 rfl rfl rfl w12 ⟨(lx rfl), trivial⟩ r12) ?_
  refine WPl.v rfl (o_move rfl) ?_
  refine WPl.v rfl (o_extract rfl rfl) ?_
  refine WPl.v rfl (o_extract rfl rfl) ?_
  refine WPl.v rfl (o_assign rfl) ?_
  refine WPl.v rfl (o_assign rfl) ?_
  refine WPl.nil (EX.then (WP.seq (WP.region ?_)))
  refine WPl.v rfl (o_ldpa G31 rfl rfl rfl) ?_
  refine WPl.cs 14 rfl rfl rfl rfl (o_sig 14 (ren [(0, 8), (1, 9)]) (c18 exV (by decide)) e18 rfl rfl rfl w18 ⟨(lx rfl), (lx rfl), trivial⟩ r18) ?_
  refine WPl.v rfl (o_move rfl) ?_
  refine WPl.v rfl (o_extract rfl rfl) ?_
  refine WPl.v rfl (o_extract rfl rfl) ?_
  refine WPl.v rfl (o_assign rfl) ?_
  refine WPl.v rfl (o_assign rfl) ?_
  refine WPl.nil (EX.then (WP.seq (WP.region ?_)))
  refine WPl.v rfl (o_move rfl) ?_
  refine WPl.v rfl (o_eql rfl rfl) ?_
  refine WPl.imp (Imp.bitF 30 (b' := true) rfl (decide_eq_true exM_mend.1)) ?_
  refine WPl.v rfl (o_move rfl) ?_
  refine WPl.on rfl ⟨_, _, rfl, rfl, rfl⟩ (o_move rfl) ?_
  refine WPl.on rfl ⟨_, _, rfl, rfl, rfl⟩ (o_eql rfl rfl) ?_
  refine WPl.imp (Imp.bitF 33 (b' := true) rfl (decide_eq_true ex_kE)) ?_
  refine WPl.v rfl (o_pickT rfl rfl) ?_
  refine WPl.v rfl (o_move rfl) ?_
  rw [exM_mend.2]
  refine WPl.on rfl ⟨_, _, rfl, rfl, rfl⟩ (o_move rfl) ?_
  refine WPl.ung ⟨_, _, rfl, rfl, rfl⟩ ?_
  refine WPl.x 14 15 rfl rfl rfl (OpG.settle0 (o_bsl (E := EP.int) (l := [1, 1, 1]) R32 rfl rfl (.cons (rfl) rfl (eok_int) (.cons (rfl) rfl (eok_int) (.cons (rfl) rfl (eok_int) (.nil)))) rfl rfl)) ?_
  refine WPl.ung ⟨_, _, rfl, rfl, rfl⟩ ?_
  refine WPl.cs 15 rfl rfl rfl rfl (o_sig 15 (ren [(0, 13), (1, 14)]) (c24 [1, 1, 1] [1, 1, 1] (by decide)) e24 rfl rfl rfl w24 ⟨(lxt rfl), (lx rfl), trivial⟩ r24) ?_
  refine WPl.imp (Imp.bitF 38 (b' := true) rfl (sameInts_refl _)) ?_
  refine WPl.v rfl (o_pickT rfl rfl) ?_
  refine WPl.v rfl (o_move rfl) ?_
  refine WPl.on rfl ⟨_, _, rfl, rfl, rfl⟩ (o_move rfl) ?_
  refine WPl.on rfl ⟨_, _, rfl, rfl, rfl⟩ (o_eql rfl rfl) ?_
  refine WPl.imp (Imp.bitF 42 (b' := true) rfl (decide_eq_true ex_k)) ?_
  refine WPl.v rfl (o_pickT rfl rfl) ?_
  refine WPl.v rfl (o_assign rfl) ?_
  refine WPl.nil (EX.then (WP.ret ?_))
  exact EX.fin id (.inl rfl) rfl (.tmp rfl .nil) rfl r7 trivial (by simp) (by simp)
theorem w3 {f : Fnd} {t : Tru} : ∀ x ∈ ([.e (.g [ai (f.shop.pounds), ai (f.shop.tl), ai (f.shop.th), ai (f.shop.al), ai (f.shop.ah), ai (f.shop.room), ai (f.shop.tpl), ai (f.shop.tph), ai (f.shop.apl), ai (f.shop.aph), .q 0, .q 1]), .e (.g [ai (t.tin), ai (t.ant), .q 2])] : List SV), x.res (keys (α := Pred) [(0, PL EPig (f.shop.pigs)), (1, PL ENight (f.nights)), (2, PL EP.int (t.dross))]) := by simp [SV.res, El.res, At.res, keys]
theorem r3  : SV.res (keys (α := Pred) []) (.b (true)) := by simp [SV.res, El.res, At.res, keys]
set_option maxHeartbeats 4000000 in
set_option maxRecDepth 10000 in
theorem c3 (f : Fnd) (t : Tru) (hlaw : f.chk = true → f.isTruth t = true → (∀ i : Nat, i < f.nights.length → f.menOK t i = true) → MendLaw f t) : Sig Try.prog 3 [.e (.g [ai (f.shop.pounds), ai (f.shop.tl), ai (f.shop.th), ai (f.shop.al), ai (f.shop.ah), ai (f.shop.room), ai (f.shop.tpl), ai (f.shop.tph), ai (f.shop.apl), ai (f.shop.aph), .q 0, .q 1]), .e (.g [ai (t.tin), ai (t.ant), .q 2])] [(0, PL EPig (f.shop.pigs)), (1, PL ENight (f.nights)), (2, PL EP.int (t.dross))] (.b (true)) [] := by
  refine Sig.intro Try.func3 rfl 3 [(0, .e (.g [ai (f.shop.pounds), ai (f.shop.tl), ai (f.shop.th), ai (f.shop.al), ai (f.shop.ah), ai (f.shop.room), ai (f.shop.tpl), ai (f.shop.tph), ai (f.shop.apl), ai (f.shop.aph), .q 0, .q 1])), (1, .e (.g [ai (t.tin), ai (t.ant), .q 2]))] rfl w3 rfl rfl fun I w => ?_
  refine WP.seq (WP.region ?_)
  refine WPl.l 3 4 rfl rfl rfl (o_boxg rfl) ?_
  refine WPl.l 4 5 rfl rfl rfl (o_boxg rfl) ?_
  refine WPl.v rfl (o_assign rfl) ?_
  refine WPl.nil (EX.then (WP.seq (WP.seq (WP.region ?_))))
  refine WPl.v rfl (o_ldpa G31 rfl rfl rfl) ?_
  refine WPl.cs 5 rfl rfl rfl rfl (o_sig 5 (ren [(0, 0), (1, 1)]) (c4 f) e4 rfl rfl rfl w4 ⟨(lx rfl), (lx rfl), trivial⟩ r4) ?_
  refine WPl.v rfl (o_move rfl) ?_
  refine WPl.bit 5 6 (!f.far) rfl rfl ?_
  refine WPl.gv 5 rfl rfl (.plain rfl (by simp) rfl) (fun hb => o_ldpa G31 rfl rfl rfl) ?_
  refine WPl.gc0 5 rfl rfl (.plain rfl (by simp) rfl) (fun hb => o_sig 6 (ren [(0, 0), (1, 1)]) (c5 f) e5 rfl rfl rfl w5 ⟨(lx rfl), (lx rfl), trivial⟩ r5) ?_
  refine WPl.gv 5 rfl rfl (.plain rfl (by simp) rfl) (fun hb => o_neq rfl rfl) ?_
  refine WPl.v rfl (o_or rfl rfl rfl (by first | (simp; done) | simp_all)) ?_
  refine WPl.v rfl (o_move rfl) ?_
  refine WPl.bit 6 7 (!(f.far || (decide ((errW f.chk) ≠ 0)))) rfl rfl ?_
  refine WPl.gv 6 rfl rfl (.plain rfl (by simp) rfl) (fun hb => o_fldp F34_2 rfl) ?_
  refine WPl.gv 6 rfl rfl (.plain rfl (by simp) rfl) (fun hb => o_ldp S32 rfl rfl rfl) ?_
  refine WPl.gv 6 rfl rfl (.plain rfl (by simp) rfl) (fun hb => o_lenq L32 rfl (lx rfl)) ?_
  refine WPl.gv 6 rfl rfl (.plain rfl (by simp) rfl) (fun hb => o_fldp F31_1 rfl) ?_
  refine WPl.gv 6 rfl rfl (.plain rfl (by simp) rfl) (fun hb => o_ldp S29 rfl rfl rfl) ?_
  refine WPl.gv 6 rfl rfl (.plain rfl (by simp) rfl) (fun hb => o_lenq L29 rfl (lx rfl)) ?_
  refine WPl.gv 6 rfl rfl (.plain rfl (by simp) rfl) (fun hb => o_neq rfl rfl) ?_
  refine WPl.v rfl (o_or rfl rfl rfl (by first | (simp; done) | simp_all)) ?_
  refine WPl.v rfl (o_move rfl) ?_
  refine WPl.bit 7 8 (!((f.far || (decide ((errW f.chk) ≠ 0))) || (decide ((t.dross.length : Int) ≠ (f.nights.length : Int))))) rfl rfl ?_
  refine WPl.gv 7 rfl rfl (.plain rfl (by simp) rfl) (fun hb => o_fldp F34_0 rfl) ?_
  refine WPl.gv 7 rfl rfl (.plain rfl (by simp) rfl) (fun hb => o_ldp S3 rfl rfl rfl) ?_
  refine WPl.gv 7 rfl rfl (.plain rfl (by simp) rfl) (fun hb => o_fldp F31_0 rfl) ?_
  refine WPl.gv 7 rfl rfl (.plain rfl (by simp) rfl) (fun hb => o_fldp F28_0 rfl) ?_
  refine WPl.gv 7 rfl rfl (.plain rfl (by simp) rfl) (fun hb => o_fldp F25_1 rfl) ?_
  refine WPl.gv 7 rfl rfl (.plain rfl (by simp) rfl) (fun hb => o_fldp F23_0 rfl) ?_
  refine WPl.gv 7 rfl rfl (.plain rfl (by simp) rfl) (fun hb => o_ldp S3 rfl rfl rfl) ?_
  refine WPl.gv 7 rfl rfl (.plain rfl (by simp) rfl) (fun hb => o_fldp F31_0 rfl) ?_
  refine WPl.gv 7 rfl rfl (.plain rfl (by simp) rfl) (fun hb => o_fldp F28_0 rfl) ?_
  refine WPl.gv 7 rfl rfl (.plain rfl (by simp) rfl) (fun hb => o_fldp F25_1 rfl) ?_
  refine WPl.gv 7 rfl rfl (.plain rfl (by simp) rfl) (fun hb => o_fldp F23_1 rfl) ?_
  refine WPl.gv 7 rfl rfl (.plain rfl (by simp) rfl) (fun hb => o_ldp S3 rfl rfl rfl) ?_
  refine WPl.gc0 7 rfl rfl (.plain rfl (by simp) rfl) (fun hb => o_sig 8 id (c6 t.tin f.shop.tl f.shop.th) e6 rfl rfl rfl w6 trivial r6) ?_
  refine WPl.gv 7 rfl rfl (.plain rfl (by simp) rfl) (fun hb => o_not rfl) ?_
  refine WPl.v rfl (o_or rfl rfl rfl (by first | (simp; done) | simp_all)) ?_
  refine WPl.v rfl (o_move rfl) ?_
  refine WPl.bit 8 9 (!(((f.far || (decide ((errW f.chk) ≠ 0))) || (decide ((t.dross.length : Int) ≠ (f.nights.length : Int)))) || (!(within t.tin f.shop.tl f.shop.th)))) rfl rfl ?_
  refine WPl.gv 8 rfl rfl (.plain rfl (by simp) rfl) (fun hb => o_fldp F34_1 rfl) ?_
  refine WPl.gv 8 rfl rfl (.plain rfl (by simp) rfl) (fun hb => o_ldp S3 rfl rfl rfl) ?_
  refine WPl.gv 8 rfl rfl (.plain rfl (by simp) rfl) (fun hb => o_fldp F31_0 rfl) ?_
  refine WPl.gv 8 rfl rfl (.plain rfl (by simp) rfl) (fun hb => o_fldp F28_0 rfl) ?_
  refine WPl.gv 8 rfl rfl (.plain rfl (by simp) rfl) (fun hb => o_fldp F25_2 rfl) ?_
  refine WPl.gv 8 rfl rfl (.plain rfl (by simp) rfl) (fun hb => o_fldp F23_0 rfl) ?_
  refine WPl.gv 8 rfl rfl (.plain rfl (by simp) rfl) (fun hb => o_ldp S3 rfl rfl rfl) ?_
  refine WPl.gv 8 rfl rfl (.plain rfl (by simp) rfl) (fun hb => o_fldp F31_0 rfl) ?_
  refine WPl.gv 8 rfl rfl (.plain rfl (by simp) rfl) (fun hb => o_fldp F28_0 rfl) ?_
  refine WPl.gv 8 rfl rfl (.plain rfl (by simp) rfl) (fun hb => o_fldp F25_2 rfl) ?_
  refine WPl.gv 8 rfl rfl (.plain rfl (by simp) rfl) (fun hb => o_fldp F23_1 rfl) ?_
  refine WPl.gv 8 rfl rfl (.plain rfl (by simp) rfl) (fun hb => o_ldp S3 rfl rfl rfl) ?_
  refine WPl.gc0 8 rfl rfl (.plain rfl (by simp) rfl) (fun hb => o_sig 9 id (c6 t.ant f.shop.al f.shop.ah) e6 rfl rfl rfl w6 trivial r6) ?_
  refine WPl.gv 8 rfl rfl (.plain rfl (by simp) rfl) (fun hb => o_not rfl) ?_
  refine WPl.v rfl (o_or rfl rfl rfl (by first | (simp; done) | simp_all)) ?_
  refine WPl.nil (EX.then ?_)
  refine WP.cond rfl (fun hc1 => ?_) (fun hc1 => ?_)
  · try simp only [cnd] at hc1
    refine WP.seq (WP.region ?_)
    refine WPl.cs 9 rfl rfl rfl rfl (o_sig 9 id c7 e7 rfl rfl rfl w7 trivial r7) ?_
    refine WPl.v rfl (o_assign rfl) ?_
    refine WPl.nil (EX.then (WP.ret (EX.ret_then ?_)))
    exact EX.fin id (.inl rfl) rfl (.tmp rfl .nil) rfl r3 trivial (by simp) (by simp)
  · try simp only [cnd] at hc1
    obtain ⟨⟨⟨⟨hr1, hr2⟩, hr3⟩, hr4⟩, hr5⟩ := hc1
    have hf : f.chk = true := by simpa [errW_eq] using hr2
    have hcb := Fnd.chkB hf
    have hnn := Fnd.nightsOK hf
    have htl := truTo_len f.nights t.dross
    refine WP.skip (EX.then (WP.seq (WP.region ?_)))
    refine WPl.v rfl (o_ldpa G31 rfl rfl rfl) ?_
    refine WPl.cL 11 rfl rfl rfl rfl rfl (o_sigo 9 (ren [(0, 0), (1, 1)]) (c8O f (by omega) (by omega)) e8 rfl rfl SvsOK.rf w8O ⟨(lx rfl), (lx rfl), trivial⟩ r8O rfl rfl) ?_
    refine WPl.l 11 12 rfl rfl rfl (o_alloc Z31) ?_
    refine WPl.s1 (o_stag G31 rfl rfl rfl ⟨rfl, rfl, rfl, rfl, rfl, rfl, rfl, rfl, rfl, rfl, (.inr ⟨_, _, _, _, rfl⟩), (.inr ⟨_, _, _, _, rfl⟩), trivial⟩ rfl rfl) ?_
    refine WPl.nil (EX.then (WP.seq (WP.region ?_)))
    refine WPl.v rfl (o_fldp F31_0 rfl) ?_
    refine WPl.v rfl (o_ldpg G28 rfl rfl rfl) ?_
    refine WPl.v rfl (o_fldp F34_0 rfl) ?_
    refine WPl.v rfl (o_ldp S3 rfl rfl rfl) ?_
    refine WPl.v rfl (o_fldp F34_1 rfl) ?_
    refine WPl.v rfl (o_ldp S3 rfl rfl rfl) ?_
    refine WPl.cs 13 rfl rfl rfl rfl (o_sig 12 (ren [(0, 0)]) (c9 f.shop t.tin t.ant (by omega)) e9 rfl rfl rfl w9 ⟨(lx rfl), trivial⟩ r9) ?_
    refine WPl.v rfl (o_fldp F31_0 rfl) ?_
    refine WPl.s1 (o_stag G28 rfl rfl rfl ⟨rfl, rfl, rfl, rfl, rfl, rfl, rfl, rfl, rfl, rfl, (.inl ⟨_, (lx rfl), PL.one⟩), trivial⟩ rfl rfl) ?_
    refine WPl.nil (EX.then (WP.seq (WP.seq (WP.region ?_))))
    refine WPl.v rfl (o_assign rfl) ?_
    refine WPl.nil (EX.then (WP.block ?_))
    refine WP.loop (Gh := Nat) (fun i => ⟨13, [(2, .e (.a (.p 3 (0)))), (3, .e (.a (.p 4 (0)))), (4, .b (false)), (5, .e (.a (.p 11 (0)))), (6, .i ((i : Int)))], [(0, PL EPig (f.shop.pigs)), (1, PL ENight (f.nights)), (2, PL EP.int (t.dross)), (12, PL EPig ((f.shop.inTr t.tin t.ant).pigs))], [(3, .blk [ai (f.shop.pounds), ai (f.shop.tl), ai (f.shop.th), ai (f.shop.al), ai (f.shop.ah), ai (f.shop.room), ai (f.shop.tpl), ai (f.shop.tph), ai (f.shop.apl), ai (f.shop.aph), .q 0, .q 1] 31), (4, .blk [ai (t.tin), ai (t.ant), .q 2] 34), (10, .own 43 ENight.size (truTo f.nights t.dross i).length (RP ENight (truTo f.nights t.dross i))), (11, .blk [ai ((f.shop.inTr t.tin t.ant).pounds), ai ((f.shop.inTr t.tin t.ant).tl), ai ((f.shop.inTr t.tin t.ant).th), ai ((f.shop.inTr t.tin t.ant).al), ai ((f.shop.inTr t.tin t.ant).ah), ai ((f.shop.inTr t.tin t.ant).room), ai ((f.shop.inTr t.tin t.ant).tpl), ai ((f.shop.inTr t.tin t.ant).tph), ai ((f.shop.inTr t.tin t.ant).apl), ai ((f.shop.inTr t.tin t.ant).aph), .q 12, .q 10] 31)], [], []⟩) (fun i => i ≤ t.dross.length ∧ allI (f.truthAt t) i = true) (fun i => t.dross.length - i) (0) id ?_ (LeR.of ⟨rfl, rfl, rfl, rfl, rfl, trivial⟩ ⟨(lx rfl), (lx rfl), (lx rfl), (lx rfl), trivial⟩ ⟨rfl, rfl, rfl, rfl, trivial⟩ rfl rfl rfl rfl rfl) ?_
    · exact ⟨by omega, rfl⟩
    intro i hφ
    have hi : i ≤ t.dross.length := hφ.1
    have hall := hφ.2
    refine WP.seq (WP.seq (WP.region ?_))
    refine WPl.v rfl (o_move rfl) ?_
    refine WPl.v rfl (o_fldp F34_2 rfl) ?_
    refine WPl.v rfl (o_ldp S32 rfl rfl rfl) ?_
    refine WPl.v rfl (o_lenq L32 rfl (lx rfl)) ?_
    refine WPl.v rfl (o_lss rfl rfl) ?_
    refine WPl.nil (EX.then ?_)
    refine WP.cond rfl (fun hc2 => ?_) (fun hc2 => ?_)
    · try simp only [cnd] at hc2
      refine WP.skip (EX.then (WP.seq (WP.block (WP.seq (WP.seq (WP.region ?_))))))
      refine WPl.v rfl (o_fldp F31_1 rfl) ?_
      refine WPl.v rfl (o_ldp S29 rfl rfl rfl) ?_
      refine WPl.v rfl (o_move rfl) ?_
      refine WPl.x 13 14 rfl rfl rfl (o_idx L29 rfl (lx rfl) rfl (by first | omega | (simp; omega)) (by first | omega | (simp; omega))) ?_
      refine WPl.v rfl (o_fldq F43_0 rfl (lx rfl)) ?_
      refine WPl.v rfl (o_ldeg G23 rfl (lx rfl) (strG rfl) rfl rfl) ?_
      refine WPl.l 14 15 rfl rfl rfl (o_alloc Z23) ?_
      refine WPl.s1 (o_stag G23 rfl rfl rfl ⟨rfl, rfl, trivial⟩ rfl rfl) ?_
      refine WPl.nil (EX.then (WP.seq ?_))
      refine WP.draw (nf := 16) [⟨[98, 101, 102, 103, 104], [], [], [], []⟩, ⟨[98, 101, 102, 103, 104], [], [], [], [0]⟩, ⟨[96, 97, 101, 102, 103, 104], [], [], [], []⟩, ⟨[101, 102, 103, 104], [], [15], [15], [0, 1, 2]⟩, ⟨[101, 102, 103, 104], [], [], [], [0, 1, 2, 3]⟩, ⟨[96, 97, 98, 99, 100, 103, 104], [15], [], [], []⟩, ⟨[96, 97, 98, 99, 100, 103, 104], [15], [], [], [5]⟩, ⟨[96, 97, 98, 99, 100, 101, 102], [15], [], [], []⟩, ⟨[96, 97, 98, 99, 100, 101, 102], [15], [], [], [7]⟩, ⟨[], [], [], [], [0, 1, 2, 3, 4, 5, 6, 7, 8]⟩, ⟨[], [], [], [], [0, 1, 2, 3, 4, 5, 6, 7, 8, 9]⟩] (by kernel_rfl) (by kernel_rfl) ?_
      refine DRQ.v rfl rfl rfl (o_fldp F34_2 rfl) ?_
      refine DRQ.v rfl rfl rfl (o_ldp S32 rfl rfl rfl) ?_
      refine DRQ.v rfl rfl rfl (o_move rfl) ?_
      refine DRQ.x 15 rfl rfl rfl rfl (o_idx L32 rfl (lx rfl) rfl (by first | omega | (simp; omega)) (by first | omega | (simp; omega))) ?_
      refine DRQ.v rfl rfl rfl (o_ldq S3 rfl (lx rfl) intc) ?_
      refine DRQ.v rfl rfl rfl (o_fldp F23_0 rfl) ?_
      refine DRQ.v rfl rfl rfl (o_ldp S3 rfl rfl rfl) ?_
      refine DRQ.v rfl rfl rfl (o_fldp F23_1 rfl) ?_
      refine DRQ.v rfl rfl rfl (o_ldp S3 rfl rfl rfl) ?_
      refine DRQ.cs rfl rfl rfl rfl (o_sig 16 id (c6 (nth t.dross (i : Int)) ((nth f.nights (i : Int)).lo) ((nth f.nights (i : Int)).hi)) e6 rfl rfl rfl w6 trivial r6) ?_
      refine DRQ.v rfl rfl rfl (o_not rfl) ?_
      refine DRQ.nil' ?_
      refine EX.then ?_
      refine WP.cond rfl (fun hc3 => ?_) (fun hc3 => ?_)
      · try simp only [cnd] at hc3
        refine WP.seq (WP.region ?_)
        refine WPl.cs 16 rfl rfl rfl rfl (o_sig 16 id c7 e7 rfl rfl rfl w7 trivial r7) ?_
        refine WPl.v rfl (o_assign rfl) ?_
        refine WPl.nil (EX.then (WP.ret (EX.ret_then (EX.ret_blk (EX.ret_then (EX.ret_then (EX.ret_blk (EX.ret_then ?_))))))))
        exact EX.fin id (.inl rfl) rfl (.tmp rfl .nil) rfl r3 trivial (by simp) (by simp)
      · try simp only [cnd] at hc3
        refine WP.skip (EX.then (WP.seq (WP.region ?_)))
        refine WPl.v rfl (o_fldp F31_1 rfl) ?_
        refine WPl.v rfl (o_ldp S29 rfl rfl rfl) ?_
        refine WPl.v rfl (o_move rfl) ?_
        refine WPl.v rfl (o_idxo L29 rfl rfl rfl (by first | (have h1 := truTo_len f.nights t.dross i; omega) | (have h1 := pigsTo_len (f.menS t i).pigs (f.menS t i).menL k; omega)) (by first | (have h1 := truTo_len f.nights t.dross i; omega) | (have h1 := pigsTo_len (f.menS t i).pigs (f.menS t i).menL k; omega))) ?_
        refine WPl.v rfl (o_ldoG G43 rfl rfl rfl rfl (by first | (have h1 := truTo_len f.nights t.dross i; omega) | (have h1 := pigsTo_len (f.menS t i).pigs (f.menS t i).menL k; omega)) (by first | (have h1 := truTo_len f.nights t.dross i; omega) | (have h1 := pigsTo_len (f.menS t i).pigs (f.menS t i).menL k; omega)) (strG rfl) rfl rfl) ?_
        refine WPl.l 16 17 rfl rfl rfl (o_alloc Z43) ?_
        refine WPl.s1 (o_stag G43 rfl rfl rfl ⟨rfl, rfl, rfl, trivial⟩ rfl rfl) ?_
        refine WPl.nil (EX.then (WP.seq ?_))
        refine WP.draw (nf := 19) [⟨[115, 118, 119, 120, 121, 122], [18], [], [], []⟩, ⟨[115, 118, 119, 120, 121, 122], [18], [], [], [0]⟩, ⟨[113, 114, 118, 119, 120, 121, 122], [18], [], [], []⟩, ⟨[118, 119, 120, 121, 122], [18], [17], [17], [0, 1, 2]⟩, ⟨[118, 119, 120, 121, 122], [18], [], [], [0, 1, 2, 3]⟩, ⟨[113, 114, 115, 116, 117, 120], [17], [], [], []⟩, ⟨[113, 114, 115, 116, 117, 120], [17], [], [], [5]⟩, ⟨[113, 114, 115, 116, 117, 118, 119], [17], [], [], []⟩, ⟨[113, 114, 115, 116, 117], [17], [18], [18], [5, 6, 7]⟩, ⟨[113, 114, 115, 116, 117], [17], [], [], [5, 6, 7, 8]⟩, ⟨[], [], [], [], [0, 1, 2, 3, 4, 5, 6, 7, 8, 9]⟩, ⟨[], [], [], [], [0, 1, 2, 3, 4, 5, 6, 7, 8, 9, 10]⟩, ⟨[], [], [], [16], [0, 1, 2, 3, 4, 5, 6, 7, 8, 9, 10, 11]⟩] (by kernel_rfl) (by kernel_rfl) ?_
        refine DRQ.v rfl rfl rfl (o_fldp F34_2 rfl) ?_
        refine DRQ.v rfl rfl rfl (o_ldp S32 rfl rfl rfl) ?_
        refine DRQ.v rfl rfl rfl (o_move rfl) ?_
        refine DRQ.x 17 rfl rfl rfl rfl (o_idx L32 rfl (lx rfl) rfl (by first | omega | (simp; omega)) (by first | omega | (simp; omega))) ?_
        refine DRQ.v rfl rfl rfl (o_ldq S3 rfl (lx rfl) intc) ?_
        refine DRQ.v rfl rfl rfl (o_fldp F34_2 rfl) ?_
        refine DRQ.v rfl rfl rfl (o_ldp S32 rfl rfl rfl) ?_
        refine DRQ.v rfl rfl rfl (o_move rfl) ?_
        refine DRQ.x 18 rfl rfl rfl rfl (o_idx L32 rfl (lx rfl) rfl (by first | omega | (simp; omega)) (by first | omega | (simp; omega))) ?_
        refine DRQ.v rfl rfl rfl (o_ldq S3 rfl (lx rfl) intc) ?_
        refine DRQ.v rfl rfl rfl (o_build B23 rfl ⟨rfl, rfl, trivial⟩ rfl rfl) ?_
        refine DRQ.v rfl rfl rfl (o_fldp F43_0 rfl) ?_
        refine DRQ.s 16 rfl rfl rfl (o_stag G23 rfl rfl rfl ⟨rfl, rfl, trivial⟩ rfl rfl) ?_
        refine DRQ.nil' ?_
        refine EX.then (WP.region ?_)
        refine WPl.v rfl (o_fldp F31_1 rfl) ?_
        refine WPl.v rfl (o_ldp S29 rfl rfl rfl) ?_
        refine WPl.v rfl (o_move rfl) ?_
        refine WPl.v rfl (o_ldpa G43 rfl rfl rfl) ?_
        refine WPl.v rfl (o_idxo L29 rfl rfl rfl (by first | (have h1 := truTo_len f.nights t.dross i; omega) | (have h1 := pigsTo_len (f.menS t i).pigs (f.menS t i).menL k; omega)) (by first | (have h1 := truTo_len f.nights t.dross i; omega) | (have h1 := pigsTo_len (f.menS t i).pigs (f.menS t i).menL k; omega))) ?_
        refine WPl.s1 (o_steE2 (z := ({ nth (truTo f.nights t.dross i) (i : Int) with lo := nth t.dross i, hi := nth t.dross i } : Night)) Try.sizeOf43 rfl rfl rfl ⟨rfl, rfl, rfl, trivial⟩ (eok_str ⟨rfl, rfl, rfl, trivial⟩) rfl rfl rfl (by first | (have h1 := truTo_len f.nights t.dross i; omega) | (have h1 := pigsTo_len (f.menS t i).pigs (f.menS t i).menL k; omega)) (by first | (have h1 := truTo_len f.nights t.dross i; omega) | (have h1 := pigsTo_len (f.menS t i).pigs (f.menS t i).menL k; omega))) ?_
        refine WPl.nil (EX.blk (EX.then (WP.region ?_)))
        refine WPl.v rfl (o_move rfl) ?_
        refine WPl.v rfl (o_add rfl rfl (by first | omega | (simp; omega)) (by first | omega | (simp; omega))) ?_
        refine WPl.v rfl (o_assign rfl) ?_
        refine WPl.nil ?_
        refine EX.again (i + 1) id (by exact ⟨by omega, by simp only [allI, hall, Bool.true_and]; exact hc3⟩) (by omega) (LeR.of ⟨rfl, rfl, rfl, rfl, rfl, trivial⟩ ⟨(lx rfl), (lx rfl), (lx rfl), (lx rfl), trivial⟩ ⟨rfl, rfl, rfl, rfl, trivial⟩ rfl rfl rfl rfl rfl)
    · try simp only [cnd] at hc2
      have he : i = t.dross.length := by omega
      subst he
      have ht : f.isTruth t = true := by simp only [Fnd.isTruth, Bool.and_eq_true, decide_eq_true_eq]; exact ⟨⟨⟨hr4, hr5⟩, hr3⟩, hall⟩
      have htp := truth_parts ht
      refine WP.exit (EX.exit_then (EX.exit_then (EX.exit_blk (EX.then (WP.seq (WP.region ?_))))))
      refine WPl.v rfl (o_fldp F31_0 rfl) ?_
      refine WPl.v rfl (o_ldpg G28 rfl rfl rfl) ?_
      refine WPl.cL 14 rfl rfl rfl rfl rfl (o_sigo 13 (ren [(0, 12)]) (c10O (f.shop.inTr t.tin t.ant) (by show f.shop.pigs.length ≤ 40; omega)) e10 rfl rfl SvsOK.rf w10O ⟨(lx rfl), trivial⟩ r10O rfl rfl) ?_
      refine WPl.l 14 15 rfl rfl rfl (o_alloc Z28) ?_
      refine WPl.s1 (o_stag G28 rfl rfl rfl ⟨rfl, rfl, rfl, rfl, rfl, rfl, rfl, rfl, rfl, rfl, (.inr ⟨_, _, _, _, rfl⟩), trivial⟩ rfl rfl) ?_
      refine WPl.nil (EX.then (WP.seq (WP.region ?_)))
      refine WPl.v rfl (o_assign rfl) ?_
      refine WPl.imp (Imp.namo (EP.sl EP.int) 15 16 32 rfl rfl) ?_
      refine WPl.imp (Imp.swF 10 15 rfl (lx rfl)) ?_
      refine WPl.nil (EX.then (WP.seq (WP.seq (WP.region ?_))))
      refine WPl.v rfl (o_assign rfl) ?_
      refine WPl.nil (EX.then (WP.block ?_))
      refine WP.loop (Gh := Nat) (fun i => ⟨16, [(2, .e (.a (.p 3 (0)))), (3, .e (.a (.p 4 (0)))), (4, .b (false)), (5, .e (.a (.p 11 (0)))), (9, .e (.a (.p 14 (0)))), (10, .e (.a (.q 15))), (11, .i ((i : Int)))], [(0, PL EPig (f.shop.pigs)), (1, PL ENight (f.nights)), (2, PL EP.int (t.dross)), (12, PL EPig ((f.shop.inTr t.tin t.ant).pigs))], [(3, .blk [ai (f.shop.pounds), ai (f.shop.tl), ai (f.shop.th), ai (f.shop.al), ai (f.shop.ah), ai (f.shop.room), ai (f.shop.tpl), ai (f.shop.tph), ai (f.shop.apl), ai (f.shop.aph), .q 0, .q 1] 31), (4, .blk [ai (t.tin), ai (t.ant), .q 2] 34), (10, .own 43 ENight.size (truTo f.nights t.dross t.dross.length).length (RP ENight (truTo f.nights t.dross t.dross.length))), (11, .blk [ai ((f.shop.inTr t.tin t.ant).pounds), ai ((f.shop.inTr t.tin t.ant).tl), ai ((f.shop.inTr t.tin t.ant).th), ai ((f.shop.inTr t.tin t.ant).al), ai ((f.shop.inTr t.tin t.ant).ah), ai ((f.shop.inTr t.tin t.ant).room), ai ((f.shop.inTr t.tin t.ant).tpl), ai ((f.shop.inTr t.tin t.ant).tph), ai ((f.shop.inTr t.tin t.ant).apl), ai ((f.shop.inTr t.tin t.ant).aph), .q 12, .q 10] 31), (13, .own 53 EPig.size ((f.menS t i).pigs).length (RP EPig ((f.menS t i).pigs))), (14, .blk [ai ((f.menS t i).pounds), ai ((f.menS t i).tl), ai ((f.menS t i).th), ai ((f.menS t i).al), ai ((f.menS t i).ah), ai ((f.menS t i).room), ai ((f.menS t i).tpl), ai ((f.menS t i).tph), ai ((f.menS t i).apl), ai ((f.menS t i).aph), .q 13] 28), (15, .own 32 (EP.sl EP.int).size (f.menP t i).length (RP (EP.sl EP.int) (f.menP t i)))], [], []⟩) (fun i => i ≤ t.dross.length ∧ ∀ j : Nat, j < i → f.menOK t j = true) (fun i => t.dross.length - i) (0) id ?_ (LeR.of ⟨rfl, rfl, rfl, rfl, rfl, rfl, rfl, trivial⟩ ⟨(lx rfl), (lx rfl), (lx rfl), (lx rfl), trivial⟩ ⟨rfl, rfl, rfl, rfl, rfl, rfl, rfl, trivial⟩ rfl rfl rfl rfl rfl) ?_
      · exact ⟨by omega, fun j hj => absurd hj (Nat.not_lt_zero j)⟩
      intro i hφ
      have hi : i ≤ t.dross.length := hφ.1
      have hmo := hφ.2
      refine WP.seq (WP.seq (WP.region ?_))
      refine WPl.v rfl (o_move rfl) ?_
      refine WPl.v rfl (o_fldp F34_2 rfl) ?_
      refine WPl.v rfl (o_ldp S32 rfl rfl rfl) ?_
      refine WPl.v rfl (o_lenq L32 rfl (lx rfl)) ?_
      refine WPl.v rfl (o_lss rfl rfl) ?_
      refine WPl.nil (EX.then ?_)
      refine WP.cond rfl (fun hc4 => ?_) (fun hc4 => ?_)
      · try simp only [cnd] at hc4
        refine WP.skip (EX.then (WP.seq (WP.block (WP.seq (WP.seq (WP.region ?_))))))
        refine WPl.v rfl (o_ldpa G28 rfl rfl rfl) ?_
        refine WPl.cs 16 rfl rfl rfl rfl (o_sigbc 16 (ren [(0, 13)]) (Sig.free (c11 (f.menS t i))) e11 rfl rfl SvsOK.rf w11 ⟨.own rfl rfl, trivial⟩ r11) ?_
        refine WPl.v rfl (o_neq rfl rfl) ?_
        refine WPl.nil (EX.then ?_)
        refine WP.cond rfl (fun hc5 => ?_) (fun hc5 => ?_)
        · try simp only [cnd] at hc5
          refine WP.seq (WP.region ?_)
          refine WPl.cs 16 rfl rfl rfl rfl (o_sig 16 id c7 e7 rfl rfl rfl w7 trivial r7) ?_
          refine WPl.v rfl (o_assign rfl) ?_
          refine WPl.nil (EX.then (WP.ret (EX.ret_then (EX.ret_blk (EX.ret_then (EX.ret_then (EX.ret_blk (EX.ret_then ?_))))))))
          exact EX.fin id (.inl rfl) rfl (.tmp rfl .nil) rfl r3 trivial (by simp) (by simp)
        · try simp only [cnd] at hc5
          have hs : (f.menS t i).chk = true := by simpa [errM_eq] using hc5
          refine WP.skip (EX.then (WP.seq (WP.region ?_)))
          refine WPl.v rfl (o_ldpa G28 rfl rfl rfl) ?_
          refine WPl.cs 17 rfl rfl rfl rfl (o_sigl (T0 := 3) 16 (ren [(0, 13)]) (c12 (f.menS t i) (by rw [menS_len]; omega)) e12 rfl rfl SvsOK.rf w12 rfl (by decide) (str_free rfl) ⟨⟨_, rfl⟩, trivial⟩ r12) ?_
          refine WPl.v rfl (o_move rfl) ?_
          refine WPl.v rfl (o_extract rfl rfl) ?_
          refine WPl.v rfl (o_extract rfl rfl) ?_
          refine WPl.v rfl (o_assign rfl) ?_
          refine WPl.v rfl (o_assign rfl) ?_
          refine WPl.nil (EX.then (WP.seq (WP.seq (WP.region ?_))))
          refine WPl.v rfl (o_move rfl) ?_
          refine WPl.v rfl (o_neq rfl rfl) ?_
          refine WPl.nil (EX.then ?_)
          refine WP.cond rfl (fun hc6 => ?_) (fun hc6 => ?_)
          · try simp only [cnd] at hc6
            have hE3 := menE hs hc6
            refine WP.seq (WP.region ?_)
            refine WPl.v rfl (o_move rfl) ?_
            refine WPl.v rfl (o_eql rfl rfl) ?_
            refine WPl.imp (Imp.bitF 152 (b' := true) rfl (decide_eq_true hE3)) ?_
            refine WPl.v rfl (o_move rfl) ?_
            refine WPl.ung ⟨_, _, rfl, rfl, rfl⟩ ?_
            refine WPl.cs 17 rfl rfl rfl rfl (o_sig 17 id c7 e7 rfl rfl rfl w7 trivial r7) ?_
            refine WPl.v rfl (o_pickT rfl rfl) ?_
            refine WPl.v rfl (o_assign rfl) ?_
            refine WPl.nil (EX.then (WP.ret (EX.ret_then (EX.ret_blk (EX.ret_then (EX.ret_then (EX.ret_blk (EX.ret_then ?_))))))))
            exact EX.fin id (.inl rfl) rfl (.tmp rfl .nil) rfl r3 trivial (by simp) (by simp)
          · try simp only [cnd] at hc6
            have hmb := menB hs hc6
            have hpg := Shop.pigsOK hs
            have hdb := htp.2.2.2 i (by omega)
            have hnb := Night.bnds (hnn.at (show i < f.nights.length by omega))
            refine WP.skip (EX.then (WP.seq (WP.seq (WP.region ?_))))
            rw [show (f.menS t i).mAdd (priceG (f.menS t i)) = (f.menS t i).menL from rfl]
            refine WPl.v rfl (o_move rfl) ?_
            refine WPl.v rfl (o_lenq L32 rfl (lxt rfl)) ?_
            refine WPl.v rfl (o_gtr rfl rfl) ?_
            refine WPl.v rfl (o_move rfl) ?_
            refine WPl.bit 17 18 (!(decide (40 < (((f.menS t i).menL).length : Int)))) rfl rfl ?_
            refine WPl.gv 17 rfl rfl (.plain rfl (by simp) rfl) (fun hb => o_ldpa G28 rfl rfl rfl) ?_
            refine WPl.gv 17 rfl rfl (.plain rfl (by simp) rfl) (fun hb => o_move rfl) ?_
            refine WPl.gc0 17 rfl rfl (.plain rfl (by simp) rfl) (fun hb => o_sigbc 18 (ren [(0, 13), (1, 16)]) (Sig.free (c13 (f.menS t i) ((f.menS t i).menL) hpg (by have := tl_bnd hs; omega))) e13 rfl rfl SvsOK.rf w13 ⟨.own rfl rfl, .x (lxt rfl), trivial⟩ r13) ?_
            refine WPl.gv 17 rfl rfl (.plain rfl (by simp) rfl) (fun hb => o_not rfl) ?_
            refine WPl.v rfl (o_or rfl rfl rfl (by first | (simp; done) | simp_all)) ?_
            refine WPl.nil (EX.then ?_)
            refine WP.cond rfl (fun hc7 => ?_) (fun hc7 => ?_)
            · try simp only [cnd] at hc7
              exfalso
              rw [hmb.2.2.1] at hc7
              simp at hc7
              omega
            · try simp only [cnd] at hc7
              refine WP.skip (EX.then (WP.seq (WP.region ?_)))
              refine WPl.v rfl (o_move rfl) ?_
              refine WPl.l 18 19 rfl rfl rfl (o_bsl (E := EP.int) (l := []) R32 rfl rfl (.nil) rfl rfl) ?_
              refine WPl.v rfl (o_move rfl) ?_
              refine WPl.u1 (k := 19) (m := 20) rfl rfl rfl (OpG.settle1 (.inl rfl) rfl (o_apps R32 EP.int_one rfl rfl rfl (lxt rfl) (by first | omega | (simp; omega) | (simp at *; omega)) (by first | omega | (simp; omega) | (simp at *; omega)))) ?_
              refine WPl.l 20 21 rfl rfl rfl (o_bsl (E := (EP.sl EP.int)) (l := [[] ++ ((f.menS t i).menL)]) R45 rfl rfl (.cons ((.inl ⟨_, (lx rfl), PL.one⟩)) rfl (eok_sl (lx rfl)) (.nil)) rfl rfl) ?_
              refine WPl.u1 (k := 21) (m := 22) rfl rfl rfl (o_appo R45 EP.sl_one rfl rfl rfl rfl (by have hml := menP_len f t i; simp only [List.length_cons, List.length_nil, List.length_append]; omega) (by have hml := menP_len f t i; simp only [List.length_cons, List.length_nil, List.length_append]; omega)) ?_
              refine WPl.v rfl (o_assign rfl) ?_
              refine WPl.nil (EX.then (WP.seq (WP.region ?_)))
              refine WPl.v rfl (o_ldpa G28 rfl rfl rfl) ?_
              refine WPl.v rfl (o_move rfl) ?_
              refine WPl.cs 22 rfl rfl rfl rfl (o_sigbc 22 (ren [(0, 13), (1, 16)]) (Sig.free (c14 (f.menS t i) ((f.menS t i).menL) (by rw [menS_len]; omega))) e14 rfl rfl SvsOK.rf w14 ⟨.own rfl rfl, .x (lxt rfl), trivial⟩ r14) ?_
              refine WPl.v rfl (o_move rfl) ?_
              refine WPl.v rfl (o_extract rfl rfl) ?_
              refine WPl.v rfl (o_extract rfl rfl) ?_
              refine WPl.l 22 23 rfl rfl rfl (o_alloc Z25) ?_
              refine WPl.s1 (o_stag G25 rfl rfl rfl ⟨rfl, rfl, rfl, rfl, rfl, trivial⟩ rfl rfl) ?_
              refine WPl.v rfl (o_assign rfl) ?_
              refine WPl.nil (EX.then (WP.seq (WP.seq (WP.region ?_))))
              refine WPl.v rfl (o_move rfl) ?_
              refine WPl.v rfl (o_neq rfl rfl) ?_
              refine WPl.nil (EX.then ?_)
              refine WP.cond rfl (fun hc8 => ?_) (fun hc8 => ?_)
              · try simp only [cnd] at hc8
                exfalso
                rw [opE_t hs, hmb.2.2.1] at hc8
                simp [opV] at hc8
              · try simp only [cnd] at hc8
                refine WP.skip (EX.then (WP.seq (WP.region ?_)))
                refine WPl.v rfl (o_ldpa G25 rfl rfl rfl) ?_
                refine WPl.v rfl (o_fldp F28_0 rfl) ?_
                refine WPl.s1 (o_stag G25 rfl rfl rfl ⟨rfl, rfl, rfl, rfl, rfl, trivial⟩ rfl rfl) ?_
                refine WPl.nil (EX.then (WP.seq (WP.seq (WP.region ?_))))
                refine WPl.v rfl (o_assign rfl) ?_
                refine WPl.nil (EX.then (WP.block ?_))
                refine WP.loop (Gh := Nat) (fun k => ⟨23, [(2, .e (.a (.p 3 (0)))), (3, .e (.a (.p 4 (0)))), (4, .b (false)), (5, .e (.a (.p 11 (0)))), (9, .e (.a (.p 14 (0)))), (10, .e (.a (.q 21))), (11, .i ((i : Int))), (133, .i ((i : Int))), (134, .e (.a (.p 4 (2)))), (135, .e (.a (.q 2))), (136, .i ((t.dross.length : Int))), (137, .b (decide ((i : Int) < (t.dross.length : Int)))), (140, .e (.g [ai ((f.menS t i).pounds), ai ((f.menS t i).tl), ai ((f.menS t i).th), ai ((f.menS t i).al), ai ((f.menS t i).ah), ai ((f.menS t i).room), ai ((f.menS t i).tpl), ai ((f.menS t i).tph), ai ((f.menS t i).apl), ai ((f.menS t i).aph), .q 13])), (141, .i (errM (f.menS t i).chk)), (142, .b (decide ((errM (f.menS t i).chk) ≠ 0))), (145, .e (.g [ai ((f.menS t i).pounds), ai ((f.menS t i).tl), ai ((f.menS t i).th), ai ((f.menS t i).al), ai ((f.menS t i).ah), ai ((f.menS t i).room), ai ((f.menS t i).tpl), ai ((f.menS t i).tph), ai ((f.menS t i).apl), ai ((f.menS t i).aph), .q 13])), (146, .t [.a (.q 16), .a (ai ((f.menS t i).mE (priceG (f.menS t i))))]), (144, .t [.a (.q 16), .a (ai ((f.menS t i).mE (priceG (f.menS t i))))]), (147, .e (.a (.q 16))), (148, .i ((f.menS t i).mE (priceG (f.menS t i)))), (12, .e (.a (.q 16))), (13, .i (opE (f.menS t i) (isAdd (f.menS t i) ((f.menS t i).menL)))), (149, .i ((f.menS t i).mE (priceG (f.menS t i)))), (150, .b (decide (((f.menS t i).mE (priceG (f.menS t i))) ≠ 0))), (156, .e (.a (.q 16))), (157, .i ((((f.menS t i).menL).length : Int))), (158, .b (decide (40 < (((f.menS t i).menL).length : Int)))), (159, .b (decide (40 < (((f.menS t i).menL).length : Int)))), (164, .b ((decide (40 < (((f.menS t i).menL).length : Int))) || (!(isAdd (f.menS t i) ((f.menS t i).menL))))), (165, .e (.a (.q 15))), (166, .e (.a (.q 18))), (167, .e (.a (.q 16))), (168, .e (.a (.q 19))), (169, .e (.a (.q 20))), (170, .e (.a (.q 21))), (172, .e (.g [ai ((f.menS t i).pounds), ai ((f.menS t i).tl), ai ((f.menS t i).th), ai ((f.menS t i).al), ai ((f.menS t i).ah), ai ((f.menS t i).room), ai ((f.menS t i).tpl), ai ((f.menS t i).tph), ai ((f.menS t i).apl), ai ((f.menS t i).aph), .q 13])), (173, .e (.a (.q 16))), (174, .t [.g [ai (((f.menS t i).mAft ((f.menS t i).menL)).pounds), ai (((f.menS t i).mAft ((f.menS t i).menL)).tl), ai (((f.menS t i).mAft ((f.menS t i).menL)).th), ai (((f.menS t i).mAft ((f.menS t i).menL)).al), ai (((f.menS t i).mAft ((f.menS t i).menL)).ah)], .a (ai (opE (f.menS t i) (isAdd (f.menS t i) ((f.menS t i).menL))))]), (171, .t [.g [ai (((f.menS t i).mAft ((f.menS t i).menL)).pounds), ai (((f.menS t i).mAft ((f.menS t i).menL)).tl), ai (((f.menS t i).mAft ((f.menS t i).menL)).th), ai (((f.menS t i).mAft ((f.menS t i).menL)).al), ai (((f.menS t i).mAft ((f.menS t i).menL)).ah)], .a (ai (opE (f.menS t i) (isAdd (f.menS t i) ((f.menS t i).menL))))]), (175, .e (.g [ai (((f.menS t i).mAft ((f.menS t i).menL)).pounds), ai (((f.menS t i).mAft ((f.menS t i).menL)).tl), ai (((f.menS t i).mAft ((f.menS t i).menL)).th), ai (((f.menS t i).mAft ((f.menS t i).menL)).al), ai (((f.menS t i).mAft ((f.menS t i).menL)).ah)])), (176, .i (opE (f.menS t i) (isAdd (f.menS t i) ((f.menS t i).menL)))), (14, .e (.a (.p 22 (0)))), (177, .i (opE (f.menS t i) (isAdd (f.menS t i) ((f.menS t i).menL)))), (178, .b (decide ((opE (f.menS t i) (isAdd (f.menS t i) ((f.menS t i).menL))) ≠ 0))), (179, .e (.g [ai (((f.menS t i).mAft ((f.menS t i).menL)).pounds), ai (((f.menS t i).mAft ((f.menS t i).menL)).tl), ai (((f.menS t i).mAft ((f.menS t i).menL)).th), ai (((f.menS t i).mAft ((f.menS t i).menL)).al), ai (((f.menS t i).mAft ((f.menS t i).menL)).ah)])), (180, .e (.a (.p 14 (0)))), (15, .i ((k : Int)))], [(0, PL EPig (f.shop.pigs)), (1, PL ENight (f.nights)), (2, PL EP.int (t.dross)), (12, PL EPig ((f.shop.inTr t.tin t.ant).pigs)), (16, PT EP.int ((f.menS t i).menL) 3), (19, PL EP.int ([] ++ ((f.menS t i).menL)))], [(3, .blk [ai (f.shop.pounds), ai (f.shop.tl), ai (f.shop.th), ai (f.shop.al), ai (f.shop.ah), ai (f.shop.room), ai (f.shop.tpl), ai (f.shop.tph), ai (f.shop.apl), ai (f.shop.aph), .q 0, .q 1] 31), (4, .blk [ai (t.tin), ai (t.ant), .q 2] 34), (10, .own 43 ENight.size (truTo f.nights t.dross t.dross.length).length (RP ENight (truTo f.nights t.dross t.dross.length))), (11, .blk [ai ((f.shop.inTr t.tin t.ant).pounds), ai ((f.shop.inTr t.tin t.ant).tl), ai ((f.shop.inTr t.tin t.ant).th), ai ((f.shop.inTr t.tin t.ant).al), ai ((f.shop.inTr t.tin t.ant).ah), ai ((f.shop.inTr t.tin t.ant).room), ai ((f.shop.inTr t.tin t.ant).tpl), ai ((f.shop.inTr t.tin t.ant).tph), ai ((f.shop.inTr t.tin t.ant).apl), ai ((f.shop.inTr t.tin t.ant).aph), .q 12, .q 10] 31), (13, .own 53 EPig.size (pigsTo (f.menS t i).pigs (f.menS t i).menL k).length (RP EPig (pigsTo (f.menS t i).pigs (f.menS t i).menL k))), (14, .blk [ai (((f.menS t i).mAft ((f.menS t i).menL)).pounds), ai (((f.menS t i).mAft ((f.menS t i).menL)).tl), ai (((f.menS t i).mAft ((f.menS t i).menL)).th), ai (((f.menS t i).mAft ((f.menS t i).menL)).al), ai (((f.menS t i).mAft ((f.menS t i).menL)).ah), ai ((f.menS t i).room), ai ((f.menS t i).tpl), ai ((f.menS t i).tph), ai ((f.menS t i).apl), ai ((f.menS t i).aph), .q 13] 28), (20, .own 32 (EP.sl EP.int).size ([[] ++ ((f.menS t i).menL)]).length (RP (EP.sl EP.int) ([[] ++ ((f.menS t i).menL)]))), (21, .own 32 (EP.sl EP.int).size ((f.menP t i) ++ [[] ++ ((f.menS t i).menL)]).length (RP (EP.sl EP.int) ((f.menP t i) ++ [[] ++ ((f.menS t i).menL)]))), (22, .blk [ai (((f.menS t i).mAft ((f.menS t i).menL)).pounds), ai (((f.menS t i).mAft ((f.menS t i).menL)).tl), ai (((f.menS t i).mAft ((f.menS t i).menL)).th), ai (((f.menS t i).mAft ((f.menS t i).menL)).al), ai (((f.menS t i).mAft ((f.menS t i).menL)).ah)] 25)], [], []⟩) (fun k => k ≤ (f.menS t i).menL.length) (fun k => (f.menS t i).menL.length - k) (0) id ?_ (LeR.of ⟨rfl, rfl, rfl, rfl, rfl, rfl, rfl, rfl, rfl, rfl, rfl, rfl, rfl, rfl, rfl, rfl, rfl, rfl, rfl, rfl, rfl, rfl, rfl, rfl, rfl, rfl, rfl, rfl, rfl, rfl, rfl, rfl, rfl, rfl, rfl, rfl, rfl, rfl, rfl, rfl, rfl, rfl, rfl, rfl, rfl, rfl, rfl, trivial⟩ ⟨(lx rfl), (lx rfl), (lx rfl), (lx rfl), (lx rfl), (lx rfl), trivial⟩ ⟨rfl, rfl, rfl, rfl, rfl, rfl, rfl, rfl, rfl, trivial⟩ rfl rfl rfl rfl rfl) ?_
                · first | trivial | omega | (constructor <;> omega) | simp
                intro k hφ
                have hk : k ≤ (f.menS t i).menL.length := hφ
                refine WP.seq (WP.seq (WP.region ?_))
                refine WPl.v rfl (o_move rfl) ?_
                refine WPl.v rfl (o_move rfl) ?_
                refine WPl.v rfl (o_lenq L32 rfl (lxt rfl)) ?_
                refine WPl.v rfl (o_lss rfl rfl) ?_
                refine WPl.nil (EX.then ?_)
                refine WP.cond rfl (fun hc9 => ?_) (fun hc9 => ?_)
                · try simp only [cnd] at hc9
                  refine WP.skip (EX.then (WP.seq (WP.block (WP.seq (WP.region ?_)))))
                  refine WPl.v rfl (o_fldp F28_4 rfl) ?_
                  refine WPl.v rfl (o_ldp S26 rfl rfl rfl) ?_
                  refine WPl.v rfl (o_move rfl) ?_
                  refine WPl.v rfl (o_idxo L26 rfl rfl rfl (by first | (have h1 := truTo_len f.nights t.dross i; omega) | (have h1 := pigsTo_len (f.menS t i).pigs (f.menS t i).menL k; omega)) (by first | (have h1 := truTo_len f.nights t.dross i; omega) | (have h1 := pigsTo_len (f.menS t i).pigs (f.menS t i).menL k; omega))) ?_
                  have hpn := menPig (s := (f.menS t i)) (l := (f.menS t i).menL) (k := k) (by omega)
                  have hbk := hmb.2.2.2.2 k (by omega)
                  refine WPl.v rfl (o_ldoG G53 rfl rfl rfl rfl (by first | (have h1 := truTo_len f.nights t.dross i; omega) | (have h1 := pigsTo_len (f.menS t i).pigs (f.menS t i).menL k; omega)) (by first | (have h1 := truTo_len f.nights t.dross i; omega) | (have h1 := pigsTo_len (f.menS t i).pigs (f.menS t i).menL k; omega)) (strG rfl) rfl rfl) ?_
                  refine WPl.l 23 24 rfl rfl rfl (o_alloc Z53) ?_
                  refine WPl.s1 (o_stag G53 rfl rfl rfl ⟨rfl, rfl, rfl, rfl, rfl, trivial⟩ rfl rfl) ?_
                  refine WPl.nil (EX.then (WP.seq ?_))
                  refine WP.draw (nf := 25) [⟨[194, 195, 196, 197], [24], [], [], []⟩, ⟨[194, 195, 196, 197], [24], [], [], [0]⟩, ⟨[192, 193, 195], [], [], [], []⟩, ⟨[192, 193, 194], [], [], [], []⟩, ⟨[192, 193], [], [24], [24], [2, 3]⟩, ⟨[192, 193], [], [], [], [2, 3, 4]⟩, ⟨[], [], [], [], [0, 1, 2, 3, 4, 5]⟩, ⟨[], [], [], [], [0, 1, 2, 3, 4, 5, 6]⟩, ⟨[], [], [], [23], [0, 1, 2, 3, 4, 5, 6, 7]⟩] (by kernel_rfl) (by kernel_rfl) ?_
                  refine DRQ.v rfl rfl rfl (o_fldp F53_4 rfl) ?_
                  refine DRQ.v rfl rfl rfl (o_ldp S3 rfl rfl rfl) ?_
                  refine DRQ.v rfl rfl rfl (o_move rfl) ?_
                  refine DRQ.v rfl rfl rfl (o_move rfl) ?_
                  refine DRQ.x 24 rfl rfl rfl rfl (o_idx L32 rfl (lxt rfl) rfl (by first | omega | (simp; omega)) (by first | omega | (simp; omega))) ?_
                  refine DRQ.v rfl rfl rfl (o_ldq S3 rfl (lx rfl) intc) ?_
                  refine DRQ.v rfl rfl rfl (o_sub rfl rfl (by rw [hpn]; omega) (by rw [hpn]; omega)) ?_
                  refine DRQ.v rfl rfl rfl (o_fldp F53_4 rfl) ?_
                  refine DRQ.s 23 rfl rfl rfl (o_sta S3 rfl rfl rfl rfl rfl) ?_
                  refine DRQ.nil' ?_
                  refine EX.then (WP.region ?_)
                  refine WPl.v rfl (o_fldp F28_4 rfl) ?_
                  refine WPl.v rfl (o_ldp S26 rfl rfl rfl) ?_
                  refine WPl.v rfl (o_move rfl) ?_
                  refine WPl.v rfl (o_ldpa G53 rfl rfl rfl) ?_
                  refine WPl.v rfl (o_idxo L26 rfl rfl rfl (by first | (have h1 := truTo_len f.nights t.dross i; omega) | (have h1 := pigsTo_len (f.menS t i).pigs (f.menS t i).menL k; omega)) (by first | (have h1 := truTo_len f.nights t.dross i; omega) | (have h1 := pigsTo_len (f.menS t i).pigs (f.menS t i).menL k; omega))) ?_
                  refine WPl.s1 (o_steE2 (z := ({ nth (pigsTo (f.menS t i).pigs (f.menS t i).menL k) (k : Int) with many := (nth (pigsTo (f.menS t i).pigs (f.menS t i).menL k) (k : Int)).many - nth (f.menS t i).menL k } : Pig)) Try.sizeOf53 rfl rfl rfl ⟨rfl, rfl, rfl, rfl, rfl, trivial⟩ (eok_str ⟨rfl, rfl, rfl, rfl, rfl, trivial⟩) rfl rfl rfl (by first | (have h1 := truTo_len f.nights t.dross i; omega) | (have h1 := pigsTo_len (f.menS t i).pigs (f.menS t i).menL k; omega)) (by first | (have h1 := truTo_len f.nights t.dross i; omega) | (have h1 := pigsTo_len (f.menS t i).pigs (f.menS t i).menL k; omega))) ?_
                  refine WPl.nil (EX.blk (EX.then (WP.region ?_)))
                  refine WPl.v rfl (o_move rfl) ?_
                  refine WPl.v rfl (o_add rfl rfl (by first | omega | (simp; omega)) (by first | omega | (simp; omega))) ?_
                  refine WPl.v rfl (o_assign rfl) ?_
                  refine WPl.nil ?_
                  refine EX.again (k + 1) id (by first | omega | (constructor <;> omega)) (by omega) (LeR.of ⟨rfl, rfl, rfl, rfl, rfl, rfl, rfl, rfl, rfl, rfl, rfl, rfl, rfl, rfl, rfl, rfl, rfl, rfl, rfl, rfl, rfl, rfl, rfl, rfl, rfl, rfl, rfl, rfl, rfl, rfl, rfl, rfl, rfl, rfl, rfl, rfl, rfl, rfl, rfl, rfl, rfl, rfl, rfl, rfl, rfl, rfl, rfl, trivial⟩ ⟨(lx rfl), (lx rfl), (lx rfl), (lx rfl), (lx rfl), (lx rfl), trivial⟩ ⟨rfl, rfl, rfl, rfl, rfl, rfl, rfl, rfl, rfl, trivial⟩ rfl rfl rfl rfl rfl)
                · try simp only [cnd] at hc9
                  have he : k = (f.menS t i).menL.length := by omega
                  subst he
                  refine WP.exit (EX.exit_then (EX.exit_then (EX.exit_blk (EX.then (WP.seq (WP.region ?_))))))
                  refine WPl.v rfl (o_fldp F34_2 rfl) ?_
                  refine WPl.v rfl (o_ldp S32 rfl rfl rfl) ?_
                  refine WPl.v rfl (o_move rfl) ?_
                  refine WPl.x 23 24 rfl rfl rfl (o_idx L32 rfl (lx rfl) rfl (by first | omega | (simp; omega)) (by first | omega | (simp; omega))) ?_
                  refine WPl.v rfl (o_ldq S3 rfl (lx rfl) intc) ?_
                  refine WPl.v rfl (o_assign rfl) ?_
                  refine WPl.nil (EX.then (WP.seq (WP.region ?_)))
                  refine WPl.v rfl (o_fldp F28_0 rfl) ?_
                  refine WPl.v rfl (o_fldp F25_0 rfl) ?_
                  refine WPl.v rfl (o_ldp S3 rfl rfl rfl) ?_
                  refine WPl.v rfl (o_move rfl) ?_
                  refine WPl.v rfl (o_sub rfl rfl (by have h := hmb.2.2.2.1; unfold PoB at h; omega) (by have h := hmb.2.2.2.1; unfold PoB at h; omega)) ?_
                  refine WPl.v rfl (o_fldp F28_0 rfl) ?_
                  refine WPl.v rfl (o_fldp F25_0 rfl) ?_
                  refine WPl.s1 (o_sta S3 rfl rfl rfl rfl rfl) ?_
                  refine WPl.nil (EX.then (WP.region ?_))
                  refine WPl.v rfl (o_fldp F25_1 rfl) ?_
                  refine WPl.v rfl (o_fldp F23_0 rfl) ?_
                  refine WPl.v rfl (o_ldp S3 rfl rfl rfl) ?_
                  refine WPl.v rfl (o_move rfl) ?_
                  refine WPl.v rfl (o_sub rfl rfl (by have h := hmb.2.2.2.1; unfold PoB at h; omega) (by have h := hmb.2.2.2.1; unfold PoB at h; omega)) ?_
                  refine WPl.v rfl (o_fldp F25_1 rfl) ?_
                  refine WPl.v rfl (o_fldp F23_1 rfl) ?_
                  refine WPl.v rfl (o_ldp S3 rfl rfl rfl) ?_
                  refine WPl.v rfl (o_move rfl) ?_
                  refine WPl.v rfl (o_sub rfl rfl (by have h := hmb.2.2.2.1; unfold PoB at h; omega) (by have h := hmb.2.2.2.1; unfold PoB at h; omega)) ?_
                  refine WPl.v rfl (o_build B23 rfl ⟨rfl, rfl, trivial⟩ rfl rfl) ?_
                  refine WPl.v rfl (o_fldp F28_0 rfl) ?_
                  refine WPl.v rfl (o_fldp F25_1 rfl) ?_
                  refine WPl.s1 (o_stag G23 rfl rfl rfl ⟨rfl, rfl, trivial⟩ rfl rfl) ?_
                  refine WPl.nil (EX.blk (EX.then (WP.region ?_)))
                  refine WPl.v rfl (o_move rfl) ?_
                  refine WPl.v rfl (o_add rfl rfl (by first | omega | (simp; omega)) (by first | omega | (simp; omega))) ?_
                  refine WPl.v rfl (o_assign rfl) ?_
                  refine WPl.nil ?_
                  refine EX.again (i + 1) (ren [(15, 21)]) (by exact ⟨by omega, menOKs hmo hs hc6⟩) (by omega) (LeR.of ⟨rfl, rfl, rfl, rfl, rfl, rfl, rfl, trivial⟩ ⟨(lx rfl), (lx rfl), (lx rfl), (lx rfl), trivial⟩ ⟨rfl, rfl, rfl, rfl, rfl, rfl, (congrArg (fun z => some (Ent.own 32 (EP.sl EP.int).size (List.length z) (RP (EP.sl EP.int) z))) (show ((f.menP t i) ++ [[] ++ ((f.menS t i).menL)]) = ((fun i => f.menP t i) (i + 1)) from by dsimp only; rw [menP_succ]; rfl)), trivial⟩ rfl rfl rfl rfl rfl)
      · try simp only [cnd] at hc4
        have he : i = f.nights.length := by omega
        subst he
        have law := hlaw hf ht hmo
        refine WP.exit (EX.exit_then (EX.exit_then (EX.exit_blk (EX.then (WP.seq (WP.region ?_))))))
        refine WPl.imp (Imp.frz (E := ENight) (l := truTo f.nights t.dross t.dross.length) 10 rfl rfl) ?_
        refine WPl.v rfl (o_ldpa G31 rfl rfl rfl) ?_
        refine WPl.v rfl (o_move rfl) ?_
        refine WPl.cs 16 rfl rfl rfl rfl (o_sigbc 16 (ren [(0, 12), (1, 10), (2, 15)]) (Sig.free (c15 (f.tru t) (f.menP t f.nights.length) (by show f.shop.pigs.length ≤ 40; omega))) e15 rfl rfl SvsOK.rf w15 ⟨.x (lx rfl), .x (lx rfl), .own rfl rfl, trivial⟩ r15) ?_
        refine WPl.v rfl (o_move rfl) ?_
        refine WPl.v rfl (o_extract rfl rfl) ?_
        refine WPl.v rfl (o_extract rfl rfl) ?_
        refine WPl.v rfl (o_assign rfl) ?_
        refine WPl.v rfl (o_assign rfl) ?_
        refine WPl.nil (EX.then (WP.seq (WP.region ?_)))
        refine WPl.v rfl (o_ldpa G31 rfl rfl rfl) ?_
        refine WPl.cs 16 rfl rfl rfl rfl (o_sig 16 (ren [(0, 12), (1, 10)]) (c16 (f.tru t) (by show f.shop.pigs.length ≤ 40; omega)) e16 rfl rfl rfl w16 ⟨(lx rfl), (lx rfl), trivial⟩ r16) ?_
        refine WPl.v rfl (o_move rfl) ?_
        refine WPl.v rfl (o_extract rfl rfl) ?_
        refine WPl.v rfl (o_extract rfl rfl) ?_
        refine WPl.v rfl (o_assign rfl) ?_
        refine WPl.v rfl (o_assign rfl) ?_
        refine WPl.nil (EX.then (WP.seq (WP.seq (WP.region ?_))))
        refine WPl.v rfl (o_move rfl) ?_
        refine WPl.v rfl (o_neq rfl rfl) ?_
        refine WPl.v rfl (o_move rfl) ?_
        refine WPl.bit 16 17 (!(decide (((f.tru t).wOpen ((f.tru t).wPlan (f.menP t f.nights.length))) ≠ 0))) rfl rfl ?_
        refine WPl.gv 16 rfl rfl (.plain rfl (by simp) rfl) (fun hb => o_move rfl) ?_
        refine WPl.gv 16 rfl rfl (.plain rfl (by simp) rfl) (fun hb => o_neq rfl rfl) ?_
        refine WPl.v rfl (o_or rfl rfl rfl (by first | (simp; done) | simp_all)) ?_
        refine WPl.v rfl (o_move rfl) ?_
        refine WPl.bit 17 18 (!((decide (((f.tru t).wOpen ((f.tru t).wPlan (f.menP t f.nights.length))) ≠ 0)) || (decide (((f.tru t).wSafeV (f.menP t f.nights.length)) ≠ 1)))) rfl rfl ?_
        refine WPl.gv 17 rfl rfl (.plain rfl (by simp) rfl) (fun hb => o_move rfl) ?_
        refine WPl.gv 17 rfl rfl (.plain rfl (by simp) rfl) (fun hb => o_neq rfl rfl) ?_
        refine WPl.v rfl (o_or rfl rfl rfl (by first | (simp; done) | simp_all)) ?_
        refine WPl.v rfl (o_move rfl) ?_
        refine WPl.bit 18 19 (!(((decide (((f.tru t).wOpen ((f.tru t).wPlan (f.menP t f.nights.length))) ≠ 0)) || (decide (((f.tru t).wSafeV (f.menP t f.nights.length)) ≠ 1))) || (decide (((f.tru t).leastE costG) ≠ 0)))) rfl rfl ?_
        refine WPl.gv 18 rfl rfl (.plain rfl (by simp) rfl) (fun hb => o_move rfl) ?_
        refine WPl.gv 18 rfl rfl (.plain rfl (by simp) rfl) (fun hb => o_lss rfl rfl) ?_
        refine WPl.v rfl (o_or rfl rfl rfl (by first | (simp; done) | simp_all)) ?_
        refine WPl.v rfl (o_move rfl) ?_
        refine WPl.bit 19 20 (!((((decide (((f.tru t).wOpen ((f.tru t).wPlan (f.menP t f.nights.length))) ≠ 0)) || (decide (((f.tru t).wSafeV (f.menP t f.nights.length)) ≠ 1))) || (decide (((f.tru t).leastE costG) ≠ 0))) || (decide (((f.tru t).leastV costG) < 0)))) rfl rfl ?_
        refine WPl.gv 19 rfl rfl (.plain rfl (by simp) rfl) (fun hb => o_move rfl) ?_
        refine WPl.gv 19 rfl rfl (.plain rfl (by simp) rfl) (fun hb => o_ldpa G31 rfl rfl rfl) ?_
        refine WPl.gv 19 rfl rfl (.plain rfl (by simp) rfl) (fun hb => o_move rfl) ?_
        refine WPl.gc0 19 rfl rfl (.plain rfl (by simp) rfl) (fun hb => o_sigbc 20 (ren [(0, 12), (1, 10), (2, 15)]) (Sig.free (c17 (f.tru t) (f.menP t f.nights.length) (Shop.pigsOK (Fnd.shopOK law.o)) law.r)) e17 rfl rfl SvsOK.rf w17 ⟨.x (lx rfl), .x (lx rfl), .own rfl rfl, trivial⟩ r17) ?_
        refine WPl.gv 19 rfl rfl (.plain rfl (by simp) rfl) (fun hb => o_gtr rfl rfl) ?_
        refine WPl.v rfl (o_or rfl rfl rfl (by first | (simp; done) | simp_all)) ?_
        refine WPl.nil (EX.then ?_)
        refine WP.cond rfl (fun hc10 => ?_) (fun hc10 => ?_)
        · try simp only [cnd] at hc10
          exfalso
          rw [law.e, law.s, law.c] at hc10
          simp at hc10
          have := law.n
          omega
        · try simp only [cnd] at hc10
          refine WP.skip (EX.then (WP.seq (WP.region ?_)))
          refine WPl.v rfl (o_ldpa G31 rfl rfl rfl) ?_
          refine WPl.cs 20 rfl rfl rfl rfl (o_sig 20 (ren [(0, 0), (1, 1)]) (c18 f (by omega)) e18 rfl rfl rfl w18 ⟨(lx rfl), (lx rfl), trivial⟩ r18) ?_
          refine WPl.v rfl (o_move rfl) ?_
          refine WPl.v rfl (o_extract rfl rfl) ?_
          refine WPl.v rfl (o_extract rfl rfl) ?_
          refine WPl.v rfl (o_assign rfl) ?_
          refine WPl.v rfl (o_assign rfl) ?_
          refine WPl.nil (EX.then (WP.seq (WP.region ?_)))
          refine WPl.v rfl (o_move rfl) ?_
          refine WPl.v rfl (o_eql rfl rfl) ?_
          refine WPl.v rfl (o_move rfl) ?_
          refine WPl.bit 20 21 (!(decide (f.wKnownE = 3))) rfl rfl ?_
          refine WPl.gv 20 rfl rfl (.plain rfl (by simp) rfl) (fun hb => o_move rfl) ?_
          refine WPl.gv 20 rfl rfl (.plain rfl (by simp) rfl) (fun hb => o_eql rfl rfl) ?_
          refine WPl.gv 20 rfl rfl (.plain rfl (by simp) rfl) (fun hb => o_move rfl) ?_
          refine WPl.bit 21 22 ((!(decide (f.wKnownE = 3))) && (decide (f.wKnownE = 0))) rfl rfl ?_
          refine WPl.gv 21 rfl rfl (.nest rfl rfl (by simp) rfl) (fun hb => o_move rfl) ?_
          refine WPl.gv 21 rfl rfl (.nest rfl rfl (by simp) rfl) (fun hb => o_move rfl) ?_
          refine WPl.gv 21 rfl rfl (.nest rfl rfl (by simp) rfl) (fun hb => o_geq rfl rfl) ?_
          refine WPl.gv 20 rfl rfl (.plain rfl (by simp) rfl) (fun hb => o_and rfl rfl rfl (by first | (simp; done) | exact fun h => Bool.and_eq_true_iff.2 ⟨hb, h⟩ | simp_all)) ?_
          refine WPl.v rfl (o_or rfl rfl rfl (by first | (simp; done) | simp_all)) ?_
          refine WPl.imp (Imp.bitF 277 (b' := true) rfl (by rcases law.k with h | h <;> simp [h])) ?_
          refine WPl.v rfl (o_move rfl) ?_
          refine WPl.ung ⟨_, _, rfl, rfl, rfl⟩ ?_
          refine WPl.cs 22 rfl rfl rfl rfl (o_sig 22 id c7 e7 rfl rfl rfl w7 trivial r7) ?_
          refine WPl.v rfl (o_pickT rfl rfl) ?_
          refine WPl.v rfl (o_assign rfl) ?_
          refine WPl.nil (EX.then (WP.ret ?_))
          exact EX.fin id (.inl rfl) rfl (.tmp rfl .nil) rfl r3 trivial (by simp) (by simp)
end Go.Flong
namespace Go.Proofs.Ytkpejbekobkdfaa
open Go Go.Eng Go.Flong Go.ChangeShapes Go.WideShapes
set_option maxRecDepth 100000 in
theorem topMended_lifted (os : Os) (started : os.Started) (H : Type) (enc : TypeId × Value → H) : ReturnsInHanded {} Try.checked os 3 .any (Rows.topMendedSpec.pre6 enc Try.prog Try.f3 Rows.topMendedRow.domain false) (Rows.topMendedSpec.post enc Try.prog Try.f3 false true false false) := by
  refine lawLifted (C := Try.checked) own started (by kernel_rfl) Try.func3
    (ChangeSpec.witness6 (enc := enc) (C := Try.checked) false ⟨#[], #[.agg #[.int .i64 0, .int .i64 0, .int .i64 0, .int .i64 0, .int .i64 0, .int .i64 0, .int .i64 0, .int .i64 0, .int .i64 0, .int .i64 0, .slice none 0 0, .slice none 0 0], .agg #[.int .i64 0, .int .i64 0, .slice none 0 0]], []⟩ 8 (by kernel_rfl) (by kernel_rfl) (by kernel_rfl) (by kernel_rfl))
    laidOut rfl Try.underlying4 (by intro t ht; revert ht; revert t; exact of_decide_eq_true (by kernel_rfl)) rfl (fun ds hd => ?_) fun W base args ds p hval hA => ?_
  · match ds, hd with
    | [_, _], _ => rfl
  · obtain ⟨v0, vs, d0, ds0, p0, q0, ha, rfl, rfl, h0, hA⟩ := trodAll_cons hA
    obtain ⟨v1, vs, d1, ds1, p1, q1, rfl, rfl, rfl, h1, hA⟩ := trodAll_cons hA
    obtain ⟨rfl, rfl, rfl⟩ := trodAll_nil hA
    obtain rfl : args = #[v0, v1] := by cases args; simp_all
    obtain ⟨a0, pv0, nv0, rfl, hp0, hn0⟩ := arg31 (hval 0 31 v0 rfl rfl) h0
    obtain ⟨a1, dv1, rfl, hd1⟩ := argTruth (hval 1 _ v1 rfl rfl) h1
    exact Sig.kept (c3 a0 a1 (fun hf ht hok => mendLaw hf ht hok)) (ν := nuL [pv0, nv0, dv1]) ⟨hp0, hn0, hd1, trivial⟩
theorem topMended_holds : Rows.TopMendedSaid :=
  OpenClaim.holds_of_wide 3 Try.f3 rfl rfl rfl rfl rfl rfl rfl ⟨rfl, rfl, rfl, rfl, rfl⟩ rfl rfl rfl rfl rfl (by kernel_rfl) Try.func3 (by kernel_rfl)
    (of_decide_eq_true (by kernel_rfl)) (by unfold Func.isWrapper; rw [if_neg (by decide +kernel)]; exact ⟨rfl, rfl⟩)
    (fun os started H enc _ => topMended_lifted os started H enc)
end Go.Proofs.Ytkpejbekobkdfaa
