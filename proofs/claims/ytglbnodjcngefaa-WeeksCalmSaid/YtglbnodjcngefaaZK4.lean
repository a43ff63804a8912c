/- Part 4 of the texts behind the claim: KP1 KP2 KP3 KP4 KP5. -/
import Derived.Test.YtglbnodjcngefaaZK3
set_option linter.unusedSimpArgs false
set_option linter.unusedVariables false
namespace Go.Flong
open Go Go.Eng Go.Proofs
theorem Z23 : Zero Try.prog 23 [ai (0), ai (0)] := .mk Try.zeroValue23 rfl rfl
theorem B23 : BldT Try.prog 23 [(0, 1), (1, 1)] [.int .i64 0, .int .i64 0] := BldT.mk (ns := [1, 1]) Try.underlying23 ⟨Try.sizeOf3, Try.sizeOf3, trivial⟩ rfl Try.zeroValue23 rfl
theorem e84 : Enters' Try.prog 84 := Try.call84
theorem e79 : Enters' Try.prog 79 := Try.call79
theorem Z105 : Zero Try.prog 105 [ai (0), ai (0), ai (0), ai (0), ai (0), ai (0), ai (0)] := .mk Try.zeroValue105 rfl rfl
theorem Z110 : Zero Try.prog 110 [ai (0), ai (0), ai (0), ai (0)] := .mk Try.zeroValue110 rfl rfl
theorem F100_0 : Fld Try.prog 100 0 0 := .mk Try.underlying100 rfl rfl rfl Try.sizeOf31 rfl
theorem A110 : IsArr Try.prog 110 3 4 := ⟨Try.underlying110, Try.sizeOf3⟩
theorem B105 : BldT Try.prog 105 [(0, 1), (1, 2), (3, 2), (5, 2)] [.int .i64 0, .int .i64 0, .int .i64 0, .int .i64 0, .int .i64 0, .int .i64 0, .int .i64 0] := BldT.mk (ns := [1, 2, 2, 2]) Try.underlying105 ⟨Try.sizeOf3, Try.sizeOf23, Try.sizeOf23, Try.sizeOf23, trivial⟩ rfl Try.zeroValue105 rfl
theorem G110 : TyG Try.prog 110 4 := ⟨Try.isAgg110, Try.sizeOf110⟩
theorem G105 : TyG Try.prog 105 7 := ⟨Try.isAgg105, Try.sizeOf105⟩
theorem F105_0 : Fld Try.prog 105 0 0 := .mk Try.underlying105 rfl rfl rfl Try.sizeOf3 rfl
theorem F105_1 : Fld Try.prog 105 1 1 := .mk Try.underlying105 rfl rfl rfl Try.sizeOf23 rfl
theorem e137 : Enters' Try.prog 137 := Try.call137
theorem F105_2 : Fld Try.prog 105 2 3 := .mk Try.underlying105 rfl rfl rfl Try.sizeOf23 rfl
theorem F105_3 : Fld Try.prog 105 3 5 := .mk Try.underlying105 rfl rfl rfl Try.sizeOf23 rfl
theorem S95 : TyS Try.prog 95 := ⟨Try.isAgg95, Try.sizeOf95⟩
theorem e88 : Enters' Try.prog 88 := Try.call88
theorem S32 : TyS Try.prog 32 := ⟨Try.isAgg32, Try.sizeOf32⟩
theorem L32 : IsSl Try.prog 32 44 1 := ⟨Try.underlying32, Try.sizeOf44⟩
theorem S44 : TyS Try.prog 44 := ⟨Try.isAgg44, Try.sizeOf44⟩
theorem e129 : Enters' Try.prog 129 := Try.call129
theorem e130 : Enters' Try.prog 130 := Try.call130
theorem e128 : Enters' Try.prog 128 := Try.call128
theorem w137 {a b n : Int} : ∀ x ∈ ([.e (.g [ai (a), ai (b)]), .i (n)] : List SV), x.res (keys (α := Pred) []) := by simp [SV.res, El.res, At.res, keys]
theorem r137 {a b n : Int} : SV.res (keys (α := Pred) []) (.e (.g [ai (a + n), ai (b + n)])) := by simp [SV.res, El.res, At.res, keys]
set_option maxHeartbeats 4000000 in
theorem c137 (a b n : Int) (h1 : -1000000000 ≤ a ∧ a ≤ 1000000000) (h2 : -1000000000 ≤ b ∧ b ≤ 1000000000) (h3 : -1000000000 ≤ n ∧ n ≤ 1000000000) : Sig Try.prog 137 [.e (.g [ai (a), ai (b)]), .i (n)] [] (.e (.g [ai (a + n), ai (b + n)])) [] := by
  refine Sig.intro Try.func137 rfl 0 [(0, .e (.g [ai (a), ai (b)])), (1, .i (n))] rfl w137 rfl rfl fun I w => ?_
  refine WP.seq ?_
  refine WP.region ?_
  refine WPl.l 0 1 rfl rfl rfl (o_boxg rfl) ?_
  refine WPl.l 1 2 rfl rfl rfl (o_alloc Z23) ?_
  refine WPl.nil ?_
  refine EX.then ?_
  refine WP.seq ?_
  refine WP.region ?_
  refine WPl.v rfl (o_fldp F23_0 rfl) ?_
  refine WPl.v rfl (o_ldp S3 rfl rfl rfl) ?_
  refine WPl.v rfl (o_move rfl) ?_
  refine WPl.v rfl (o_add rfl rfl (by first | omega | (simp; omega)) (by first | omega | (simp; omega))) ?_
  refine WPl.v rfl (o_fldp F23_1 rfl) ?_
  refine WPl.v rfl (o_ldp S3 rfl rfl rfl) ?_
  refine WPl.v rfl (o_move rfl) ?_
  refine WPl.v rfl (o_add rfl rfl (by first | omega | (simp; omega)) (by first | omega | (simp; omega))) ?_
  refine WPl.v rfl (o_build B23 rfl ⟨rfl, rfl, trivial⟩ rfl rfl) ?_
  refine WPl.s1 (o_stag G23 rfl rfl rfl ⟨rfl, rfl, trivial⟩ rfl rfl) ?_
  refine WPl.nil ?_
  refine EX.then ?_
  refine WP.ret ?_
  exact EX.fin id (.inl rfl) rfl (.cellg G23 rfl rfl rfl (.nil)) rfl r137 trivial (by simp) (by simp)
theorem w21 {f : Fnd} : ∀ x ∈ ([.e (.g [ai (f.shop.pounds), ai (f.shop.tl), ai (f.shop.th), ai (f.shop.al), ai (f.shop.ah), ai (f.shop.room), ai (f.shop.tpl), ai (f.shop.tph), ai (f.shop.apl), ai (f.shop.aph), .q 0, .q 1])] : List SV), x.res (keys (α := Pred) [(0, PL EPig (f.shop.pigs)), (1, PL ENight (f.nights))]) := by simp [SV.res, El.res, At.res, keys]
theorem r21 {f : Fnd} : SV.res (keys (α := Pred) []) (.i (errW f.chk)) := by simp [SV.res, El.res, At.res, keys]
set_option maxHeartbeats 4000000 in
theorem c21 (f : Fnd) (hl : f.shop.pigs.length ≤ 40) : Sig Try.prog 21 [.e (.g [ai (f.shop.pounds), ai (f.shop.tl), ai (f.shop.th), ai (f.shop.al), ai (f.shop.ah), ai (f.shop.room), ai (f.shop.tpl), ai (f.shop.tph), ai (f.shop.apl), ai (f.shop.aph), .q 0, .q 1])] [(0, PL EPig (f.shop.pigs)), (1, PL ENight (f.nights))] (.i (errW f.chk)) [] := by
  refine Sig.intro Try.func21 rfl 2 [(0, .e (.g [ai (f.shop.pounds), ai (f.shop.tl), ai (f.shop.th), ai (f.shop.al), ai (f.shop.ah), ai (f.shop.room), ai (f.shop.tpl), ai (f.shop.tph), ai (f.shop.apl), ai (f.shop.aph), .q 0, .q 1]))] rfl w21 rfl rfl fun I w => ?_
  refine WP.seq ?_
  refine WP.region ?_
  refine WPl.l 2 3 rfl rfl rfl (o_boxg rfl) ?_
  refine WPl.v rfl (o_assign rfl) ?_
  refine WPl.nil ?_
  refine EX.then ?_
  refine WP.seq ?_
  refine WP.seq ?_
  refine WP.region ?_
  refine WPl.v rfl (o_fldp F31_0 rfl) ?_
  refine WPl.v rfl (o_ldpg G28 rfl rfl rfl) ?_
  refine WPl.cs 3 rfl rfl rfl rfl (o_sig 3 (ren [(0, 0)]) (c84 f.shop hl) e84 rfl rfl rfl w84 ⟨(lx rfl), trivial⟩ r84) ?_
  refine WPl.v rfl (o_neq rfl rfl) ?_
  refine WPl.v rfl (o_move rfl) ?_
  refine WPl.bit 3 4 (!(decide ((errM f.shop.chk) ≠ 0))) rfl rfl ?_
  refine WPl.gv 3 rfl rfl (.plain rfl (by simp) rfl) (fun hb => o_fldp F31_1 rfl) ?_
  refine WPl.gv 3 rfl rfl (.plain rfl (by simp) rfl) (fun hb => o_ldp S29 rfl rfl rfl) ?_
  refine WPl.gv 3 rfl rfl (.plain rfl (by simp) rfl) (fun hb => o_lenq L29 rfl (lx rfl)) ?_
  refine WPl.gv 3 rfl rfl (.plain rfl (by simp) rfl) (fun hb => o_gtr rfl rfl) ?_
  refine WPl.v rfl (o_or rfl rfl rfl (by first | (simp; done) | simp_all)) ?_
  refine WPl.nil ?_
  refine EX.then ?_
  refine WP.cond rfl (fun hc1 => ?_) (fun hc1 => ?_)
  · try simp only [decide_eq_true_eq, decide_eq_false_iff_not, Bool.and_eq_true, Bool.or_eq_true, Bool.and_eq_false_iff, Bool.or_eq_false_iff, Bool.not_eq_true', Bool.not_eq_false', ne_eq, Decidable.not_not] at hc1
    refine WP.seq ?_
    refine WP.region ?_
    refine WPl.v rfl (o_assign rfl) ?_
    refine WPl.nil ?_
    refine EX.then ?_
    refine WP.ret ?_
    refine EX.ret_then ?_
    rw [show errW f.chk = 130 from by simp [errM_eq] at hc1; simp only [errW, Fnd.chk]; rcases hc1 with h | h; simp [h]; simp [show ¬ ((f.nights.length : Int) ≤ 4) by omega]]
    exact EX.fin id (.inl rfl) rfl (.tmp rfl .nil) rfl (by simp [SV.res, El.res, At.res, keys]) trivial (by simp) (by simp)
  · try simp only [decide_eq_true_eq, decide_eq_false_iff_not, Bool.and_eq_true, Bool.or_eq_true, Bool.and_eq_false_iff, Bool.or_eq_false_iff, Bool.not_eq_true', Bool.not_eq_false', ne_eq, Decidable.not_not] at hc1
    refine WP.skip ?_
    refine EX.then ?_
    refine WP.seq ?_
    refine WP.region ?_
    refine WPl.v rfl (o_assign rfl) ?_
    refine WPl.nil ?_
    refine EX.then ?_
    refine WP.seq ?_
    refine WP.seq ?_
    refine WP.region ?_
    refine WPl.v rfl (o_fldp F31_1 rfl) ?_
    refine WPl.v rfl (o_ldp S29 rfl rfl rfl) ?_
    refine WPl.v rfl (o_lenq L29 rfl (lx rfl)) ?_
    refine WPl.v rfl (o_move rfl) ?_
    refine WPl.nil ?_
    refine EX.then ?_
    refine WP.block ?_
    refine WP.loop (Gh := Nat) (fun i => ⟨4, [(1, .e (.a (.p 2 (0)))), (2, .i (0)), (3, .i (hiTo f.nights i)), (17, .e (.a (.q 1))), (18, .i ((f.nights.length : Int))), (19, .i ((i : Int)))], [(0, PL EPig (f.shop.pigs)), (1, PL ENight (f.nights))], [(2, .blk [ai (f.shop.pounds), ai (f.shop.tl), ai (f.shop.th), ai (f.shop.al), ai (f.shop.ah), ai (f.shop.room), ai (f.shop.tpl), ai (f.shop.tph), ai (f.shop.apl), ai (f.shop.aph), .q 0, .q 1] 31)], [], []⟩) (fun i => i ≤ f.nights.length ∧ allTo Night.chk f.nights i = true) (fun i => f.nights.length - i) (0) id ?_ (LeR.of ⟨rfl, rfl, rfl, rfl, rfl, rfl, trivial⟩ ⟨(lx rfl), (lx rfl), trivial⟩ ⟨rfl, trivial⟩ rfl rfl rfl rfl rfl) ?_
    · exact ⟨by omega, rfl⟩
    intro i hφ
    obtain ⟨hi, hall⟩ := hφ; have hb := hiTo_bnd hall; have hok : f.shop.chk = true ∧ (f.nights.length : Int) ≤ 4 := by (simp [errM_eq] at hc1); exact hc1
    refine WP.seq ?_
    refine WP.region ?_
    refine WPl.v rfl (o_lss rfl rfl) ?_
    refine WPl.nil ?_
    refine EX.then ?_
    refine WP.seq ?_
    refine WP.cond rfl (fun hc2 => ?_) (fun hc2 => ?_)
    · try simp only [decide_eq_true_eq, decide_eq_false_iff_not, Bool.and_eq_true, Bool.or_eq_true, Bool.and_eq_false_iff, Bool.or_eq_false_iff, Bool.not_eq_true', Bool.not_eq_false', ne_eq, Decidable.not_not] at hc2
      refine WP.skip ?_
      refine EX.then ?_
      refine WP.seq ?_
      refine WP.block ?_
      refine WP.seq ?_
      refine WP.region ?_
      refine WPl.x 4 5 rfl rfl rfl (o_idx L29 rfl (lx rfl) rfl (by first | omega | (simp; omega)) (by first | omega | (simp; omega))) ?_
      refine WPl.v rfl (o_ldqg G75 rfl (lx rfl) (strG rfl) rfl rfl) ?_
      refine WPl.l 5 6 rfl rfl rfl (o_alloc Z75) ?_
      refine WPl.s1 (o_stag G75 rfl rfl rfl ⟨rfl, rfl, rfl, trivial⟩ rfl rfl) ?_
      refine WPl.nil ?_
      refine EX.then ?_
      refine WP.seq ?_
      refine WP.seq ?_
      refine WP.region ?_
      refine WPl.v rfl (o_fldp F75_0 rfl) ?_
      refine WPl.v rfl (o_fldp F23_1 rfl) ?_
      refine WPl.v rfl (o_ldp S3 rfl rfl rfl) ?_
      refine WPl.cs 6 rfl rfl rfl rfl (o_sig 6 id (c79 ((nth f.nights (i : Int)).hi) 0 9) e79 rfl rfl rfl w79 trivial r79) ?_
      refine WPl.v rfl (o_not rfl) ?_
      refine WPl.v rfl (o_move rfl) ?_
      refine WPl.bit 6 7 (!(!(within ((nth f.nights (i : Int)).hi) 0 9))) rfl rfl ?_
      refine WPl.gv 6 rfl rfl (.plain rfl (by simp) rfl) (fun hb => o_fldp F75_0 rfl) ?_
      refine WPl.gv 6 rfl rfl (.plain rfl (by simp) rfl) (fun hb => o_fldp F23_0 rfl) ?_
      refine WPl.gv 6 rfl rfl (.plain rfl (by simp) rfl) (fun hb => o_ldp S3 rfl rfl rfl) ?_
      refine WPl.gv 6 rfl rfl (.plain rfl (by simp) rfl) (fun hb => o_fldp F75_0 rfl) ?_
      refine WPl.gv 6 rfl rfl (.plain rfl (by simp) rfl) (fun hb => o_fldp F23_1 rfl) ?_
      refine WPl.gv 6 rfl rfl (.plain rfl (by simp) rfl) (fun hb => o_ldp S3 rfl rfl rfl) ?_
      refine WPl.gc0 6 rfl rfl (.plain rfl (by simp) rfl) (fun hb => o_sig 7 id (c79 ((nth f.nights (i : Int)).lo) 0 ((nth f.nights (i : Int)).hi)) e79 rfl rfl rfl w79 trivial r79) ?_
      refine WPl.gv 6 rfl rfl (.plain rfl (by simp) rfl) (fun hb => o_not rfl) ?_
      refine WPl.v rfl (o_or rfl rfl rfl (by first | (simp; done) | simp_all)) ?_
      refine WPl.v rfl (o_move rfl) ?_
      refine WPl.bit 7 8 (!((!(within ((nth f.nights (i : Int)).hi) 0 9)) || (!(within ((nth f.nights (i : Int)).lo) 0 ((nth f.nights (i : Int)).hi))))) rfl rfl ?_
      refine WPl.gv 7 rfl rfl (.plain rfl (by simp) rfl) (fun hb => o_fldp F75_1 rfl) ?_
      refine WPl.gv 7 rfl rfl (.plain rfl (by simp) rfl) (fun hb => o_ldp S3 rfl rfl rfl) ?_
      refine WPl.gc0 7 rfl rfl (.plain rfl (by simp) rfl) (fun hb => o_sig 8 id (c79 ((nth f.nights (i : Int)).test) 0 1) e79 rfl rfl rfl w79 trivial r79) ?_
      refine WPl.gv 7 rfl rfl (.plain rfl (by simp) rfl) (fun hb => o_not rfl) ?_
      refine WPl.v rfl (o_or rfl rfl rfl (by first | (simp; done) | simp_all)) ?_
      refine WPl.nil ?_
      refine EX.then ?_
      refine WP.cond rfl (fun hc3 => ?_) (fun hc3 => ?_)
      · try simp only [decide_eq_true_eq, decide_eq_false_iff_not, Bool.and_eq_true, Bool.or_eq_true, Bool.and_eq_false_iff, Bool.or_eq_false_iff, Bool.not_eq_true', Bool.not_eq_false', ne_eq, Decidable.not_not] at hc3
        refine WP.seq ?_
        refine WP.region ?_
        refine WPl.v rfl (o_assign rfl) ?_
        refine WPl.nil ?_
        refine EX.then ?_
        refine WP.ret ?_
        refine EX.ret_then ?_
        refine EX.ret_blk ?_
        refine EX.ret_then ?_
        refine EX.ret_then ?_
        refine EX.ret_blk ?_
        refine EX.ret_then ?_
        have hn : (nth f.nights i).chk = false := by simp [Night.chk, isSpan]; (try simp at hc3); grind
        rw [show errW f.chk = 130 from by simp [errW, Fnd.chk, not_all (show i < f.nights.length by omega) hn]]
        exact EX.fin id (.inl rfl) rfl (.tmp rfl .nil) rfl (by simp [SV.res, El.res, At.res, keys]) trivial (by simp) (by simp)
      · try simp only [decide_eq_true_eq, decide_eq_false_iff_not, Bool.and_eq_true, Bool.or_eq_true, Bool.and_eq_false_iff, Bool.or_eq_false_iff, Bool.not_eq_true', Bool.not_eq_false', ne_eq, Decidable.not_not] at hc3
        refine WP.skip ?_
        refine EX.then ?_
        refine WP.region ?_
        refine WPl.v rfl (o_move rfl) ?_
        refine WPl.v rfl (o_fldp F75_0 rfl) ?_
        refine WPl.v rfl (o_fldp F23_1 rfl) ?_
        refine WPl.v rfl (o_ldp S3 rfl rfl rfl) ?_
        have hn : (nth f.nights i).chk = true := by simp [Night.chk, isSpan]; simpa using hc3
        have hnb := Night.bnds hn
        refine WPl.v rfl (o_add rfl rfl (by first | omega | (simp; omega)) (by first | omega | (simp; omega))) ?_
        refine WPl.v rfl (o_assign rfl) ?_
        refine WPl.nil ?_
        refine EX.blk ?_
        refine EX.then ?_
        refine WP.region ?_
        refine WPl.v rfl (o_add rfl rfl (by first | omega | (simp; omega)) (by first | omega | (simp; omega))) ?_
        refine WPl.v rfl (o_move rfl) ?_
        refine WPl.nil ?_
        have hn : (nth f.nights i).chk = true := by simp [Night.chk, isSpan]; simpa using hc3
        refine EX.again (i + 1) id (by exact ⟨by omega, by simp [allTo, hall, hn]⟩) (by omega) (LeR.of ⟨rfl, rfl, rfl, rfl, rfl, rfl, trivial⟩ ⟨(lx rfl), (lx rfl), trivial⟩ ⟨rfl, trivial⟩ rfl rfl rfl rfl rfl)
    · try simp only [decide_eq_true_eq, decide_eq_false_iff_not, Bool.and_eq_true, Bool.or_eq_true, Bool.and_eq_false_iff, Bool.or_eq_false_iff, Bool.not_eq_true', Bool.not_eq_false', ne_eq, Decidable.not_not] at hc2
      refine WP.exit ?_
      refine EX.exit_then ?_
      refine EX.exit_then ?_
      refine EX.exit_blk ?_
      refine EX.then ?_
      refine WP.seq ?_
      refine WP.seq ?_
      refine WP.region ?_
      refine WPl.v rfl (o_move rfl) ?_
      refine WPl.v rfl (o_fldp F31_0 rfl) ?_
      refine WPl.v rfl (o_fldp F28_0 rfl) ?_
      refine WPl.v rfl (o_fldp F25_1 rfl) ?_
      refine WPl.v rfl (o_fldp F23_0 rfl) ?_
      refine WPl.v rfl (o_ldp S3 rfl rfl rfl) ?_
      refine WPl.v rfl (o_gtr rfl rfl) ?_
      refine WPl.nil ?_
      refine EX.then ?_
      refine WP.cond rfl (fun hc4 => ?_) (fun hc4 => ?_)
      · try simp only [decide_eq_true_eq, decide_eq_false_iff_not, Bool.and_eq_true, Bool.or_eq_true, Bool.and_eq_false_iff, Bool.or_eq_false_iff, Bool.not_eq_true', Bool.not_eq_false', ne_eq, Decidable.not_not] at hc4
        refine WP.seq ?_
        refine WP.region ?_
        refine WPl.v rfl (o_assign rfl) ?_
        refine WPl.nil ?_
        refine EX.then ?_
        refine WP.ret ?_
        refine EX.ret_then ?_
        have hi2 : i = f.nights.length := by omega
        subst hi2
        rw [show errW f.chk = 130 from by simp only [errW, Fnd.chk]; simp [show ¬ (hiTo f.nights f.nights.length ≤ f.shop.tl) by omega]]
        exact EX.fin id (.inl rfl) rfl (.tmp rfl .nil) rfl (by simp [SV.res, El.res, At.res, keys]) trivial (by simp) (by simp)
      · try simp only [decide_eq_true_eq, decide_eq_false_iff_not, Bool.and_eq_true, Bool.or_eq_true, Bool.and_eq_false_iff, Bool.or_eq_false_iff, Bool.not_eq_true', Bool.not_eq_false', ne_eq, Decidable.not_not] at hc4
        refine WP.skip ?_
        refine EX.then ?_
        refine WP.seq ?_
        refine WP.region ?_
        refine WPl.v rfl (o_assign rfl) ?_
        refine WPl.nil ?_
        refine EX.then ?_
        refine WP.ret ?_
        have hi2 : i = f.nights.length := by omega
        subst hi2
        rw [allTo_len] at hall
        rw [show errW f.chk = 0 from by simp only [errW, Fnd.chk]; simp [hok, hall, show hiTo f.nights f.nights.length ≤ f.shop.tl by omega]]
        exact EX.fin id (.inl rfl) rfl (.tmp rfl .nil) rfl (by simp [SV.res, El.res, At.res, keys]) trivial (by simp) (by simp)
theorem w88 {f : Fnd} {r : Option Nat} : ∀ x ∈ ([.e (.a (.q 0))] : List SV), x.res (keys (α := Pred) [(0, PP (EWk r) (f))]) := by simp [SV.res, El.res, At.res, keys]
theorem r88 {f : Fnd} : SV.res (keys (α := Pred) []) (.t [.g [ai (f.pt0.pounds), ai (f.pt0.tl), ai (f.pt0.th), ai (f.pt0.al), ai (f.pt0.ah), ai (f.pt0.dl), ai (f.pt0.dh)], .g [ai (nth (left0 f.shop.pigs) 0), ai (nth (left0 f.shop.pigs) 1), ai (nth (left0 f.shop.pigs) 2), ai (nth (left0 f.shop.pigs) 3)]]) := by simp [SV.res, El.res, At.res, keys]
set_option maxHeartbeats 4000000 in
theorem c88 (f : Fnd) (r : Option Nat) (hl : f.shop.pigs.length ≤ 4) : Sig Try.prog 88 [.e (.a (.q 0))] [(0, PP (EWk r) (f))] (.t [.g [ai (f.pt0.pounds), ai (f.pt0.tl), ai (f.pt0.th), ai (f.pt0.al), ai (f.pt0.ah), ai (f.pt0.dl), ai (f.pt0.dh)], .g [ai (nth (left0 f.shop.pigs) 0), ai (nth (left0 f.shop.pigs) 1), ai (nth (left0 f.shop.pigs) 2), ai (nth (left0 f.shop.pigs) 3)]]) [] := by
  have hll := leftTo_len f.shop.pigs
  refine Sig.intro Try.func88 rfl 1 [(0, .e (.a (.q 0)))] rfl w88 rfl rfl fun I w => ?_
  refine WP.seq ?_
  refine WP.region ?_
  refine WPl.l 1 2 rfl rfl rfl (o_alloc Z105) ?_
  refine WPl.l 2 3 rfl rfl rfl (o_alloc Z110) ?_
  refine WPl.nil ?_
  refine EX.then ?_
  refine WP.seq ?_
  refine WP.seq ?_
  refine WP.region ?_
  refine WPl.v rfl (o_move rfl) ?_
  refine WPl.v rfl (o_nilq rfl (lx rfl)) ?_
  refine WPl.v rfl (o_fldq F100_0 rfl (lx rfl)) ?_
  refine WPl.v rfl (o_flde F31_0 rfl (lx rfl)) ?_
  refine WPl.v rfl (o_flde F28_4 rfl (lx rfl)) ?_
  refine WPl.x 3 4 rfl rfl rfl (o_ldex S26 rfl (lx rfl) (strS rfl)) ?_
  refine WPl.v rfl (o_lenq L26 rfl (lx rfl)) ?_
  refine WPl.v rfl (o_move rfl) ?_
  refine WPl.nil ?_
  refine EX.then ?_
  refine WP.block ?_
  refine WP.loop (Gh := Nat) (fun i => ⟨4, [(0, .e (.a (.q 0))), (2, .e (.a (.p 1 (0)))), (3, .e (.a (.p 2 (0)))), (11, .e (.a (.q 3))), (12, .i ((f.shop.pigs.length : Int))), (13, .i ((i : Int)))], [(0, PP (EWk r) (f)), (3, PL EPig (f.shop.pigs))], [(1, .blk [ai (0), ai (0), ai (0), ai (0), ai (0), ai (0), ai (0)] 105), (2, .blk [ai (nth (leftTo f.shop.pigs i) 0), ai (nth (leftTo f.shop.pigs i) 1), ai (nth (leftTo f.shop.pigs i) 2), ai (nth (leftTo f.shop.pigs i) 3)] 110)], [], []⟩) (fun i => i ≤ f.shop.pigs.length) (fun i => f.shop.pigs.length - i) (0) id ?_ (LeR.of ⟨rfl, rfl, rfl, rfl, rfl, rfl, trivial⟩ ⟨(lx rfl), (lx rfl), trivial⟩ ⟨rfl, rfl, trivial⟩ rfl rfl rfl rfl rfl) ?_
  · first | trivial | omega | (constructor <;> omega) | simp
  intro i hφ
  have hi : i ≤ f.shop.pigs.length := hφ
  refine WP.seq ?_
  refine WP.region ?_
  refine WPl.v rfl (o_lss rfl rfl) ?_
  refine WPl.nil ?_
  refine EX.then ?_
  refine WP.seq ?_
  refine WP.cond rfl (fun hc1 => ?_) (fun hc1 => ?_)
  · try simp only [decide_eq_true_eq, decide_eq_false_iff_not, Bool.and_eq_true, Bool.or_eq_true, Bool.and_eq_false_iff, Bool.or_eq_false_iff, Bool.not_eq_true', Bool.not_eq_false', ne_eq, Decidable.not_not] at hc1
    refine WP.skip ?_
    refine EX.then ?_
    refine WP.seq ?_
    refine WP.block ?_
    refine WP.seq ?_
    refine WP.region ?_
    refine WPl.v rfl (o_move rfl) ?_
    refine WPl.x 4 5 rfl rfl rfl (o_idx L26 rfl (lx rfl) rfl (by first | omega | (simp; omega)) (by first | omega | (simp; omega))) ?_
    refine WPl.v rfl (o_ldqg G78 rfl (lx rfl) (strG rfl) rfl rfl) ?_
    refine WPl.l 5 6 rfl rfl rfl (o_alloc Z78) ?_
    refine WPl.v rfl (o_assign rfl) ?_
    refine WPl.s1 (o_stag G78 rfl rfl rfl ⟨rfl, rfl, rfl, rfl, rfl, trivial⟩ rfl rfl) ?_
    refine WPl.nil ?_
    refine EX.then ?_
    refine WP.region ?_
    refine WPl.v rfl (o_move rfl) ?_
    refine WPl.v rfl (o_fldp F78_4 rfl) ?_
    refine WPl.v rfl (o_ldp S3 rfl rfl rfl) ?_
    refine WPl.v rfl (o_idxp A110 rfl rfl (by first | omega | (simp; omega)) (by first | omega | (simp; omega))) ?_
    refine WPl.s1 (o_stpn (n := 4) (l := leftTo f.shop.pigs i) (cs' := [ai (nth (lset (leftTo f.shop.pigs i) (i : Int) ((nth f.shop.pigs (i : Int)).many)) 0), ai (nth (lset (leftTo f.shop.pigs i) (i : Int) ((nth f.shop.pigs (i : Int)).many)) 1), ai (nth (lset (leftTo f.shop.pigs i) (i : Int) ((nth f.shop.pigs (i : Int)).many)) 2), ai (nth (lset (leftTo f.shop.pigs i) (i : Int) ((nth f.shop.pigs (i : Int)).many)) 3)]) S3 rfl rfl rfl rfl rfl (hll i) (by first | omega | (simp; omega)) (by first | omega | (simp; omega))) ?_
    refine WPl.nil ?_
    refine EX.blk ?_
    refine EX.then ?_
    refine WP.region ?_
    refine WPl.v rfl (o_add rfl rfl (by first | omega | (simp; omega)) (by first | omega | (simp; omega))) ?_
    refine WPl.v rfl (o_move rfl) ?_
    refine WPl.nil ?_
    refine EX.again (i + 1) id (by first | omega | (constructor <;> omega)) (by omega) (LeR.of ⟨rfl, rfl, rfl, rfl, rfl, rfl, trivial⟩ ⟨(lx rfl), (lx rfl), trivial⟩ ⟨rfl, rfl, trivial⟩ rfl rfl rfl rfl rfl)
  · try simp only [decide_eq_true_eq, decide_eq_false_iff_not, Bool.and_eq_true, Bool.or_eq_true, Bool.and_eq_false_iff, Bool.or_eq_false_iff, Bool.not_eq_true', Bool.not_eq_false', ne_eq, Decidable.not_not] at hc1
    refine WP.exit ?_
    refine EX.exit_then ?_
    refine EX.exit_then ?_
    refine EX.exit_blk ?_
    refine EX.then ?_
    refine WP.seq ?_
    refine WP.draw (nf := 4) [⟨[30, 31, 32, 33, 34, 35, 36, 37, 38, 39, 40, 41, 42, 43, 45], [], [], [], []⟩, ⟨[30, 31, 32, 33, 34, 35, 36, 37, 38, 39, 40, 41, 42, 43, 45], [], [], [], [0]⟩, ⟨[30, 31, 32, 33, 34, 35, 36, 37, 38, 39, 40, 41, 42, 43, 45], [], [], [], [0, 1]⟩, ⟨[30, 31, 32, 33, 34, 35, 36, 37, 38, 39, 40, 41, 42, 43, 45], [], [], [], [0, 1, 2]⟩, ⟨[30, 31, 32, 33, 34, 35, 36, 37, 38, 39, 40, 41, 42, 43, 45], [], [], [], [0, 1, 2, 3]⟩, ⟨[30, 31, 32, 33, 34, 35, 36, 37, 38, 39, 40, 41, 42, 43, 45], [], [], [], [0, 1, 2, 3, 4]⟩, ⟨[30, 31, 32, 33, 34, 35, 36, 37, 38, 39, 40, 41, 42, 43, 45], [], [], [], [0, 1, 2, 3, 4, 5]⟩, ⟨[23, 24, 25, 26, 27, 28, 29, 37, 38, 39, 40, 41, 42, 43, 45], [], [], [], []⟩, ⟨[23, 24, 25, 26, 27, 28, 29, 37, 38, 39, 40, 41, 42, 43, 45], [], [], [], [7]⟩, ⟨[23, 24, 25, 26, 27, 28, 29, 37, 38, 39, 40, 41, 42, 43, 45], [], [], [], [7, 8]⟩, ⟨[23, 24, 25, 26, 27, 28, 29, 37, 38, 39, 40, 41, 42, 43, 45], [], [], [], [7, 8, 9]⟩, ⟨[23, 24, 25, 26, 27, 28, 29, 37, 38, 39, 40, 41, 42, 43, 45], [], [], [], [7, 8, 9, 10]⟩, ⟨[23, 24, 25, 26, 27, 28, 29, 37, 38, 39, 40, 41, 42, 43, 45], [], [], [], [7, 8, 9, 10, 11]⟩, ⟨[23, 24, 25, 26, 27, 28, 29, 37, 38, 39, 40, 41, 42, 43, 45], [], [], [], [7, 8, 9, 10, 11, 12]⟩, ⟨[23, 24, 25, 26, 27, 28, 29, 30, 31, 32, 33, 34, 35, 36, 45], [], [], [], []⟩, ⟨[23, 24, 25, 26, 27, 28, 29, 30, 31, 32, 33, 34, 35, 36, 45], [], [], [], [14]⟩, ⟨[23, 24, 25, 26, 27, 28, 29, 30, 31, 32, 33, 34, 35, 36, 45], [], [], [], [14, 15]⟩, ⟨[23, 24, 25, 26, 27, 28, 29, 30, 31, 32, 33, 34, 35, 36, 45], [], [], [], [14, 15, 16]⟩, ⟨[23, 24, 25, 26, 27, 28, 29, 30, 31, 32, 33, 34, 35, 36, 45], [], [], [], [14, 15, 16, 17]⟩, ⟨[23, 24, 25, 26, 27, 28, 29, 30, 31, 32, 33, 34, 35, 36, 45], [], [], [], [14, 15, 16, 17, 18]⟩, ⟨[23, 24, 25, 26, 27, 28, 29, 30, 31, 32, 33, 34, 35, 36, 45], [], [], [], [14, 15, 16, 17, 18, 19]⟩, ⟨[45], [], [], [], [0, 1, 2, 3, 4, 5, 6, 7, 8, 9, 10, 11, 12, 13, 14, 15, 16, 17, 18, 19, 20]⟩, ⟨[23, 24, 25, 26, 27, 28, 29, 30, 31, 32, 33, 34, 35, 36, 37, 38, 39, 40, 41, 42, 43, 44], [1], [], [], []⟩, ⟨[45], [], [], [1], [0, 1, 2, 3, 4, 5, 6, 7, 8, 9, 10, 11, 12, 13, 14, 15, 16, 17, 18, 19, 20, 21]⟩, ⟨[], [], [], [2], [0, 1, 2, 3, 4, 5, 6, 7, 8, 9, 10, 11, 12, 13, 14, 15, 16, 17, 18, 19, 20, 21, 22, 23]⟩] (by kernel_rfl) (by kernel_rfl) ?_
    refine DRQ.v rfl rfl rfl (o_move rfl) ?_
    refine DRQ.v rfl rfl rfl (o_nilq rfl (lx rfl)) ?_
    refine DRQ.v rfl rfl rfl (o_fldq F100_0 rfl (lx rfl)) ?_
    refine DRQ.v rfl rfl rfl (o_flde F31_0 rfl (lx rfl)) ?_
    refine DRQ.v rfl rfl rfl (o_flde F28_0 rfl (lx rfl)) ?_
    refine DRQ.v rfl rfl rfl (o_flde F25_0 rfl (lx rfl)) ?_
    refine DRQ.v rfl rfl rfl (o_lde S3 rfl (lx rfl) (strI rfl)) ?_
    refine DRQ.v rfl rfl rfl (o_move rfl) ?_
    refine DRQ.v rfl rfl rfl (o_nilq rfl (lx rfl)) ?_
    refine DRQ.v rfl rfl rfl (o_fldq F100_0 rfl (lx rfl)) ?_
    refine DRQ.v rfl rfl rfl (o_flde F31_0 rfl (lx rfl)) ?_
    refine DRQ.v rfl rfl rfl (o_flde F28_0 rfl (lx rfl)) ?_
    refine DRQ.v rfl rfl rfl (o_flde F25_1 rfl (lx rfl)) ?_
    refine DRQ.v rfl rfl rfl (o_ldeg G23 rfl (lx rfl) (strG rfl) rfl rfl) ?_
    refine DRQ.v rfl rfl rfl (o_move rfl) ?_
    refine DRQ.v rfl rfl rfl (o_nilq rfl (lx rfl)) ?_
    refine DRQ.v rfl rfl rfl (o_fldq F100_0 rfl (lx rfl)) ?_
    refine DRQ.v rfl rfl rfl (o_flde F31_0 rfl (lx rfl)) ?_
    refine DRQ.v rfl rfl rfl (o_flde F28_0 rfl (lx rfl)) ?_
    refine DRQ.v rfl rfl rfl (o_flde F25_2 rfl (lx rfl)) ?_
    refine DRQ.v rfl rfl rfl (o_ldeg G23 rfl (lx rfl) (strG rfl) rfl rfl) ?_
    refine DRQ.v rfl rfl rfl (o_build B105 rfl ⟨rfl, trivial⟩ rfl rfl) ?_
    refine DRQ.v rfl rfl rfl (o_ldpa G110 rfl rfl rfl) ?_
    refine DRQ.s 1 rfl rfl rfl (o_stag G105 rfl rfl rfl ⟨rfl, rfl, rfl, rfl, rfl, rfl, rfl, trivial⟩ rfl rfl) ?_
    refine DRQ.s 2 rfl rfl rfl (o_stag G110 rfl rfl rfl ⟨rfl, rfl, rfl, rfl, trivial⟩ rfl rfl) ?_
    refine DRQ.nil' ?_
    refine EX.then ?_
    refine WP.ret ?_
    have he : i = f.shop.pigs.length := by omega
    subst he
    exact EX.fin id (.inl rfl) rfl (.cellg G105 rfl rfl rfl (.cellg G110 rfl rfl rfl (.nil))) rfl (by simp [SV.res, El.res, At.res, keys]) trivial (by simp) (by simp)
theorem w129 {f : Fnd} {r : Option Nat} {p : Pt} {l : List Int} : ∀ x ∈ ([.e (.a (.q 0)), .e (.g [ai (p.pounds), ai (p.tl), ai (p.th), ai (p.al), ai (p.ah), ai (p.dl), ai (p.dh)]), .e (.a (.q 1))] : List SV), x.res (keys (α := Pred) [(0, PP (EWk r) (f)), (1, PL EP.int (l))]) := by simp [SV.res, El.res, At.res, keys]
theorem r129 {f : Fnd} {p : Pt} {l : List Int} : SV.res (keys (α := Pred) []) (.e (.g [ai ((p.addL f.shop.pigs l).pounds), ai ((p.addL f.shop.pigs l).tl), ai ((p.addL f.shop.pigs l).th), ai ((p.addL f.shop.pigs l).al), ai ((p.addL f.shop.pigs l).ah), ai ((p.addL f.shop.pigs l).dl), ai ((p.addL f.shop.pigs l).dh)])) := by simp [SV.res, El.res, At.res, keys]
set_option maxHeartbeats 4000000 in
theorem c129 (f : Fnd) (r : Option Nat) (p : Pt) (l : List Int) (m : Int) (hp : PtB p m) (hm : m ≤ 100000000) (hg : PigsOK f.shop.pigs) (hl : l.length ≤ f.shop.pigs.length) (hb : bnd l 1000) : Sig Try.prog 129 [.e (.a (.q 0)), .e (.g [ai (p.pounds), ai (p.tl), ai (p.th), ai (p.al), ai (p.ah), ai (p.dl), ai (p.dh)]), .e (.a (.q 1))] [(0, PP (EWk r) (f)), (1, PL EP.int (l))] (.e (.g [ai ((p.addL f.shop.pigs l).pounds), ai ((p.addL f.shop.pigs l).tl), ai ((p.addL f.shop.pigs l).th), ai ((p.addL f.shop.pigs l).al), ai ((p.addL f.shop.pigs l).ah), ai ((p.addL f.shop.pigs l).dl), ai ((p.addL f.shop.pigs l).dh)])) [] := by
  have hab := fun i hi => addTo_bnd hp hg hl hb (i := i) hi
  have hg4 := hg.2
  have hp0 := hp
  unfold PtB at hp0
  refine Sig.intro Try.func129 rfl 2 [(0, .e (.a (.q 0))), (1, .e (.g [ai (p.pounds), ai (p.tl), ai (p.th), ai (p.al), ai (p.ah), ai (p.dl), ai (p.dh)])), (2, .e (.a (.q 1)))] rfl w129 rfl rfl fun I w => ?_
  refine WP.seq ?_
  refine WP.region ?_
  refine WPl.l 2 3 rfl rfl rfl (o_boxg rfl) ?_
  refine WPl.l 3 4 rfl rfl rfl (o_alloc Z105) ?_
  refine WPl.nil ?_
  refine EX.then ?_
  refine WP.seq ?_
  refine WP.seq ?_
  refine WP.region ?_
  refine WPl.v rfl (o_move rfl) ?_
  refine WPl.v rfl (o_lenq L44 rfl (lx rfl)) ?_
  refine WPl.v rfl (o_move rfl) ?_
  refine WPl.nil ?_
  refine EX.then ?_
  refine WP.block ?_
  refine WP.loop (Gh := Nat) (fun i => ⟨4, [(0, .e (.a (.q 0))), (4, .e (.a (.p 2 (0)))), (6, .e (.a (.p 3 (0)))), (10, .e (.a (.q 1))), (11, .i ((l.length : Int))), (12, .i ((i : Int)))], [(0, PP (EWk r) (f)), (1, PL EP.int (l))], [(2, .blk [ai ((p.addTo f.shop.pigs l i).pounds), ai ((p.addTo f.shop.pigs l i).tl), ai ((p.addTo f.shop.pigs l i).th), ai ((p.addTo f.shop.pigs l i).al), ai ((p.addTo f.shop.pigs l i).ah), ai ((p.addTo f.shop.pigs l i).dl), ai ((p.addTo f.shop.pigs l i).dh)] 105), (3, .blk [ai (0), ai (0), ai (0), ai (0), ai (0), ai (0), ai (0)] 105)], [], []⟩) (fun i => i ≤ l.length) (fun i => l.length - i) (0) id ?_ (LeR.of ⟨rfl, rfl, rfl, rfl, rfl, rfl, trivial⟩ ⟨(lx rfl), (lx rfl), trivial⟩ ⟨(congrArg (fun z => some (Ent.blk z 105)) (List.cons_eq_cons.2 ⟨(congrArg (fun z => ai z) (show (p.pounds) = ((fun i => (p.addTo f.shop.pigs l i).pounds) 0) from by simp [Pt.addTo, sumTo])), (List.cons_eq_cons.2 ⟨(congrArg (fun z => ai z) (show (p.tl) = ((fun i => (p.addTo f.shop.pigs l i).tl) 0) from by simp [Pt.addTo, sumTo])), (List.cons_eq_cons.2 ⟨(congrArg (fun z => ai z) (show (p.th) = ((fun i => (p.addTo f.shop.pigs l i).th) 0) from by simp [Pt.addTo, sumTo])), (List.cons_eq_cons.2 ⟨(congrArg (fun z => ai z) (show (p.al) = ((fun i => (p.addTo f.shop.pigs l i).al) 0) from by simp [Pt.addTo, sumTo])), (List.cons_eq_cons.2 ⟨(congrArg (fun z => ai z) (show (p.ah) = ((fun i => (p.addTo f.shop.pigs l i).ah) 0) from by simp [Pt.addTo, sumTo])), (List.cons_eq_cons.2 ⟨(Eq.refl (ai (p.dl))), (List.cons_eq_cons.2 ⟨(Eq.refl (ai (p.dh))), (Eq.refl [])⟩)⟩)⟩)⟩)⟩)⟩)⟩)), rfl, trivial⟩ rfl rfl rfl rfl rfl) ?_
  · first | trivial | omega | (constructor <;> omega) | simp
  intro i hφ
  have hi : i ≤ l.length := hφ
  refine WP.seq ?_
  refine WP.region ?_
  refine WPl.v rfl (o_lss rfl rfl) ?_
  refine WPl.nil ?_
  refine EX.then ?_
  refine WP.seq ?_
  refine WP.cond rfl (fun hc1 => ?_) (fun hc1 => ?_)
  · try simp only [decide_eq_true_eq, decide_eq_false_iff_not, Bool.and_eq_true, Bool.or_eq_true, Bool.and_eq_false_iff, Bool.or_eq_false_iff, Bool.not_eq_true', Bool.not_eq_false', ne_eq, Decidable.not_not] at hc1
    refine WP.skip ?_
    refine EX.then ?_
    refine WP.seq ?_
    refine WP.block ?_
    refine WP.seq ?_
    refine WP.region ?_
    refine WPl.v rfl (o_move rfl) ?_
    refine WPl.x 4 5 rfl rfl rfl (o_idx L44 rfl (lx rfl) rfl (by first | omega | (simp; omega)) (by first | omega | (simp; omega))) ?_
    have h0 := hab i (by omega)
    unfold PtB at h0
    have h1 := hb i (by omega)
    have h2 := Pig.bnds (hg.at (show i < f.shop.pigs.length by omega))
    have h3 := mulb (A := 1000) (B := 40) h1.1 h1.2 (show 0 ≤ (nth f.shop.pigs i).pounds by omega) (by omega)
    have h4 := mulb (A := 1000) (B := 40) h1.1 h1.2 (show 0 ≤ (nth f.shop.pigs i).tin by omega) (by omega)
    have h5 := mulb (A := 1000) (B := 40) h1.1 h1.2 (show 0 ≤ (nth f.shop.pigs i).ant by omega) (by omega)
    refine WPl.v rfl (o_ldq S3 rfl (lx rfl) intc) ?_
    refine WPl.v rfl (o_assign rfl) ?_
    refine WPl.v rfl (o_assign rfl) ?_
    refine WPl.nil ?_
    refine EX.then ?_
    refine WP.seq ?_
    refine WP.region ?_
    refine WPl.v rfl (o_move rfl) ?_
    refine WPl.v rfl (o_nilq rfl (lx rfl)) ?_
    refine WPl.v rfl (o_fldq F100_0 rfl (lx rfl)) ?_
    refine WPl.v rfl (o_flde F31_0 rfl (lx rfl)) ?_
    refine WPl.v rfl (o_flde F28_4 rfl (lx rfl)) ?_
    refine WPl.x 5 6 rfl rfl rfl (o_ldex S26 rfl (lx rfl) (strS rfl)) ?_
    refine WPl.v rfl (o_move rfl) ?_
    refine WPl.x 6 7 rfl rfl rfl (o_idx L26 rfl (lx rfl) rfl (by first | omega | (simp; omega)) (by first | omega | (simp; omega))) ?_
    refine WPl.v rfl (o_ldqg G78 rfl (lx rfl) (strG rfl) rfl rfl) ?_
    refine WPl.l 7 8 rfl rfl rfl (o_alloc Z78) ?_
    refine WPl.s1 (o_stag G78 rfl rfl rfl ⟨rfl, rfl, rfl, rfl, rfl, trivial⟩ rfl rfl) ?_
    refine WPl.nil ?_
    refine EX.then ?_
    refine WP.seq ?_
    refine WP.region ?_
    refine WPl.v rfl (o_fldp F105_0 rfl) ?_
    refine WPl.v rfl (o_ldp S3 rfl rfl rfl) ?_
    refine WPl.v rfl (o_move rfl) ?_
    refine WPl.v rfl (o_fldp F78_0 rfl) ?_
    refine WPl.v rfl (o_ldp S3 rfl rfl rfl) ?_
    refine WPl.v rfl (o_mul rfl rfl (by first | omega | (simp; omega)) (by first | omega | (simp; omega))) ?_
    refine WPl.v rfl (o_add rfl rfl (by first | omega | (simp; omega)) (by first | omega | (simp; omega))) ?_
    refine WPl.v rfl (o_fldp F105_0 rfl) ?_
    refine WPl.s1 (o_sta S3 rfl rfl rfl rfl rfl) ?_
    refine WPl.nil ?_
    refine EX.then ?_
    refine WP.seq ?_
    refine WP.region ?_
    refine WPl.v rfl (o_fldp F105_1 rfl) ?_
    refine WPl.v rfl (o_ldpg G23 rfl rfl rfl) ?_
    refine WPl.v rfl (o_move rfl) ?_
    refine WPl.v rfl (o_fldp F78_1 rfl) ?_
    refine WPl.v rfl (o_ldp S3 rfl rfl rfl) ?_
    refine WPl.v rfl (o_mul rfl rfl (by first | omega | (simp; omega)) (by first | omega | (simp; omega))) ?_
    refine WPl.cs 8 rfl rfl rfl rfl (o_sig 8 id (c137 ((p.addTo f.shop.pigs l i).tl) ((p.addTo f.shop.pigs l i).th) ((nth l (i : Int)) * ((nth f.shop.pigs (i : Int)).tin)) (by omega) (by omega) (by omega)) e137 rfl rfl rfl w137 trivial r137) ?_
    refine WPl.v rfl (o_fldp F105_1 rfl) ?_
    refine WPl.s1 (o_stag G23 rfl rfl rfl ⟨rfl, rfl, trivial⟩ rfl rfl) ?_
    refine WPl.nil ?_
    refine EX.then ?_
    refine WP.region ?_
    refine WPl.v rfl (o_fldp F105_2 rfl) ?_
    refine WPl.v rfl (o_ldpg G23 rfl rfl rfl) ?_
    refine WPl.v rfl (o_move rfl) ?_
    refine WPl.v rfl (o_fldp F78_2 rfl) ?_
    refine WPl.v rfl (o_ldp S3 rfl rfl rfl) ?_
    refine WPl.v rfl (o_mul rfl rfl (by first | omega | (simp; omega)) (by first | omega | (simp; omega))) ?_
    refine WPl.cs 8 rfl rfl rfl rfl (o_sig 8 id (c137 ((p.addTo f.shop.pigs l i).al) ((p.addTo f.shop.pigs l i).ah) ((nth l (i : Int)) * ((nth f.shop.pigs (i : Int)).ant)) (by omega) (by omega) (by omega)) e137 rfl rfl rfl w137 trivial r137) ?_
    refine WPl.v rfl (o_fldp F105_2 rfl) ?_
    refine WPl.s1 (o_stag G23 rfl rfl rfl ⟨rfl, rfl, trivial⟩ rfl rfl) ?_
    refine WPl.nil ?_
    refine EX.blk ?_
    refine EX.then ?_
    refine WP.region ?_
    refine WPl.v rfl (o_add rfl rfl (by first | omega | (simp; omega)) (by first | omega | (simp; omega))) ?_
    refine WPl.v rfl (o_move rfl) ?_
    refine WPl.nil ?_
    refine EX.again (i + 1) id (by first | omega | (constructor <;> omega)) (by omega) (LeR.of ⟨rfl, rfl, rfl, rfl, rfl, rfl, trivial⟩ ⟨(lx rfl), (lx rfl), trivial⟩ ⟨(congrArg (fun z => some (Ent.blk z 105)) (List.cons_eq_cons.2 ⟨(congrArg (fun z => ai z) (show (((p.addTo f.shop.pigs l i).pounds) + ((nth l (i : Int)) * ((nth f.shop.pigs (i : Int)).pounds))) = ((fun i => (p.addTo f.shop.pigs l i).pounds) (i + 1)) from by simp only [Pt.addTo, sumTo]; omega)), (List.cons_eq_cons.2 ⟨(congrArg (fun z => ai z) (show (((p.addTo f.shop.pigs l i).tl) + ((nth l (i : Int)) * ((nth f.shop.pigs (i : Int)).tin))) = ((fun i => (p.addTo f.shop.pigs l i).tl) (i + 1)) from by simp only [Pt.addTo, sumTo]; omega)), (List.cons_eq_cons.2 ⟨(congrArg (fun z => ai z) (show (((p.addTo f.shop.pigs l i).th) + ((nth l (i : Int)) * ((nth f.shop.pigs (i : Int)).tin))) = ((fun i => (p.addTo f.shop.pigs l i).th) (i + 1)) from by simp only [Pt.addTo, sumTo]; omega)), (List.cons_eq_cons.2 ⟨(congrArg (fun z => ai z) (show (((p.addTo f.shop.pigs l i).al) + ((nth l (i : Int)) * ((nth f.shop.pigs (i : Int)).ant))) = ((fun i => (p.addTo f.shop.pigs l i).al) (i + 1)) from by simp only [Pt.addTo, sumTo]; omega)), (List.cons_eq_cons.2 ⟨(congrArg (fun z => ai z) (show (((p.addTo f.shop.pigs l i).ah) + ((nth l (i : Int)) * ((nth f.shop.pigs (i : Int)).ant))) = ((fun i => (p.addTo f.shop.pigs l i).ah) (i + 1)) from by simp only [Pt.addTo, sumTo]; omega)), (List.cons_eq_cons.2 ⟨(Eq.refl (ai ((p.addTo f.shop.pigs l i).dl))), (List.cons_eq_cons.2 ⟨(Eq.refl (ai ((p.addTo f.shop.pigs l i).dh))), (Eq.refl [])⟩)⟩)⟩)⟩)⟩)⟩)⟩)), rfl, trivial⟩ rfl rfl rfl rfl rfl)
  · try simp only [decide_eq_true_eq, decide_eq_false_iff_not, Bool.and_eq_true, Bool.or_eq_true, Bool.and_eq_false_iff, Bool.or_eq_false_iff, Bool.not_eq_true', Bool.not_eq_false', ne_eq, Decidable.not_not] at hc1
    refine WP.exit ?_
    refine EX.exit_then ?_
    refine EX.exit_then ?_
    refine EX.exit_blk ?_
    refine EX.then ?_
    refine WP.seq ?_
    refine WP.region ?_
    refine WPl.v rfl (o_ldpa G105 rfl rfl rfl) ?_
    refine WPl.s1 (o_stag G105 rfl rfl rfl ⟨rfl, rfl, rfl, rfl, rfl, rfl, rfl, trivial⟩ rfl rfl) ?_
    refine WPl.nil ?_
    refine EX.then ?_
    refine WP.ret ?_
    have he : i = l.length := by omega
    subst he
    exact EX.fin id (.inl rfl) rfl (.cellg G105 rfl rfl rfl (.nil)) rfl (by simp [SV.res, El.res, At.res, keys]) trivial (by simp) (by simp)
theorem w130 {p : Pt} {n : Night} : ∀ x ∈ ([.e (.g [ai (p.pounds), ai (p.tl), ai (p.th), ai (p.al), ai (p.ah), ai (p.dl), ai (p.dh)]), .e (.g [ai (n.lo), ai (n.hi), ai (n.test)])] : List SV), x.res (keys (α := Pred) []) := by simp [SV.res, El.res, At.res, keys]
theorem r130 {p : Pt} {n : Night} : SV.res (keys (α := Pred) []) (.e (.g [ai ((p.lose n).pounds), ai ((p.lose n).tl), ai ((p.lose n).th), ai ((p.lose n).al), ai ((p.lose n).ah), ai ((p.lose n).dl), ai ((p.lose n).dh)])) := by simp [SV.res, El.res, At.res, keys]
set_option maxHeartbeats 4000000 in
theorem c130 (p : Pt) (n : Night) (m : Int) (hp : PtB p m) (hm : m ≤ 100000000) (hn : n.chk = true) : Sig Try.prog 130 [.e (.g [ai (p.pounds), ai (p.tl), ai (p.th), ai (p.al), ai (p.ah), ai (p.dl), ai (p.dh)]), .e (.g [ai (n.lo), ai (n.hi), ai (n.test)])] [] (.e (.g [ai ((p.lose n).pounds), ai ((p.lose n).tl), ai ((p.lose n).th), ai ((p.lose n).al), ai ((p.lose n).ah), ai ((p.lose n).dl), ai ((p.lose n).dh)])) [] := by
  unfold PtB at hp
  have hnb := Night.bnds hn
  refine Sig.intro Try.func130 rfl 0 [(0, .e (.g [ai (p.pounds), ai (p.tl), ai (p.th), ai (p.al), ai (p.ah), ai (p.dl), ai (p.dh)])), (1, .e (.g [ai (n.lo), ai (n.hi), ai (n.test)]))] rfl w130 rfl rfl fun I w => ?_
  refine WP.seq ?_
  refine WP.region ?_
  refine WPl.l 0 1 rfl rfl rfl (o_boxg rfl) ?_
  refine WPl.l 1 2 rfl rfl rfl (o_boxg rfl) ?_
  refine WPl.l 2 3 rfl rfl rfl (o_alloc Z105) ?_
  refine WPl.nil ?_
  refine EX.then ?_
  refine WP.seq ?_
  refine WP.region ?_
  refine WPl.v rfl (o_fldp F105_3 rfl) ?_
  refine WPl.v rfl (o_fldp F23_0 rfl) ?_
  refine WPl.v rfl (o_ldp S3 rfl rfl rfl) ?_
  refine WPl.v rfl (o_fldp F75_0 rfl) ?_
  refine WPl.v rfl (o_fldp F23_0 rfl) ?_
  refine WPl.v rfl (o_ldp S3 rfl rfl rfl) ?_
  refine WPl.v rfl (o_add rfl rfl (by first | omega | (simp; omega)) (by first | omega | (simp; omega))) ?_
  refine WPl.v rfl (o_fldp F105_3 rfl) ?_
  refine WPl.v rfl (o_fldp F23_1 rfl) ?_
  refine WPl.v rfl (o_ldp S3 rfl rfl rfl) ?_
  refine WPl.v rfl (o_fldp F75_0 rfl) ?_
  refine WPl.v rfl (o_fldp F23_1 rfl) ?_
  refine WPl.v rfl (o_ldp S3 rfl rfl rfl) ?_
  refine WPl.v rfl (o_add rfl rfl (by first | omega | (simp; omega)) (by first | omega | (simp; omega))) ?_
  refine WPl.v rfl (o_build B23 rfl ⟨rfl, rfl, trivial⟩ rfl rfl) ?_
  refine WPl.v rfl (o_fldp F105_3 rfl) ?_
  refine WPl.s1 (o_stag G23 rfl rfl rfl ⟨rfl, rfl, trivial⟩ rfl rfl) ?_
  refine WPl.nil ?_
  refine EX.then ?_
  refine WP.seq ?_
  refine WP.region ?_
  refine WPl.v rfl (o_ldpa G105 rfl rfl rfl) ?_
  refine WPl.s1 (o_stag G105 rfl rfl rfl ⟨rfl, rfl, rfl, rfl, rfl, rfl, rfl, trivial⟩ rfl rfl) ?_
  refine WPl.nil ?_
  refine EX.then ?_
  refine WP.ret ?_
  exact EX.fin id (.inl rfl) rfl (.cellg G105 rfl rfl rfl (.nil)) rfl r130 trivial (by simp) (by simp)
theorem w127 {f : Fnd} {r : Option Nat} {p : Pt} : ∀ x ∈ ([.e (.a (.q 0)), .e (.g [ai (p.pounds), ai (p.tl), ai (p.th), ai (p.al), ai (p.ah), ai (p.dl), ai (p.dh)])] : List SV), x.res (keys (α := Pred) [(0, PP (EWk r) (f))]) := by simp [SV.res, El.res, At.res, keys]
theorem r127 {f : Fnd} {p : Pt} : SV.res (keys (α := Pred) []) (.b (f.fitsP p)) := by simp [SV.res, El.res, At.res, keys]
set_option maxHeartbeats 4000000 in
theorem c127 (f : Fnd) (r : Option Nat) (p : Pt) (m : Int) (hp : PtB p m) (hm : m ≤ 100000000) : Sig Try.prog 127 [.e (.a (.q 0)), .e (.g [ai (p.pounds), ai (p.tl), ai (p.th), ai (p.al), ai (p.ah), ai (p.dl), ai (p.dh)])] [(0, PP (EWk r) (f))] (.b (f.fitsP p)) [] := by
  unfold PtB at hp
  refine Sig.intro Try.func127 rfl 1 [(0, .e (.a (.q 0))), (1, .e (.g [ai (p.pounds), ai (p.tl), ai (p.th), ai (p.al), ai (p.ah), ai (p.dl), ai (p.dh)]))] rfl w127 rfl rfl fun I w => ?_
  refine WP.seq ?_
  refine WP.region ?_
  refine WPl.l 1 2 rfl rfl rfl (o_boxg rfl) ?_
  refine WPl.v rfl (o_assign rfl) ?_
  refine WPl.nil ?_
  refine EX.then ?_
  refine WP.seq ?_
  refine WP.draw (nf := 2) [⟨[7, 8, 9, 11, 12, 13, 14, 15, 16], [], [], [], []⟩, ⟨[7, 8, 9, 11, 12, 13, 14, 15, 16], [], [], [], [0]⟩, ⟨[5, 6, 11, 12, 13, 14, 15, 16], [], [], [], []⟩, ⟨[5, 6, 11, 12, 13, 14, 15, 16], [], [], [], [2]⟩, ⟨[5, 6, 11, 12, 13, 14, 15, 16], [], [], [], [2, 3]⟩, ⟨[11, 12, 13, 14, 15, 16], [], [], [], [0, 1, 2, 3, 4]⟩, ⟨[5, 6, 7, 8, 9, 10], [], [], [], []⟩, ⟨[5, 6, 7, 8, 9, 10], [], [], [], [6]⟩, ⟨[5, 6, 7, 8, 9, 10], [], [], [], [6, 7]⟩, ⟨[5, 6, 7, 8, 9, 10], [], [], [], [6, 7, 8]⟩, ⟨[5, 6, 7, 8, 9, 10], [], [], [], [6, 7, 8, 9]⟩, ⟨[5, 6, 7, 8, 9, 10], [], [], [], [6, 7, 8, 9, 10]⟩, ⟨[], [], [], [], [0, 1, 2, 3, 4, 5, 6, 7, 8, 9, 10, 11]⟩, ⟨[], [], [], [], [0, 1, 2, 3, 4, 5, 6, 7, 8, 9, 10, 11, 12]⟩] (by kernel_rfl) (by kernel_rfl) ?_
  refine DRQ.v rfl rfl rfl (o_fldp F105_0 rfl) ?_
  refine DRQ.v rfl rfl rfl (o_ldp S3 rfl rfl rfl) ?_
  refine DRQ.v rfl rfl rfl (o_fldp F105_3 rfl) ?_
  refine DRQ.v rfl rfl rfl (o_fldp F23_0 rfl) ?_
  refine DRQ.v rfl rfl rfl (o_ldp S3 rfl rfl rfl) ?_
  refine DRQ.v rfl rfl rfl (o_sub rfl rfl (by first | omega | (simp; omega)) (by first | omega | (simp; omega))) ?_
  refine DRQ.v rfl rfl rfl (o_move rfl) ?_
  refine DRQ.v rfl rfl rfl (o_nilq rfl (lx rfl)) ?_
  refine DRQ.v rfl rfl rfl (o_fldq F100_0 rfl (lx rfl)) ?_
  refine DRQ.v rfl rfl rfl (o_flde F31_0 rfl (lx rfl)) ?_
  refine DRQ.v rfl rfl rfl (o_flde F28_1 rfl (lx rfl)) ?_
  refine DRQ.v rfl rfl rfl (o_lde S3 rfl (lx rfl) (strI rfl)) ?_
  refine DRQ.v rfl rfl rfl (o_leq rfl rfl) ?_
  refine DRQ.v rfl rfl rfl (o_assign rfl) ?_
  refine DRQ.nil' ?_
  refine EX.then ?_
  refine WP.ret ?_
  exact EX.fin id (.inl rfl) rfl (.tmp rfl .nil) rfl r127 trivial (by simp) (by simp)
theorem w135 {f : Fnd} {r : Option Nat} {p : Pt} : ∀ x ∈ ([.e (.a (.q 0)), .e (.g [ai (p.pounds), ai (p.tl), ai (p.th), ai (p.al), ai (p.ah), ai (p.dl), ai (p.dh)])] : List SV), x.res (keys (α := Pred) [(0, PP (EWk r) (f))]) := by simp [SV.res, El.res, At.res, keys]
theorem r135 {f : Fnd} {p : Pt} : SV.res (keys (α := Pred) []) (.b (f.sureP p)) := by simp [SV.res, El.res, At.res, keys]
set_option maxHeartbeats 4000000 in
theorem c135 (f : Fnd) (r : Option Nat) (p : Pt) (m : Int) (hp : PtB p m) (hm : m ≤ 100000000) (hs : f.shop.chk = true) : Sig Try.prog 135 [.e (.a (.q 0)), .e (.g [ai (p.pounds), ai (p.tl), ai (p.th), ai (p.al), ai (p.ah), ai (p.dl), ai (p.dh)])] [(0, PP (EWk r) (f))] (.b (f.sureP p)) [] := by
  unfold PtB at hp
  have htb := tl_bnd hs
  have m0 := mulB (a := p.pounds - p.dh) (A := 200000000) (b := f.shop.tpl) (B := 1000) (by omega) (by omega) (by omega) (by omega) (by omega)
  have m1 := mulB (a := p.pounds - p.dl) (A := 200000000) (b := f.shop.tph) (B := 1000) (by omega) (by omega) (by omega) (by omega) (by omega)
  have m2 := mulB (a := p.pounds - p.dl) (A := 200000000) (b := f.shop.apl) (B := 1000) (by omega) (by omega) (by omega) (by omega) (by omega)
  have m3 := mulB (a := p.pounds - p.dh) (A := 200000000) (b := f.shop.aph) (B := 1000) (by omega) (by omega) (by omega) (by omega) (by omega)
  refine Sig.intro Try.func135 rfl 1 [(0, .e (.a (.q 0))), (1, .e (.g [ai (p.pounds), ai (p.tl), ai (p.th), ai (p.al), ai (p.ah), ai (p.dl), ai (p.dh)]))] rfl w135 rfl rfl fun I w => ?_
  refine WP.seq ?_
  refine WP.region ?_
  refine WPl.l 1 2 rfl rfl rfl (o_boxg rfl) ?_
  refine WPl.v rfl (o_assign rfl) ?_
  refine WPl.nil ?_
  refine EX.then ?_
  refine WP.seq ?_
  refine WP.draw (nf := 4) [⟨[15, 16, 17, 18, 19, 20, 5, 6], [2, 3], [], [], []⟩, ⟨[15, 16, 17, 18, 19, 20, 5, 6], [2, 3], [], [], [0]⟩, ⟨[15, 16, 17, 18, 19, 20, 5, 6], [2, 3], [], [], [0, 1]⟩, ⟨[15, 16, 17, 18, 19, 20, 5, 6], [2, 3], [], [], [0, 1, 2]⟩, ⟨[15, 16, 17, 18, 19, 20, 5, 6], [2, 3], [], [], [0, 1, 2, 3]⟩, ⟨[15, 16, 17, 18, 19, 20, 5, 6], [2, 3], [], [], [0, 1, 2, 3, 4]⟩, ⟨[9, 10, 11, 12, 13, 14, 5, 6], [2, 3], [], [], []⟩, ⟨[9, 10, 11, 12, 13, 14, 5, 6], [2, 3], [], [], [6]⟩, ⟨[9, 10, 11, 12, 13, 14, 5, 6], [2, 3], [], [], [6, 7]⟩, ⟨[9, 10, 11, 12, 13, 14, 5, 6], [2, 3], [], [], [6, 7, 8]⟩, ⟨[9, 10, 11, 12, 13, 14, 5, 6], [2, 3], [], [], [6, 7, 8, 9]⟩, ⟨[9, 10, 11, 12, 13, 14, 5, 6], [2, 3], [], [], [6, 7, 8, 9, 10]⟩, ⟨[9, 10, 11, 12, 13, 14, 15, 16, 17, 18, 19, 20, 6], [3], [2], [2], []⟩, ⟨[9, 10, 11, 12, 13, 14, 15, 16, 17, 18, 19, 20, 5], [2], [3], [3], []⟩, ⟨[15, 16, 17, 18, 19, 20], [], [], [2], [0, 1, 2, 3, 4, 5, 12, 13]⟩, ⟨[], [], [], [3], [0, 1, 2, 3, 4, 5, 6, 7, 8, 9, 10, 11, 12, 13, 14]⟩] (by kernel_rfl) (by kernel_rfl) ?_
  refine DRQ.v rfl rfl rfl (o_move rfl) ?_
  refine DRQ.v rfl rfl rfl (o_nilq rfl (lx rfl)) ?_
  refine DRQ.v rfl rfl rfl (o_fldq F100_0 rfl (lx rfl)) ?_
  refine DRQ.v rfl rfl rfl (o_flde F31_0 rfl (lx rfl)) ?_
  refine DRQ.v rfl rfl rfl (o_flde F28_2 rfl (lx rfl)) ?_
  refine DRQ.v rfl rfl rfl (o_ldeg G23 rfl (lx rfl) (strG rfl) rfl rfl) ?_
  refine DRQ.v rfl rfl rfl (o_move rfl) ?_
  refine DRQ.v rfl rfl rfl (o_nilq rfl (lx rfl)) ?_
  refine DRQ.v rfl rfl rfl (o_fldq F100_0 rfl (lx rfl)) ?_
  refine DRQ.v rfl rfl rfl (o_flde F31_0 rfl (lx rfl)) ?_
  refine DRQ.v rfl rfl rfl (o_flde F28_3 rfl (lx rfl)) ?_
  refine DRQ.v rfl rfl rfl (o_ldeg G23 rfl (lx rfl) (strG rfl) rfl rfl) ?_
  refine DRQ.l 2 rfl rfl rfl rfl (o_alloc Z23) ?_
  refine DRQ.l 3 rfl rfl rfl rfl (o_alloc Z23) ?_
  refine DRQ.s 2 rfl rfl rfl (o_stag G23 rfl rfl rfl ⟨rfl, rfl, trivial⟩ rfl rfl) ?_
  refine DRQ.s 3 rfl rfl rfl (o_stag G23 rfl rfl rfl ⟨rfl, rfl, trivial⟩ rfl rfl) ?_
  refine DRQ.nil' ?_
  refine EX.then ?_
  refine WP.seq ?_
  refine WP.draw (nf := 4) [⟨[23, 24, 25, 27, 28, 29, 30, 31, 32], [], [], [], []⟩, ⟨[23, 24, 25, 27, 28, 29, 30, 31, 32], [], [], [], [0]⟩, ⟨[21, 22, 27, 28, 29, 30, 31, 32], [], [], [], []⟩, ⟨[21, 22, 27, 28, 29, 30, 31, 32], [], [], [], [2]⟩, ⟨[21, 22, 27, 28, 29, 30, 31, 32], [], [], [], [2, 3]⟩, ⟨[27, 28, 29, 30, 31, 32], [], [], [], [0, 1, 2, 3, 4]⟩, ⟨[21, 22, 23, 24, 25, 26, 29, 30, 31, 7], [], [], [], []⟩, ⟨[21, 22, 23, 24, 25, 26, 29, 30, 31, 7], [], [], [], [6]⟩, ⟨[21, 22, 23, 24, 25, 26, 27, 28, 7], [], [], [], []⟩, ⟨[21, 22, 23, 24, 25, 26, 27, 28, 7], [], [], [], [8]⟩, ⟨[21, 22, 23, 24, 25, 26, 27, 28, 7], [], [], [], [8, 9]⟩, ⟨[21, 22, 23, 24, 25, 26, 7], [], [], [], [6, 7, 8, 9, 10]⟩, ⟨[27, 28, 29, 30, 31, 32], [], [], [], [0, 1, 2, 3, 4, 5]⟩, ⟨[], [], [], [], [0, 1, 2, 3, 4, 5, 6, 7, 8, 9, 10, 11, 12]⟩] (by kernel_rfl) (by kernel_rfl) ?_
  refine DRQ.v rfl rfl rfl (o_fldp F105_0 rfl) ?_
  refine DRQ.v rfl rfl rfl (o_ldp S3 rfl rfl rfl) ?_
  refine DRQ.v rfl rfl rfl (o_fldp F105_3 rfl) ?_
  refine DRQ.v rfl rfl rfl (o_fldp F23_0 rfl) ?_
  refine DRQ.v rfl rfl rfl (o_ldp S3 rfl rfl rfl) ?_
  refine DRQ.v rfl rfl rfl (o_sub rfl rfl (by first | omega | (simp; omega)) (by first | omega | (simp; omega))) ?_
  refine DRQ.v rfl rfl rfl (o_fldp F105_0 rfl) ?_
  refine DRQ.v rfl rfl rfl (o_ldp S3 rfl rfl rfl) ?_
  refine DRQ.v rfl rfl rfl (o_fldp F105_3 rfl) ?_
  refine DRQ.v rfl rfl rfl (o_fldp F23_1 rfl) ?_
  refine DRQ.v rfl rfl rfl (o_ldp S3 rfl rfl rfl) ?_
  refine DRQ.v rfl rfl rfl (o_sub rfl rfl (by first | omega | (simp; omega)) (by first | omega | (simp; omega))) ?_
  refine DRQ.v rfl rfl rfl (o_assign rfl) ?_
  refine DRQ.v rfl rfl rfl (o_assign rfl) ?_
  refine DRQ.nil' ?_
  refine EX.then ?_
  refine WP.seq ?_
  refine WP.region ?_
  refine WPl.v rfl (o_fldp F105_1 rfl) ?_
  refine WPl.v rfl (o_fldp F23_0 rfl) ?_
  refine WPl.v rfl (o_ldp S3 rfl rfl rfl) ?_
  refine WPl.v rfl (o_fldp F105_3 rfl) ?_
  refine WPl.v rfl (o_fldp F23_1 rfl) ?_
  refine WPl.v rfl (o_ldp S3 rfl rfl rfl) ?_
  refine WPl.v rfl (o_sub rfl rfl (by first | omega | (simp; omega)) (by first | omega | (simp; omega))) ?_
  refine WPl.v rfl (o_mul rfl rfl (by first | omega | (simp; omega)) (by first | omega | (simp; omega))) ?_
  refine WPl.v rfl (o_move rfl) ?_
  refine WPl.v rfl (o_fldp F23_0 rfl) ?_
  refine WPl.v rfl (o_ldp S3 rfl rfl rfl) ?_
  refine WPl.v rfl (o_mul rfl rfl (by first | omega | (simp; omega)) (by first | omega | (simp; omega))) ?_
  refine WPl.v rfl (o_geq rfl rfl) ?_
  refine WPl.v rfl (o_move rfl) ?_
  refine WPl.bit 4 5 (decide (((p.pounds - p.dh) * f.shop.tpl) ≤ (1000 * (p.tl - p.dh)))) rfl rfl ?_
  refine WPl.gv 4 rfl rfl (.plain rfl Iff.rfl rfl) (fun hb => o_fldp F105_1 rfl) ?_
  refine WPl.gv 4 rfl rfl (.plain rfl Iff.rfl rfl) (fun hb => o_fldp F23_1 rfl) ?_
  refine WPl.gv 4 rfl rfl (.plain rfl Iff.rfl rfl) (fun hb => o_ldp S3 rfl rfl rfl) ?_
  refine WPl.gv 4 rfl rfl (.plain rfl Iff.rfl rfl) (fun hb => o_fldp F105_3 rfl) ?_
  refine WPl.gv 4 rfl rfl (.plain rfl Iff.rfl rfl) (fun hb => o_fldp F23_0 rfl) ?_
  refine WPl.gv 4 rfl rfl (.plain rfl Iff.rfl rfl) (fun hb => o_ldp S3 rfl rfl rfl) ?_
  refine WPl.gv 4 rfl rfl (.plain rfl Iff.rfl rfl) (fun hb => o_sub rfl rfl (by first | omega | (simp; omega)) (by first | omega | (simp; omega))) ?_
  refine WPl.gv 4 rfl rfl (.plain rfl Iff.rfl rfl) (fun hb => o_mul rfl rfl (by first | omega | (simp; omega)) (by first | omega | (simp; omega))) ?_
  refine WPl.gv 4 rfl rfl (.plain rfl Iff.rfl rfl) (fun hb => o_move rfl) ?_
  refine WPl.gv 4 rfl rfl (.plain rfl Iff.rfl rfl) (fun hb => o_fldp F23_1 rfl) ?_
  refine WPl.gv 4 rfl rfl (.plain rfl Iff.rfl rfl) (fun hb => o_ldp S3 rfl rfl rfl) ?_
  refine WPl.gv 4 rfl rfl (.plain rfl Iff.rfl rfl) (fun hb => o_mul rfl rfl (by first | omega | (simp; omega)) (by first | omega | (simp; omega))) ?_
  refine WPl.gv 4 rfl rfl (.plain rfl Iff.rfl rfl) (fun hb => o_leq rfl rfl) ?_
  refine WPl.v rfl (o_and rfl rfl rfl id) ?_
  refine WPl.v rfl (o_move rfl) ?_
  refine WPl.bit 5 6 ((decide (((p.pounds - p.dh) * f.shop.tpl) ≤ (1000 * (p.tl - p.dh)))) && (decide ((1000 * (p.th - p.dl)) ≤ ((p.pounds - p.dl) * f.shop.tph)))) rfl rfl ?_
  refine WPl.gv 5 rfl rfl (.plain rfl Iff.rfl rfl) (fun hb => o_fldp F105_2 rfl) ?_
  refine WPl.gv 5 rfl rfl (.plain rfl Iff.rfl rfl) (fun hb => o_fldp F23_0 rfl) ?_
  refine WPl.gv 5 rfl rfl (.plain rfl Iff.rfl rfl) (fun hb => o_ldp S3 rfl rfl rfl) ?_
  refine WPl.gv 5 rfl rfl (.plain rfl Iff.rfl rfl) (fun hb => o_mul rfl rfl (by first | omega | (simp; omega)) (by first | omega | (simp; omega))) ?_
  refine WPl.gv 5 rfl rfl (.plain rfl Iff.rfl rfl) (fun hb => o_move rfl) ?_
  refine WPl.gv 5 rfl rfl (.plain rfl Iff.rfl rfl) (fun hb => o_fldp F23_0 rfl) ?_
  refine WPl.gv 5 rfl rfl (.plain rfl Iff.rfl rfl) (fun hb => o_ldp S3 rfl rfl rfl) ?_
  refine WPl.gv 5 rfl rfl (.plain rfl Iff.rfl rfl) (fun hb => o_mul rfl rfl (by first | omega | (simp; omega)) (by first | omega | (simp; omega))) ?_
  refine WPl.gv 5 rfl rfl (.plain rfl Iff.rfl rfl) (fun hb => o_geq rfl rfl) ?_
  refine WPl.v rfl (o_and rfl rfl rfl id) ?_
  refine WPl.v rfl (o_move rfl) ?_
  refine WPl.bit 6 7 (((decide (((p.pounds - p.dh) * f.shop.tpl) ≤ (1000 * (p.tl - p.dh)))) && (decide ((1000 * (p.th - p.dl)) ≤ ((p.pounds - p.dl) * f.shop.tph)))) && (decide (((p.pounds - p.dl) * f.shop.apl) ≤ (1000 * p.al)))) rfl rfl ?_
  refine WPl.gv 6 rfl rfl (.plain rfl Iff.rfl rfl) (fun hb => o_fldp F105_2 rfl) ?_
  refine WPl.gv 6 rfl rfl (.plain rfl Iff.rfl rfl) (fun hb => o_fldp F23_1 rfl) ?_
  refine WPl.gv 6 rfl rfl (.plain rfl Iff.rfl rfl) (fun hb => o_ldp S3 rfl rfl rfl) ?_
  refine WPl.gv 6 rfl rfl (.plain rfl Iff.rfl rfl) (fun hb => o_mul rfl rfl (by first | omega | (simp; omega)) (by first | omega | (simp; omega))) ?_
  refine WPl.gv 6 rfl rfl (.plain rfl Iff.rfl rfl) (fun hb => o_move rfl) ?_
  refine WPl.gv 6 rfl rfl (.plain rfl Iff.rfl rfl) (fun hb => o_fldp F23_1 rfl) ?_
  refine WPl.gv 6 rfl rfl (.plain rfl Iff.rfl rfl) (fun hb => o_ldp S3 rfl rfl rfl) ?_
  refine WPl.gv 6 rfl rfl (.plain rfl Iff.rfl rfl) (fun hb => o_mul rfl rfl (by first | omega | (simp; omega)) (by first | omega | (simp; omega))) ?_
  refine WPl.gv 6 rfl rfl (.plain rfl Iff.rfl rfl) (fun hb => o_leq rfl rfl) ?_
  refine WPl.v rfl (o_and rfl rfl rfl id) ?_
  refine WPl.v rfl (o_assign rfl) ?_
  refine WPl.nil ?_
  refine EX.then ?_
  refine WP.ret ?_
  exact EX.fin id (.inl rfl) rfl (.tmp rfl .nil) rfl r135 trivial (by simp) (by simp)
theorem w128 {f : Fnd} {r : Option Nat} {plan : List (List Int)} : ∀ x ∈ ([.e (.a (.q 0)), .e (.a (.q 1))] : List SV), x.res (keys (α := Pred) [(0, PP (EP.box (PP (EWk r) (f))) ()), (1, PP (EP.box (PL (EP.sl EP.int) (plan))) ())]) := by simp [SV.res, El.res, At.res, keys]
set_option maxHeartbeats 4000000 in
theorem c128 (f : Fnd) (r : Option Nat) (plan : List (List Int)) (hf : f.chk = true) (hp : PlanB f plan) : SigI Try.prog 128 [.e (.a (.q 0)), .e (.a (.q 1))] [(0, PP (EP.box (PP (EWk r) (f))) ()), (1, PP (EP.box (PL (EP.sl EP.int) (plan))) ())] (nightItems f plan) := by
  have hcb := Fnd.chkB hf
  have hpg := Shop.pigsOK (Fnd.shopOK hf)
  have hn := Fnd.nightsOK hf
  obtain ⟨hpl, hpr⟩ := id hp
  refine SigI.intro Try.func128 rfl 3 2 w128 rfl rfl rfl fun I w l Y K F0 hround => ?_
  have hF : ∀ c, F0 c → F0 c := fun _ h => h
  refine WP.seq ?_
  refine WP.region ?_
  refine WPl.x 3 4 rfl rfl rfl (o_ldqx S95 rfl (lx rfl) boxx) ?_
  refine WPl.cs 4 rfl rfl rfl rfl (o_sig 4 (ren [(0, 3)]) (c88 f r (by omega)) e88 rfl rfl rfl w88 ⟨(lx rfl), trivial⟩ r88) ?_
  refine WPl.v rfl (o_move rfl) ?_
  refine WPl.v rfl (o_extract rfl rfl) ?_
  refine WPl.v rfl (o_extract rfl rfl) ?_
  refine WPl.l 4 5 rfl rfl rfl (o_alloc Z105) ?_
  refine WPl.l 5 6 rfl rfl rfl (o_alloc Z110) ?_
  refine WPl.s1 (o_stag G105 rfl rfl rfl ⟨rfl, rfl, rfl, rfl, rfl, rfl, rfl, trivial⟩ rfl rfl) ?_
  refine WPl.s1 (o_stag G110 rfl rfl rfl ⟨rfl, rfl, rfl, rfl, trivial⟩ rfl rfl) ?_
  refine WPl.nil ?_
  refine EX.then ?_
  refine WP.seq ?_
  refine WP.region ?_
  refine WPl.x 6 7 rfl rfl rfl (o_ldqx S95 rfl (lx rfl) boxx) ?_
  refine WPl.v rfl (o_nilq rfl (lx rfl)) ?_
  refine WPl.v rfl (o_fldq F100_0 rfl (lx rfl)) ?_
  refine WPl.v rfl (o_flde F31_1 rfl (lx rfl)) ?_
  refine WPl.x 7 8 rfl rfl rfl (o_ldex S29 rfl (lx rfl) (strS rfl)) ?_
  refine WPl.v rfl (o_lenq L29 rfl (lx rfl)) ?_
  refine WPl.v rfl (o_move rfl) ?_
  refine WPl.nil ?_
  refine EX.then ?_
  refine WP.block ?_
  refine WP.loop (Gh := Nat × (Nat → Prop)) (fun (⟨i, F⟩ : Nat × (Nat → Prop)) => ⟨8, [(0, .e (.a (.v (yv l)))), (1, .e (.a (.q 0))), (2, .e (.a (.q 1))), (4, .e (.a (.p 4 (0)))), (17, .e (.a (.q 7))), (18, .i ((f.nights.length : Int))), (19, .i ((i : Int)))], [(0, PP (EP.box (PP (EWk r) (f))) ()), (1, PP (EP.box (PL (EP.sl EP.int) (plan))) ()), (7, PL ENight (f.nights))], [(2, .ext ((Y i).xp F)), (4, .blk [ai ((f.pre plan i).pounds), ai ((f.pre plan i).tl), ai ((f.pre plan i).th), ai ((f.pre plan i).al), ai ((f.pre plan i).ah), ai ((f.pre plan i).dl), ai ((f.pre plan i).dh)] 105)], [], []⟩) (fun (⟨i, F⟩ : Nat × (Nat → Prop)) => i ≤ f.nights.length ∧ ∀ c, F0 c → F c) (fun (⟨i, F⟩ : Nat × (Nat → Prop)) => f.nights.length - i) ((0, F0)) id ?_ (LeR.of ⟨rfl, rfl, rfl, rfl, rfl, rfl, rfl, trivial⟩ ⟨(lx rfl), (lx rfl), (lx rfl), trivial⟩ ⟨rfl, rfl, trivial⟩ rfl rfl rfl rfl rfl) ?_
  · exact ⟨by omega, fun _ h => h⟩
  rintro ⟨i, F⟩ hφ
  obtain ⟨hi, hF⟩ : i ≤ f.nights.length ∧ ∀ c, F0 c → F c := hφ
  refine WP.seq ?_
  refine WP.region ?_
  refine WPl.v rfl (o_lss rfl rfl) ?_
  refine WPl.nil ?_
  refine EX.then ?_
  refine WP.seq ?_
  refine WP.cond rfl (fun hc1 => ?_) (fun hc1 => ?_)
  · try simp only [decide_eq_true_eq, decide_eq_false_iff_not, Bool.and_eq_true, Bool.or_eq_true, Bool.and_eq_false_iff, Bool.or_eq_false_iff, Bool.not_eq_true', Bool.not_eq_false', ne_eq, Decidable.not_not] at hc1
    refine WP.skip ?_
    refine EX.then ?_
    refine WP.seq ?_
    refine WP.block ?_
    refine WP.seq ?_
    refine WP.region ?_
    refine WPl.v rfl (o_move rfl) ?_
    refine WPl.x 8 9 rfl rfl rfl (o_idx L29 rfl (lx rfl) rfl (by first | omega | (simp; omega)) (by first | omega | (simp; omega))) ?_
    refine WPl.v rfl (o_ldqg G75 rfl (lx rfl) (strG rfl) rfl rfl) ?_
    refine WPl.l 9 10 rfl rfl rfl (o_alloc Z75) ?_
    refine WPl.v rfl (o_assign rfl) ?_
    refine WPl.s1 (o_stag G75 rfl rfl rfl ⟨rfl, rfl, rfl, trivial⟩ rfl rfl) ?_
    refine WPl.nil ?_
    refine EX.then ?_
    refine WP.seq ?_
    refine WP.draw (nf := 14) [⟨[25, 26, 27, 28, 29], [11, 12, 13], [10], [10], []⟩, ⟨[24, 26, 27, 28, 29], [10, 11, 12, 13], [], [], []⟩, ⟨[24, 25, 27], [10], [11], [11], []⟩, ⟨[24, 25, 26], [10, 11], [], [], []⟩, ⟨[24, 25], [10], [12], [12], [2, 3]⟩, ⟨[24, 25], [10], [13], [13], [2, 3, 4]⟩, ⟨[], [], [], [], [0, 1, 2, 3, 4, 5]⟩, ⟨[], [], [], [4], [0, 1, 2, 3, 4, 5, 6]⟩] (by kernel_rfl) (by kernel_rfl) ?_
    refine DRQ.x 10 rfl rfl rfl rfl (o_ldqx S95 rfl (lx rfl) boxx) ?_
    refine DRQ.v rfl rfl rfl (o_ldpa G105 rfl rfl rfl) ?_
    refine DRQ.x 11 rfl rfl rfl rfl (o_ldqx S32 rfl (lx rfl) boxx) ?_
    refine DRQ.v rfl rfl rfl (o_move rfl) ?_
    refine DRQ.x 12 rfl rfl rfl rfl (o_idx L32 rfl (lx rfl) rfl (by first | omega | (simp; omega)) (by first | omega | (simp; omega))) ?_
    refine DRQ.x 13 rfl rfl rfl rfl (o_ldqx S44 rfl (lx rfl) slx) ?_
    refine DRQ.cs rfl rfl rfl rfl (o_sig 14 (ren [(0, 10), (1, 13)]) (c129 f r (f.pre plan i) (nth plan (i : Int)) (1000 + 400009 * (i : Int)) (pre_bnd hf hp i (by omega)) (by omega) hpg (by rw [(hpr i (by omega)).1]; exact Nat.le_refl _) (bnd_mono (hpr i (by omega)).2 (by omega))) e129 rfl rfl rfl w129 ⟨(lx rfl), (lx rfl), trivial⟩ r129) ?_
    refine DRQ.s 4 rfl rfl rfl (o_stag G105 rfl rfl rfl ⟨rfl, rfl, rfl, rfl, rfl, rfl, rfl, trivial⟩ rfl rfl) ?_
    refine DRQ.nil' ?_
    refine EX.then ?_
    refine WP.seq ?_
    refine WP.seq ?_
    refine WP.region ?_
    refine WPl.v rfl (o_move rfl) ?_
    refine WPl.v rfl (o_move rfl) ?_
    refine WPl.v rfl (o_ldpa G105 rfl rfl rfl) ?_
    refine WPl.yield (Y' := Y (i + 1)) (K' := K) 2 rfl rfl rfl rfl rfl rfl (yieldH (ky := 2) (J := []) (it := ⟨[.i ((i : Int)), .e (.g [ai ((f.at plan i).pounds), ai ((f.at plan i).tl), ai ((f.at plan i).th), ai ((f.at plan i).al), ai ((f.at plan i).ah), ai ((f.at plan i).dl), ai ((f.at plan i).dh)])], [], []⟩) id (hround (i) _ (range_at (by omega))) rfl (hF) SvsOK.rf (by simp [SV.res, El.res, At.res, keys]) trivial trivial) fun by34 F1 hF1 => ?_
    have hF : ∀ c, F0 c → F1 c := fun c hc => hF1 c (hF c hc)
    cases by34
    · skip
      refine WPl.v rfl (o_not rfl) ?_
      refine WPl.nil ?_
      refine EX.then ?_
      refine WP.cond rfl (fun _ => ?_) (fun h => by cases h)
      refine WP.ret ?_
      refine EX.ret_then ?_
      refine EX.ret_blk ?_
      refine EX.ret_then ?_
      refine EX.ret_then ?_
      refine EX.ret_blk ?_
      exact EX.finI (.inl rfl) rfl rfl (ky := 2) (Y := K) rfl (fun _ _ h => .inr h)
    · skip
      refine WPl.v rfl (o_not rfl) ?_
      refine WPl.nil ?_
      refine EX.then ?_
      refine WP.cond rfl (fun h => by cases h) (fun _ => ?_)
      refine WP.skip ?_
      refine EX.then ?_
      refine WP.region ?_
      refine WPl.v rfl (o_ldpa G105 rfl rfl rfl) ?_
      refine WPl.v rfl (o_ldpa G75 rfl rfl rfl) ?_
      refine WPl.cs 14 rfl rfl rfl rfl (o_sig 14 id (c130 (f.at plan i) (nth f.nights (i : Int)) 2100000 (at_bnd hf hp (by omega)) (by omega) (hn.at (by omega))) e130 rfl rfl rfl w130 trivial r130) ?_
      refine WPl.s1 (o_stag G105 rfl rfl rfl ⟨rfl, rfl, rfl, rfl, rfl, rfl, rfl, trivial⟩ rfl rfl) ?_
      refine WPl.nil ?_
      refine EX.blk ?_
      refine EX.then ?_
      refine WP.region ?_
      refine WPl.v rfl (o_add rfl rfl (by first | omega | (simp; omega)) (by first | omega | (simp; omega))) ?_
      refine WPl.v rfl (o_move rfl) ?_
      refine WPl.nil ?_
      refine EX.again ((i + 1, F1)) id (by exact ⟨by omega, hF⟩) (by first | omega | (dsimp only; omega) | (simp only []; omega)) (LeR.of ⟨rfl, rfl, rfl, rfl, rfl, rfl, rfl, trivial⟩ ⟨(lx rfl), (lx rfl), (lx rfl), trivial⟩ ⟨rfl, rfl, trivial⟩ rfl rfl rfl rfl rfl)
  · try simp only [decide_eq_true_eq, decide_eq_false_iff_not, Bool.and_eq_true, Bool.or_eq_true, Bool.and_eq_false_iff, Bool.or_eq_false_iff, Bool.not_eq_true', Bool.not_eq_false', ne_eq, Decidable.not_not] at hc1
    refine WP.exit ?_
    refine EX.exit_then ?_
    refine EX.exit_then ?_
    refine EX.exit_blk ?_
    have hend : i = (nightItems f plan).length := by simp [nightItems]; omega
    exact EX.finI (.inr rfl) rfl rfl (ky := 2) (Y := Y (i)) rfl (fun _ _ h => .inl (by rw [hend] at h; exact h))
theorem w80 {f : Fnd} {r : Option Nat} {plan : List (List Int)} : ∀ x ∈ ([.e (.a (.q 0)), .e (.a (.q 1))] : List SV), x.res (keys (α := Pred) [(0, PP (EWk r) (f)), (1, PL (EP.sl EP.int) (plan))]) := by simp [SV.res, El.res, At.res, keys]
theorem r80 {f : Fnd} {plan : List (List Int)} : SV.res (keys (α := Pred) [(0, ItP Try.prog (nightItems f plan))]) (.e (.a (.q 0))) := by simp [SV.res, El.res, At.res, keys]
set_option maxHeartbeats 4000000 in
theorem c80 (f : Fnd) (r : Option Nat) (plan : List (List Int)) (hf : f.chk = true) (hp : PlanB f plan) : Sig Try.prog 80 [.e (.a (.q 0)), .e (.a (.q 1))] [(0, PP (EWk r) (f)), (1, PL (EP.sl EP.int) (plan))] (.e (.a (.q 0))) [(0, ItP Try.prog (nightItems f plan))] := by
  refine Sig.intro Try.func80 rfl 2 [(0, .e (.a (.q 0))), (1, .e (.a (.q 1)))] rfl w80 rfl rfl fun I w => ?_
  refine WP.seq ?_
  refine WP.region ?_
  refine WPl.l 2 3 rfl rfl rfl (o_boxa rfl (.inl ⟨_, (lx rfl), PP.one⟩)) ?_
  refine WPl.l 3 4 rfl rfl rfl (o_boxa rfl (.inl ⟨_, (lx rfl), PL.one⟩)) ?_
  refine WPl.v rfl (o_assign rfl) ?_
  refine WPl.nil ?_
  refine EX.then ?_
  refine WP.seq ?_
  refine WP.region ?_
  refine WPl.imp (Imp.frzb (E := EP.box (PP (EWk r) (f))) (y := ()) 2 4 5 rfl rfl (bok_box (lx rfl)) rfl rfl rfl) ?_
  refine WPl.imp (Imp.frzb (E := EP.box (PL (EP.sl EP.int) (plan))) (y := ()) 3 5 6 rfl rfl (bok_box (lx rfl)) rfl rfl rfl) ?_
  refine WPl.x 6 7 rfl rfl rfl (o_mkit 6 (ren [(0, 4), (1, 5)]) (c128 f r plan hf hp) e128 rfl SvsOK.rf w128 ⟨(lx rfl), (lx rfl), trivial⟩) ?_
  refine WPl.v rfl (o_assign rfl) ?_
  refine WPl.nil ?_
  refine EX.then ?_
  refine WP.ret ?_
  exact EX.fin (ren [(0, 6)]) (.inl rfl) rfl (.tmp rfl .nil) rfl r80 ⟨(lx rfl), trivial⟩ (by simp) (by simp)
end Go.Flong
namespace Go.Flong
open Go Go.Eng Go.Proofs
theorem Z4 : Zero Try.prog 4 [.v (.bool (false))] := .mk Try.zeroValue4 rfl rfl
theorem S4 : TyS Try.prog 4 := ⟨Try.isAgg4, Try.sizeOf4⟩
theorem e80 : Enters' Try.prog 80 := Try.call80
theorem e127 : Enters' Try.prog 127 := Try.call127
theorem Z44 : Zero Try.prog 44 [.v (.slice none 0 0)] := .mk Try.zeroValue44 rfl rfl
theorem e135 : Enters' Try.prog 135 := Try.call135
theorem R44 : RowT Try.prog 44 3 1 8 [.int .i64 0] := ⟨Try.underlying44, ⟨Try.t3, _, by kernel_rfl, rfl, rfl, rfl, rfl⟩, rfl, by decide⟩
theorem G185 : TyG Try.prog 185 12 := ⟨Try.isAgg185, Try.sizeOf185⟩
theorem Q3 : FlatT Try.prog 3 1 1 false := .int Try.underlying3 S3
theorem Q23 : FlatT Try.prog 23 2 2 true := .struct Try.underlying23 Try.stoodInHeld23 G23 ⟨by decide, rfl, 1, false, Q3, ⟨by decide, rfl, 1, false, Q3, rfl⟩⟩
theorem Q105 : FlatT Try.prog 105 7 3 true := .struct Try.underlying105 Try.stoodInHeld105 G105 ⟨by decide, rfl, 1, false, Q3.up, ⟨by decide, rfl, 2, true, Q23, ⟨by decide, rfl, 2, true, Q23, ⟨by decide, rfl, 2, true, Q23, rfl⟩⟩⟩⟩
theorem Q110 : FlatT Try.prog 110 4 2 true := .array Try.underlying110 G110 Q3
theorem Q185 : FlatT Try.prog 185 12 4 true := .struct Try.underlying185 Try.stoodInHeld185 G185 ⟨by decide, rfl, 1, false, Q3.up.up, ⟨by decide, rfl, 7, true, Q105, ⟨by decide, rfl, 4, true, Q110.up, rfl⟩⟩⟩
theorem M98 : MapT Try.prog 98 12 4 true := .struct Try.underlying98 (by simp only [Try.underlying185]) Q185 rfl Try.zeroValue3
theorem B100 : BldT Try.prog 100 [(0, 12), (12, 1)] [.int .i64 0, .int .i64 0, .int .i64 0, .int .i64 0, .int .i64 0, .int .i64 0, .int .i64 0, .int .i64 0, .int .i64 0, .int .i64 0, .slice none 0 0, .slice none 0 0, .map none] := BldT.mk (ns := [12, 1]) Try.underlying100 ⟨Try.sizeOf31, Try.sizeOf98, trivial⟩ rfl Try.zeroValue100 rfl
theorem e21 : Enters' Try.prog 21 := Try.call21
abbrev IsP (f : Fnd) (v : Bool) : Pred := Pred.all fun (r : Option Nat) => FvP Try.prog [.e (.a (.q 0))] [(0, PP (EWk r) (f))] (.b (v)) []
theorem e78 : Enters' Try.prog 78 := Try.call78
theorem e136 : Enters' Try.prog 136 := Try.call136
theorem e90 : Enters' Try.prog 90 := Try.call90
theorem w78 {f : Fnd} {r : Option Nat} {plan : List (List Int)} : ∀ x ∈ ([.e (.a (.q 0)), .e (.a (.q 1))] : List SV), x.res (keys (α := Pred) [(0, PP (EWk r) (f)), (1, PL (EP.sl EP.int) (plan))]) := by simp [SV.res, El.res, At.res, keys]
theorem r78 {f : Fnd} {plan : List (List Int)} : SV.res (keys (α := Pred) []) (.b (f.wPlan plan)) := by simp [SV.res, El.res, At.res, keys]
set_option maxHeartbeats 4000000 in
theorem c78 (f : Fnd) (r : Option Nat) (plan : List (List Int)) (hf : f.chk = true) : Sig Try.prog 78 [.e (.a (.q 0)), .e (.a (.q 1))] [(0, PP (EWk r) (f)), (1, PL (EP.sl EP.int) (plan))] (.b (f.wPlan plan)) [] := by
  have hcb := Fnd.chkB hf
  have hpg := Shop.pigsOK (Fnd.shopOK hf)
  have hp4 := hpg.2
  refine Sig.intro Try.func78 rfl 2 [(0, .e (.a (.q 0))), (1, .e (.a (.q 1)))] rfl w78 rfl rfl fun I w => ?_
  refine WP.seq ?_
  refine WP.region ?_
  refine WPl.l 2 3 rfl rfl rfl (o_boxa rfl (.inl ⟨_, (lx rfl), PP.one⟩)) ?_
  refine WPl.l 3 4 rfl rfl rfl (o_alloc Z4) ?_
  refine WPl.nil ?_
  refine EX.then ?_
  refine WP.seq ?_
  refine WP.seq ?_
  refine WP.region ?_
  refine WPl.v rfl (o_move rfl) ?_
  refine WPl.v rfl (o_lenq L32 rfl (lx rfl)) ?_
  refine WPl.v rfl (o_ldp S95 rfl rfl rfl) ?_
  refine WPl.v rfl (o_nilq rfl (lx rfl)) ?_
  refine WPl.v rfl (o_fldq F100_0 rfl (lx rfl)) ?_
  refine WPl.v rfl (o_flde F31_1 rfl (lx rfl)) ?_
  refine WPl.x 4 5 rfl rfl rfl (o_ldex S29 rfl (lx rfl) (strS rfl)) ?_
  refine WPl.v rfl (o_lenq L29 rfl (lx rfl)) ?_
  refine WPl.v rfl (o_neq rfl rfl) ?_
  refine WPl.nil ?_
  refine EX.then ?_
  refine WP.cond rfl (fun hc1 => ?_) (fun hc1 => ?_)
  · try simp only [decide_eq_true_eq, decide_eq_false_iff_not, Bool.and_eq_true, Bool.or_eq_true, Bool.and_eq_false_iff, Bool.or_eq_false_iff, Bool.not_eq_true', Bool.not_eq_false', ne_eq, Decidable.not_not] at hc1
    refine WP.seq ?_
    refine WP.region ?_
    refine WPl.s1 (o_sta S4 rfl rfl rfl rfl rfl) ?_
    refine WPl.nil ?_
    refine EX.then ?_
    refine WP.ret ?_
    refine EX.ret_then ?_
    rw [show f.wPlan plan = false from by simp [Fnd.wPlan]; omega]
    exact EX.fin id (.inl rfl) rfl (.cell1 S4 rfl rfl (.nil)) rfl (by simp [SV.res, El.res, At.res, keys]) trivial (by simp) (by simp)
  · try simp only [decide_eq_true_eq, decide_eq_false_iff_not, Bool.and_eq_true, Bool.or_eq_true, Bool.and_eq_false_iff, Bool.or_eq_false_iff, Bool.not_eq_true', Bool.not_eq_false', ne_eq, Decidable.not_not] at hc1
    refine WP.skip ?_
    refine EX.then ?_
    refine WP.seq ?_
    refine WP.region ?_
    refine WPl.v rfl (o_ldp S95 rfl rfl rfl) ?_
    refine WPl.cs 5 rfl rfl rfl rfl (o_sig 5 (ren [(0, 0)]) (c88 f r (by omega)) e88 rfl rfl rfl w88 ⟨(lx rfl), trivial⟩ r88) ?_
    refine WPl.v rfl (o_move rfl) ?_
    refine WPl.v rfl (o_extract rfl rfl) ?_
    refine WPl.v rfl (o_extract rfl rfl) ?_
    refine WPl.l 5 6 rfl rfl rfl (o_alloc Z105) ?_
    refine WPl.l 6 7 rfl rfl rfl (o_alloc Z110) ?_
    refine WPl.s1 (o_stag G105 rfl rfl rfl ⟨rfl, rfl, rfl, rfl, rfl, rfl, rfl, trivial⟩ rfl rfl) ?_
    refine WPl.s1 (o_stag G110 rfl rfl rfl ⟨rfl, rfl, rfl, rfl, trivial⟩ rfl rfl) ?_
    refine WPl.nil ?_
    refine EX.then ?_
    refine WP.seq ?_
    refine WP.seq ?_
    refine WP.region ?_
    refine WPl.v rfl (o_move rfl) ?_
    refine WPl.v rfl (o_lenq L32 rfl (lx rfl)) ?_
    refine WPl.v rfl (o_move rfl) ?_
    refine WPl.nil ?_
    refine EX.then ?_
    refine WP.block ?_
    refine WP.loop (Gh := Nat) (fun i => ⟨7, [(1, .e (.a (.q 1))), (2, .e (.a (.p 2 (0)))), (4, .e (.a (.p 3 (0)))), (6, .e (.a (.p 6 (0)))), (27, .e (.a (.q 1))), (28, .i ((plan.length : Int))), (29, .i ((i : Int)))], [(0, PP (EWk r) (f)), (1, PL (EP.sl EP.int) (plan))], [(2, .blk [.q 0] 95), (3, .blk [.v (.bool (false))] 4), (6, .blk [ai (nth (leftAt f.shop.pigs plan i) 0), ai (nth (leftAt f.shop.pigs plan i) 1), ai (nth (leftAt f.shop.pigs plan i) 2), ai (nth (leftAt f.shop.pigs plan i) 3)] 110)], [], []⟩) (fun i => i ≤ plan.length ∧ allI (f.rowW plan) i = true) (fun i => plan.length - i) (0) id ?_ (LeR.of ⟨rfl, rfl, rfl, rfl, rfl, rfl, rfl, trivial⟩ ⟨(lx rfl), (lx rfl), trivial⟩ ⟨rfl, rfl, rfl, trivial⟩ rfl rfl rfl rfl rfl) ?_
    · exact ⟨by omega, rfl⟩
    intro i hφ
    have hi : i ≤ plan.length := hφ.1
    have hrows : allI (f.rowW plan) i = true := hφ.2
    refine WP.seq ?_
    refine WP.region ?_
    refine WPl.v rfl (o_lss rfl rfl) ?_
    refine WPl.nil ?_
    refine EX.then ?_
    refine WP.seq ?_
    refine WP.cond rfl (fun hc2 => ?_) (fun hc2 => ?_)
    · try simp only [decide_eq_true_eq, decide_eq_false_iff_not, Bool.and_eq_true, Bool.or_eq_true, Bool.and_eq_false_iff, Bool.or_eq_false_iff, Bool.not_eq_true', Bool.not_eq_false', ne_eq, Decidable.not_not] at hc2
      refine WP.skip ?_
      refine EX.then ?_
      refine WP.seq ?_
      refine WP.block ?_
      refine WP.seq ?_
      refine WP.region ?_
      refine WPl.x 7 8 rfl rfl rfl (o_idx L32 rfl (lx rfl) rfl (by first | omega | (simp; omega)) (by first | omega | (simp; omega))) ?_
      refine WPl.x 8 9 rfl rfl rfl (o_ldqx S44 rfl (lx rfl) slx) ?_
      refine WPl.v rfl (o_assign rfl) ?_
      refine WPl.nil ?_
      refine EX.then ?_
      refine WP.seq ?_
      refine WP.seq ?_
      refine WP.region ?_
      refine WPl.v rfl (o_move rfl) ?_
      refine WPl.v rfl (o_lenq L44 rfl (lx rfl)) ?_
      refine WPl.v rfl (o_ldp S95 rfl rfl rfl) ?_
      refine WPl.v rfl (o_nilq rfl (lx rfl)) ?_
      refine WPl.v rfl (o_fldq F100_0 rfl (lx rfl)) ?_
      refine WPl.v rfl (o_flde F31_0 rfl (lx rfl)) ?_
      refine WPl.v rfl (o_flde F28_4 rfl (lx rfl)) ?_
      refine WPl.x 9 10 rfl rfl rfl (o_ldex S26 rfl (lx rfl) (strS rfl)) ?_
      refine WPl.v rfl (o_lenq L26 rfl (lx rfl)) ?_
      refine WPl.v rfl (o_neq rfl rfl) ?_
      refine WPl.nil ?_
      refine EX.then ?_
      refine WP.cond rfl (fun hc3 => ?_) (fun hc3 => ?_)
      · try simp only [decide_eq_true_eq, decide_eq_false_iff_not, Bool.and_eq_true, Bool.or_eq_true, Bool.and_eq_false_iff, Bool.or_eq_false_iff, Bool.not_eq_true', Bool.not_eq_false', ne_eq, Decidable.not_not] at hc3
        refine WP.seq ?_
        refine WP.region ?_
        refine WPl.s1 (o_sta S4 rfl rfl rfl rfl rfl) ?_
        refine WPl.nil ?_
        refine EX.then ?_
        refine WP.ret ?_
        refine EX.ret_then ?_
        refine EX.ret_blk ?_
        refine EX.ret_then ?_
        refine EX.ret_then ?_
        refine EX.ret_blk ?_
        refine EX.ret_then ?_
        rw [show f.wPlan plan = false from by simp only [Fnd.wPlan, Bool.and_eq_false_iff]; exact .inl (.inr (not_allI (show i < _ by omega) (by simp only [Fnd.rowW, Bool.and_eq_false_iff, decide_eq_false_iff_not]; exact .inl (by omega))))]
        exact EX.fin id (.inl rfl) rfl (.cell1 S4 rfl rfl (.nil)) rfl (by simp [SV.res, El.res, At.res, keys]) trivial (by simp) (by simp)
      · try simp only [decide_eq_true_eq, decide_eq_false_iff_not, Bool.and_eq_true, Bool.or_eq_true, Bool.and_eq_false_iff, Bool.or_eq_false_iff, Bool.not_eq_true', Bool.not_eq_false', ne_eq, Decidable.not_not] at hc3
        refine WP.skip ?_
        refine EX.then ?_
        refine WP.seq ?_
        refine WP.region ?_
        refine WPl.v rfl (o_move rfl) ?_
        refine WPl.v rfl (o_lenq L44 rfl (lx rfl)) ?_
        refine WPl.v rfl (o_move rfl) ?_
        refine WPl.nil ?_
        refine EX.then ?_
        refine WP.block ?_
        refine WP.loop (Gh := Nat) (fun j => ⟨10, [(1, .e (.a (.q 1))), (2, .e (.a (.p 2 (0)))), (4, .e (.a (.p 3 (0)))), (6, .e (.a (.p 6 (0)))), (27, .e (.a (.q 1))), (28, .i ((plan.length : Int))), (29, .i ((i : Int))), (30, .b (decide ((i : Int) < (plan.length : Int)))), (31, .e (.a (.q 7))), (32, .e (.a (.q 8))), (8, .e (.a (.q 8))), (33, .e (.a (.q 8))), (34, .i (((nth plan (i : Int)).length : Int))), (35, .e (.a (.q 0))), (36, .e (.a (.q 0))), (37, .e (.a (.e 0 (0)))), (38, .e (.a (.e 0 (0)))), (39, .e (.a (.e 0 (10)))), (40, .e (.a (.q 9))), (41, .i ((f.shop.pigs.length : Int))), (42, .b (decide (((nth plan (i : Int)).length : Int) ≠ (f.shop.pigs.length : Int)))), (43, .e (.a (.q 8))), (44, .i (((nth plan (i : Int)).length : Int))), (45, .i ((j : Int)))], [(0, PP (EWk r) (f)), (1, PL (EP.sl EP.int) (plan)), (7, PP (EP.sl EP.int) (nth plan (i : Int))), (8, PL EP.int (nth plan (i : Int))), (9, PL EPig (f.shop.pigs))], [(2, .blk [.q 0] 95), (3, .blk [.v (.bool (false))] 4), (6, .blk [ai (nth (takeTo (leftAt f.shop.pigs plan i) (nth plan i) j) 0), ai (nth (takeTo (leftAt f.shop.pigs plan i) (nth plan i) j) 1), ai (nth (takeTo (leftAt f.shop.pigs plan i) (nth plan i) j) 2), ai (nth (takeTo (leftAt f.shop.pigs plan i) (nth plan i) j) 3)] 110)], [], []⟩) (fun j => j ≤ (nth plan i).length ∧ allI (rowFits (leftAt f.shop.pigs plan i) (nth plan i)) j = true) (fun j => (nth plan i).length - j) (0) id ?_ (LeR.of ⟨rfl, rfl, rfl, rfl, rfl, rfl, rfl, rfl, rfl, rfl, rfl, rfl, rfl, rfl, rfl, rfl, rfl, rfl, rfl, rfl, rfl, rfl, rfl, rfl, trivial⟩ ⟨(lx rfl), (lx rfl), (lx rfl), (lx rfl), (lx rfl), trivial⟩ ⟨rfl, rfl, rfl, trivial⟩ rfl rfl rfl rfl rfl) ?_
        · exact ⟨by omega, rfl⟩
        intro j hφ
        have hj : j ≤ (nth plan i).length := hφ.1
        have hfit : allI (rowFits (leftAt f.shop.pigs plan i) (nth plan i)) j = true := hφ.2
        have hlb := leftAt_bnd (f := f) hpg i hrows
        have hlj := takeTo_bnd hlb j (by omega) hfit
        refine WP.seq ?_
        refine WP.region ?_
        refine WPl.v rfl (o_lss rfl rfl) ?_
        refine WPl.nil ?_
        refine EX.then ?_
        refine WP.seq ?_
        refine WP.cond rfl (fun hc4 => ?_) (fun hc4 => ?_)
        · try simp only [decide_eq_true_eq, decide_eq_false_iff_not, Bool.and_eq_true, Bool.or_eq_true, Bool.and_eq_false_iff, Bool.or_eq_false_iff, Bool.not_eq_true', Bool.not_eq_false', ne_eq, Decidable.not_not] at hc4
          refine WP.skip ?_
          refine EX.then ?_
          refine WP.seq ?_
          refine WP.block ?_
          refine WP.seq ?_
          refine WP.region ?_
          refine WPl.v rfl (o_move rfl) ?_
          refine WPl.x 10 11 rfl rfl rfl (o_idx L44 rfl (lx rfl) rfl (by first | omega | (simp; omega)) (by first | omega | (simp; omega))) ?_
          have hj4 := hlj.2 j (by omega)
          refine WPl.v rfl (o_ldq S3 rfl (lx rfl) intc) ?_
          refine WPl.v rfl (o_assign rfl) ?_
          refine WPl.v rfl (o_assign rfl) ?_
          refine WPl.nil ?_
          refine EX.then ?_
          refine WP.seq ?_
          refine WP.seq ?_
          refine WP.region ?_
          refine WPl.v rfl (o_move rfl) ?_
          refine WPl.v rfl (o_move rfl) ?_
          refine WPl.v rfl (o_idxp A110 rfl rfl (by first | omega | (simp; omega)) (by first | omega | (simp; omega))) ?_
          refine WPl.v rfl (o_ldpn (n := 4) (l := takeTo (leftAt f.shop.pigs plan i) (nth plan i) j) S3 rfl rfl rfl (by first | omega | (simp; omega)) (by first | omega | (simp; omega))) ?_
          refine WPl.cs 11 rfl rfl rfl rfl (o_sig 11 id (c79 (nth (nth plan (i : Int)) (j : Int)) 0 (nth (takeTo (leftAt f.shop.pigs plan i) (nth plan i) j) (j : Int))) e79 rfl rfl rfl w79 trivial r79) ?_
          refine WPl.v rfl (o_not rfl) ?_
          refine WPl.nil ?_
          refine EX.then ?_
          refine WP.cond rfl (fun hc5 => ?_) (fun hc5 => ?_)
          · try simp only [decide_eq_true_eq, decide_eq_false_iff_not, Bool.and_eq_true, Bool.or_eq_true, Bool.and_eq_false_iff, Bool.or_eq_false_iff, Bool.not_eq_true', Bool.not_eq_false', ne_eq, Decidable.not_not] at hc5
            refine WP.seq ?_
            refine WP.region ?_
            refine WPl.s1 (o_sta S4 rfl rfl rfl rfl rfl) ?_
            refine WPl.nil ?_
            refine EX.then ?_
            refine WP.ret ?_
            refine EX.ret_then ?_
            refine EX.ret_blk ?_
            refine EX.ret_then ?_
            refine EX.ret_then ?_
            refine EX.ret_blk ?_
            refine EX.ret_blk ?_
            refine EX.ret_then ?_
            refine EX.ret_then ?_
            refine EX.ret_blk ?_
            refine EX.ret_then ?_
            rw [show f.wPlan plan = false from by simp only [Fnd.wPlan, Bool.and_eq_false_iff]; exact .inl (.inr (not_allI (show i < _ by omega) (by simp only [Fnd.rowW, Bool.and_eq_false_iff]; exact .inr (not_allI (show j < _ by omega) (by simpa [rowFits] using hc5)))))]
            exact EX.fin id (.inl rfl) rfl (.cell1 S4 rfl rfl (.nil)) rfl (by simp [SV.res, El.res, At.res, keys]) trivial (by simp) (by simp)
          · try simp only [decide_eq_true_eq, decide_eq_false_iff_not, Bool.and_eq_true, Bool.or_eq_true, Bool.and_eq_false_iff, Bool.or_eq_false_iff, Bool.not_eq_true', Bool.not_eq_false', ne_eq, Decidable.not_not] at hc5
            refine WP.skip ?_
            refine EX.then ?_
            refine WP.region ?_
            refine WPl.v rfl (o_move rfl) ?_
            refine WPl.v rfl (o_idxp A110 rfl rfl (by first | omega | (simp; omega)) (by first | omega | (simp; omega))) ?_
            refine WPl.v rfl (o_ldpn (n := 4) (l := takeTo (leftAt f.shop.pigs plan i) (nth plan i) j) S3 rfl rfl rfl (by first | omega | (simp; omega)) (by first | omega | (simp; omega))) ?_
            refine WPl.v rfl (o_move rfl) ?_
            have hw5 := hc5
            simp only [within, Bool.and_eq_true, decide_eq_true_eq] at hw5
            refine WPl.v rfl (o_sub rfl rfl (by first | omega | (simp; omega)) (by first | omega | (simp; omega))) ?_
            refine WPl.v rfl (o_idxp A110 rfl rfl (by first | omega | (simp; omega)) (by first | omega | (simp; omega))) ?_
            refine WPl.s1 (o_stpn (n := 4) (l := takeTo (leftAt f.shop.pigs plan i) (nth plan i) j) (cs' := [ai (nth (lset (takeTo (leftAt f.shop.pigs plan i) (nth plan i) j) (j : Int) ((nth (takeTo (leftAt f.shop.pigs plan i) (nth plan i) j) (j : Int)) - (nth (nth plan (i : Int)) (j : Int)))) 0), ai (nth (lset (takeTo (leftAt f.shop.pigs plan i) (nth plan i) j) (j : Int) ((nth (takeTo (leftAt f.shop.pigs plan i) (nth plan i) j) (j : Int)) - (nth (nth plan (i : Int)) (j : Int)))) 1), ai (nth (lset (takeTo (leftAt f.shop.pigs plan i) (nth plan i) j) (j : Int) ((nth (takeTo (leftAt f.shop.pigs plan i) (nth plan i) j) (j : Int)) - (nth (nth plan (i : Int)) (j : Int)))) 2), ai (nth (lset (takeTo (leftAt f.shop.pigs plan i) (nth plan i) j) (j : Int) ((nth (takeTo (leftAt f.shop.pigs plan i) (nth plan i) j) (j : Int)) - (nth (nth plan (i : Int)) (j : Int)))) 3)]) S3 rfl rfl rfl rfl rfl (by first | exact leftAt_len _ _ _ | (rw [takeTo_len]; exact leftAt_len _ _ _)) (by first | omega | (simp; omega)) (by first | omega | (simp; omega))) ?_
            refine WPl.nil ?_
            refine EX.blk ?_
            refine EX.then ?_
            refine WP.region ?_
            refine WPl.v rfl (o_add rfl rfl (by first | omega | (simp; omega)) (by first | omega | (simp; omega))) ?_
            refine WPl.v rfl (o_move rfl) ?_
            refine WPl.nil ?_
            refine EX.again (j + 1) id (by exact ⟨by omega, by simp only [allI, hfit, Bool.true_and]; simpa [rowFits] using hc5⟩) (by omega) (LeR.of ⟨rfl, rfl, rfl, rfl, rfl, rfl, rfl, rfl, rfl, rfl, rfl, rfl, rfl, rfl, rfl, rfl, rfl, rfl, rfl, rfl, rfl, rfl, rfl, rfl, trivial⟩ ⟨(lx rfl), (lx rfl), (lx rfl), (lx rfl), (lx rfl), trivial⟩ ⟨rfl, rfl, rfl, trivial⟩ rfl rfl rfl rfl rfl)
        · try simp only [decide_eq_true_eq, decide_eq_false_iff_not, Bool.and_eq_true, Bool.or_eq_true, Bool.and_eq_false_iff, Bool.or_eq_false_iff, Bool.not_eq_true', Bool.not_eq_false', ne_eq, Decidable.not_not] at hc4
          refine WP.exit ?_
          refine EX.exit_then ?_
          refine EX.exit_then ?_
          refine EX.exit_blk ?_
          refine EX.blk ?_
          refine EX.then ?_
          refine WP.region ?_
          refine WPl.v rfl (o_add rfl rfl (by first | omega | (simp; omega)) (by first | omega | (simp; omega))) ?_
          refine WPl.v rfl (o_move rfl) ?_
          refine WPl.nil ?_
          have hrow : f.rowW plan i = true := by simp only [Fnd.rowW, Bool.and_eq_true, decide_eq_true_eq]; exact ⟨by omega, by rw [show (nth plan i).length = j by omega]; exact hfit⟩
          refine EX.again (i + 1) id (by exact ⟨by omega, by simp only [allI, hrows, Bool.true_and]; exact hrow⟩) (by omega) (LeR.of ⟨rfl, rfl, rfl, rfl, rfl, rfl, rfl, trivial⟩ ⟨(lx rfl), (lx rfl), trivial⟩ ⟨rfl, rfl, (congrArg (fun z => some (Ent.blk z 110)) (List.cons_eq_cons.2 ⟨(congrArg (fun z => ai z) (show (nth (takeTo (leftAt f.shop.pigs plan i) (nth plan i) j) 0) = ((fun i => nth (leftAt f.shop.pigs plan i) 0) (i + 1)) from by dsimp only; rw [show leftAt f.shop.pigs plan (i + 1) = takeTo (leftAt f.shop.pigs plan i) (nth plan i) (nth plan i).length from rfl, show (nth plan i).length = j by omega])), (List.cons_eq_cons.2 ⟨(congrArg (fun z => ai z) (show (nth (takeTo (leftAt f.shop.pigs plan i) (nth plan i) j) 1) = ((fun i => nth (leftAt f.shop.pigs plan i) 1) (i + 1)) from by dsimp only; rw [show leftAt f.shop.pigs plan (i + 1) = takeTo (leftAt f.shop.pigs plan i) (nth plan i) (nth plan i).length from rfl, show (nth plan i).length = j by omega])), (List.cons_eq_cons.2 ⟨(congrArg (fun z => ai z) (show (nth (takeTo (leftAt f.shop.pigs plan i) (nth plan i) j) 2) = ((fun i => nth (leftAt f.shop.pigs plan i) 2) (i + 1)) from by dsimp only; rw [show leftAt f.shop.pigs plan (i + 1) = takeTo (leftAt f.shop.pigs plan i) (nth plan i) (nth plan i).length from rfl, show (nth plan i).length = j by omega])), (List.cons_eq_cons.2 ⟨(congrArg (fun z => ai z) (show (nth (takeTo (leftAt f.shop.pigs plan i) (nth plan i) j) 3) = ((fun i => nth (leftAt f.shop.pigs plan i) 3) (i + 1)) from by dsimp only; rw [show leftAt f.shop.pigs plan (i + 1) = takeTo (leftAt f.shop.pigs plan i) (nth plan i) (nth plan i).length from rfl, show (nth plan i).length = j by omega])), (Eq.refl [])⟩)⟩)⟩)⟩)), trivial⟩ rfl rfl rfl rfl rfl)
    · try simp only [decide_eq_true_eq, decide_eq_false_iff_not, Bool.and_eq_true, Bool.or_eq_true, Bool.and_eq_false_iff, Bool.or_eq_false_iff, Bool.not_eq_true', Bool.not_eq_false', ne_eq, Decidable.not_not] at hc2
      refine WP.exit ?_
      refine EX.exit_then ?_
      refine EX.exit_then ?_
      refine EX.exit_blk ?_
      refine EX.then ?_
      refine WP.seq ?_
      refine WP.seq ?_
      refine WP.region ?_
      refine WPl.v rfl (o_ldp S95 rfl rfl rfl) ?_
      refine WPl.v rfl (o_move rfl) ?_
      have he : i = plan.length := by omega
      subst he
      have hPB := wrows_planB hpg (by omega) hrows
      refine WPl.cs 8 rfl rfl rfl rfl (o_sig 7 (ren [(0, 0), (1, 1)]) (c80 f r plan hf hPB) e80 rfl rfl rfl w80 ⟨(lx rfl), (lx rfl), trivial⟩ r80) ?_
      refine WPl.nil ?_
      refine EX.then ?_
      refine WP.block ?_
      refine WP.leR (S' := ⟨8, [(2, .e (.a (.p 2 (0)))), (4, .e (.a (.p 3 (0)))), (66, .e (.a (.q 7)))], [(0, PP (EWk r) (f)), (7, ItP Try.prog (nightItems f plan))], [(2, .blk [.q 0] 95), (3, .blk [.v (.bool (false))] 4)], [], []⟩) id (LeR.of ⟨rfl, rfl, rfl, trivial⟩ ⟨(lx rfl), (lx rfl), trivial⟩ ⟨rfl, rfl, trivial⟩ rfl rfl rfl rfl rfl) ?_
      refine WP.imp (Imp.nam 8 9 (.bool true) (R := Pred.pure (allI (fun i => f.fitsP (f.at plan i)) 0 = true)) (fun _ => rfl) rfl rfl) ?_
      refine WP.rangeG 12 0 (f.nights.length) (fun g => ⟨[.i ((g : Int)), .e (.g [ai ((f.at plan g).pounds), ai ((f.at plan g).tl), ai ((f.at plan g).th), ai ((f.at plan g).al), ai ((f.at plan g).ah), ai ((f.at plan g).dl), ai ((f.at plan g).dh)])], [], []⟩) (fun g => ⟨12, [(2, .e (.a (.p 2 (0)))), (4, .e (.a (.p 3 (0)))), (66, .e (.a (.q 7)))], [(0, PP (EWk r) (f)), (7, ItP Try.prog (nightItems f plan)), (11, Pred.pure (allI (fun i => f.fitsP (f.at plan i)) g = true))], [(2, .blk [.q 0] 95), (3, .blk [.v (.bool (false))] 4), (9, .ob (.deferred (some [])))], [9], []⟩) (fun c T => (f.wPlan plan = false ∧ c = .ret ∧ T = ⟨12, [(2, .e (.a (.p 2 (0)))), (4, .e (.a (.p 3 (0)))), (66, .e (.a (.q 7)))], [(0, PP (EWk r) (f)), (7, ItP Try.prog (nightItems f plan))], [(2, .blk [.q 0] 95), (3, .blk [.v (.bool (false))] 4), (9, .ob (.deferred (some [])))], [9], []⟩)) rfl rfl (lx rfl) (rfl) (fun _ => RSt.of rfl rfl rfl rfl rfl rfl) ((by rintro c T (⟨_, rfl, rfl⟩) <;> exact RSt.of rfl rfl rfl rfl rfl rfl)) rfl rfl rfl (fun _ _ => ItemOK.of rfl) rfl rfl (ren [(11, 8)]) (LeR.of ⟨rfl, rfl, rfl, trivial⟩ ⟨(lx rfl), (lx rfl), (lx rfl), trivial⟩ ⟨rfl, rfl, rfl, trivial⟩ rfl rfl rfl rfl rfl) ?_ ?_ ?_
      · intro g hg w1 E1 I1 R1 pβ1 pν1 us1
        refine WP.pure 11 (lx rfl) fun hinv1 => ?_
        refine WP.region ?_
        refine WPl.l 12 13 rfl rfl rfl (o_alloc Z105) ?_
        refine WPl.s1 (o_stag G105 rfl rfl rfl ⟨rfl, rfl, rfl, rfl, rfl, rfl, rfl, trivial⟩ rfl rfl) ?_
        refine WPl.nil ?_
        refine EX.beg rfl ?_
        refine WP.block ?_
        refine WP.seq ?_
        refine WP.region ?_
        refine WPl.v rfl (o_ldp S95 rfl rfl rfl) ?_
        refine WPl.v rfl (o_ldpa G105 rfl rfl rfl) ?_
        refine WPl.cs 13 rfl rfl rfl rfl (o_sig 13 (ren [(0, 0)]) (c127 f r (f.at plan g) 2100000 (at_bnd hf hPB (by have := hPB.1; omega)) (by omega)) e127 rfl rfl rfl w127 ⟨(lx rfl), trivial⟩ r127) ?_
        refine WPl.v rfl (o_not rfl) ?_
        refine WPl.nil ?_
        refine EX.then ?_
        refine WP.cond rfl (fun hc6 => ?_) (fun hc6 => ?_)
        · try simp only [decide_eq_true_eq, decide_eq_false_iff_not, Bool.and_eq_true, Bool.or_eq_true, Bool.and_eq_false_iff, Bool.or_eq_false_iff, Bool.not_eq_true', Bool.not_eq_false', ne_eq, Decidable.not_not] at hc6
          refine WP.seq ?_
          refine WP.region ?_
          refine WPl.s1 (o_sta S4 rfl rfl rfl rfl rfl) ?_
          refine WPl.nil ?_
          refine EX.then ?_
          refine WP.ret ?_
          refine EX.ret_blk ?_
          exact EX.jret id ⟨(by simp only [Fnd.wPlan, Bool.and_eq_false_iff]; exact .inr (not_allI hg (by simpa using hc6))), rfl, rfl⟩ (LeR.of trivial ⟨(lx rfl), (lx rfl), trivial⟩ ⟨rfl, rfl, rfl, rfl, trivial⟩ rfl rfl rfl rfl rfl)
        · try simp only [decide_eq_true_eq, decide_eq_false_iff_not, Bool.and_eq_true, Bool.or_eq_true, Bool.and_eq_false_iff, Bool.or_eq_false_iff, Bool.not_eq_true', Bool.not_eq_false', ne_eq, Decidable.not_not] at hc6
          refine WP.skip ?_
          refine EX.blk ?_
          have hinvn : allI (fun i => f.fitsP (f.at plan i)) (g + 1) = true := by simp only [allI, hinv1, Bool.true_and]; simpa using hc6
          refine EX.imp (Imp.nam 13 14 (.bool true) (R := Pred.pure (allI (fun i => f.fitsP (f.at plan i)) (g + 1) = true)) (fun _ => hinvn) rfl rfl) ?_
          exact EX.next (ren [(11, 13)]) (LeR.of trivial ⟨(lx rfl), (lx rfl), (lx rfl), trivial⟩ ⟨rfl, rfl, rfl, rfl, trivial⟩ rfl rfl rfl rfl rfl)
      · rintro c T (⟨hj, rfl, rfl⟩)
        · skip
          refine WP.ret ?_
          refine EX.ret_blk ?_
          refine EX.ret_then ?_
          rw [hj]
          exact EX.fin id (.inl rfl) rfl (.cell1 S4 rfl rfl (.nil)) rfl (by simp [SV.res, El.res, At.res, keys]) trivial (marks rfl) (by simp)
      · refine EX.pure 11 (lx rfl) fun hinv1 => ?_
        refine EX.blk ?_
        refine EX.then ?_
        refine WP.seq ?_
        refine WP.region ?_
        refine WPl.s1 (o_sta S4 rfl rfl rfl rfl rfl) ?_
        refine WPl.nil ?_
        refine EX.then ?_
        refine WP.ret ?_
        rw [show f.wPlan plan = true from by simp only [Fnd.wPlan, Bool.and_eq_true, decide_eq_true_eq]; exact ⟨⟨by omega, hrows⟩, hinv1⟩]
        exact EX.fin id (.inl rfl) rfl (.cell1 S4 rfl rfl (.nil)) rfl (by simp [SV.res, El.res, At.res, keys]) trivial (marks rfl) (by simp)
theorem w89 {f : Fnd} {r : Option Nat} {plan : List (List Int)} : ∀ x ∈ ([.e (.a (.q 0)), .e (.a (.q 1))] : List SV), x.res (keys (α := Pred) [(0, PP (EWk r) (f)), (1, PL (EP.sl EP.int) (plan))]) := by simp [SV.res, El.res, At.res, keys]
theorem r89 {f : Fnd} {plan : List (List Int)} : SV.res (keys (α := Pred) [(0, PL EP.int (f.wFails plan))]) (.e (.a (.q 0))) := by simp [SV.res, El.res, At.res, keys]
set_option maxHeartbeats 4000000 in
theorem c89 (f : Fnd) (r : Option Nat) (plan : List (List Int)) (hf : f.chk = true) (hp : PlanB f plan) : Sig Try.prog 89 [.e (.a (.q 0)), .e (.a (.q 1))] [(0, PP (EWk r) (f)), (1, PL (EP.sl EP.int) (plan))] (.e (.a (.q 0))) [(0, PL EP.int (f.wFails plan))] := by
  have hl := hp.1
  have hn4 := (Fnd.nightsOK hf).2
  have hwl := wFailsTo_len f plan
  refine Sig.intro Try.func89 rfl 2 [(0, .e (.a (.q 0))), (1, .e (.a (.q 1)))] rfl w89 rfl rfl fun I w => ?_
  refine WP.seq ?_
  refine WP.region ?_
  refine WPl.l 2 3 rfl rfl rfl (o_boxa rfl (.inl ⟨_, (lx rfl), PP.one⟩)) ?_
  refine WPl.l 3 4 rfl rfl rfl (o_alloc Z44) ?_
  refine WPl.nil ?_
  refine EX.then ?_
  refine WP.seq ?_
  refine WP.seq ?_
  refine WP.region ?_
  refine WPl.v rfl (o_ldp S95 rfl rfl rfl) ?_
  refine WPl.v rfl (o_move rfl) ?_
  refine WPl.cs 5 rfl rfl rfl rfl (o_sig 4 (ren [(0, 0), (1, 1)]) (c80 f r plan hf hp) e80 rfl rfl rfl w80 ⟨(lx rfl), (lx rfl), trivial⟩ r80) ?_
  refine WPl.nil ?_
  refine EX.then ?_
  refine WP.block ?_
  refine WP.leR (S' := ⟨5, [(2, .e (.a (.p 2 (0)))), (4, .e (.a (.p 3 (0)))), (9, .e (.a (.q 4)))], [(0, PP (EWk r) (f)), (4, ItP Try.prog (nightItems f plan))], [(2, .blk [.q 0] 95), (3, .blk [.v (.slice none 0 0)] 44)], [], []⟩) id (LeR.of ⟨rfl, rfl, rfl, trivial⟩ ⟨(lx rfl), (lx rfl), trivial⟩ ⟨rfl, rfl, trivial⟩ rfl rfl rfl rfl rfl) ?_
  refine WP.imp (Imp.namo EP.int 5 6 3 rfl rfl) ?_
  refine WP.imp (Imp.swL 3 0 5 rfl rfl (lx rfl)) ?_
  refine WP.rangeG 9 0 (f.nights.length) (fun g => ⟨[.i ((g : Int)), .e (.g [ai ((f.at plan g).pounds), ai ((f.at plan g).tl), ai ((f.at plan g).th), ai ((f.at plan g).al), ai ((f.at plan g).ah), ai ((f.at plan g).dl), ai ((f.at plan g).dh)])], [], []⟩) (fun g => ⟨9, [(2, .e (.a (.p 2 (0)))), (4, .e (.a (.p 3 (0)))), (9, .e (.a (.q 4)))], [(0, PP (EWk r) (f)), (4, ItP Try.prog (nightItems f plan)), (5, Pred.is (.slice none 0 0))], [(2, .blk [.q 0] 95), (3, .blk [.q 8] 44), (6, .ob (.deferred (some []))), (8, .own 3 EP.int.size (f.wFailsTo plan g).length (RP EP.int (f.wFailsTo plan g)))], [6], []⟩) (fun _ _ => False) rfl rfl (lx rfl) (rfl) (fun _ => RSt.of rfl rfl rfl rfl rfl rfl) (fun _ _ h => h.elim) rfl rfl rfl (fun _ _ => ItemOK.of rfl) rfl rfl (ren [(8, 5)]) (LeR.of ⟨rfl, rfl, rfl, trivial⟩ ⟨(lx rfl), (lx rfl), (lx rfl), trivial⟩ ⟨rfl, rfl, rfl, rfl, trivial⟩ rfl rfl rfl rfl rfl) ?_ ?_ ?_
  · intro g hg w1 E1 I1 R1 pβ1 pν1 us1
    refine WP.seq ?_
    refine WP.region ?_
    refine WPl.v rfl (o_assign rfl) ?_
    refine WPl.nil ?_
    refine EX.then ?_
    refine WP.region ?_
    refine WPl.l 9 10 rfl rfl rfl (o_alloc Z105) ?_
    refine WPl.s1 (o_stag G105 rfl rfl rfl ⟨rfl, rfl, rfl, rfl, rfl, rfl, rfl, trivial⟩ rfl rfl) ?_
    refine WPl.nil ?_
    refine EX.beg rfl ?_
    refine WP.block ?_
    refine WP.seq ?_
    refine WP.region ?_
    refine WPl.v rfl (o_ldp S95 rfl rfl rfl) ?_
    refine WPl.v rfl (o_ldpa G105 rfl rfl rfl) ?_
    refine WPl.cs 10 rfl rfl rfl rfl (o_sig 10 (ren [(0, 0)]) (c135 f r (f.at plan g) 2100000 (at_bnd hf hp (by omega)) (by omega) (Fnd.shopOK hf)) e135 rfl rfl rfl w135 ⟨(lx rfl), trivial⟩ r135) ?_
    refine WPl.v rfl (o_not rfl) ?_
    refine WPl.nil ?_
    refine EX.then ?_
    refine WP.cond rfl (fun hc1 => ?_) (fun hc1 => ?_)
    · try simp only [decide_eq_true_eq, decide_eq_false_iff_not, Bool.and_eq_true, Bool.or_eq_true, Bool.and_eq_false_iff, Bool.or_eq_false_iff, Bool.not_eq_true', Bool.not_eq_false', ne_eq, Decidable.not_not] at hc1
      refine WP.region ?_
      refine WPl.v rfl (o_ldp S44 rfl rfl rfl) ?_
      refine WPl.v rfl (o_move rfl) ?_
      refine WPl.u1 (k := 10) (m := 11) rfl rfl rfl (OpG.newer0 (o_bsl (E := EP.int) (l := [(g : Int)]) R44 rfl rfl (.cons (rfl) rfl (eok_int) (.nil)) rfl rfl)) ?_
      have hwg := hwl g
      refine WPl.u1 (k := 11) (m := 12) rfl rfl rfl (o_appo R44 EP.int_one rfl rfl rfl rfl (by first | omega | (simp; omega) | (simp at *; omega)) (by first | omega | (simp; omega) | (simp at *; omega))) ?_
      refine WPl.s1 (o_sta S44 rfl rfl rfl (.inr ⟨_, _, _, _, rfl⟩) rfl) ?_
      refine WPl.nil ?_
      refine EX.blk ?_
      exact EX.next (ren [(8, 11)]) (LeR.of trivial ⟨(lx rfl), (lx rfl), (lx rfl), trivial⟩ ⟨rfl, rfl, rfl, rfl, (congrArg (fun z => some (Ent.own 3 EP.int.size (List.length z) (RP EP.int z))) (show ((f.wFailsTo plan g) ++ [(g : Int)]) = ((fun g => f.wFailsTo plan g) (g + 1)) from by simp [Fnd.wFailsTo, hc1])), trivial⟩ rfl rfl rfl rfl rfl)
    · try simp only [decide_eq_true_eq, decide_eq_false_iff_not, Bool.and_eq_true, Bool.or_eq_true, Bool.and_eq_false_iff, Bool.or_eq_false_iff, Bool.not_eq_true', Bool.not_eq_false', ne_eq, Decidable.not_not] at hc1
      refine WP.skip ?_
      refine EX.blk ?_
      exact EX.next id (LeR.of trivial ⟨(lx rfl), (lx rfl), (lx rfl), trivial⟩ ⟨rfl, rfl, rfl, rfl, (congrArg (fun z => some (Ent.own 3 EP.int.size (List.length z) (RP EP.int z))) (show (f.wFailsTo plan g) = ((fun g => f.wFailsTo plan g) (g + 1)) from by simp [Fnd.wFailsTo, hc1])), trivial⟩ rfl rfl rfl rfl rfl)
  · exact fun _ _ h => h.elim
  · skip
    refine EX.blk ?_
    refine EX.then ?_
    refine WP.seq ?_
    refine WP.region ?_
    refine WPl.v rfl (o_ldp S44 rfl rfl rfl) ?_
    refine WPl.s1 (o_sta S44 rfl rfl rfl (.inr ⟨_, _, _, _, rfl⟩) rfl) ?_
    refine WPl.nil ?_
    refine EX.then ?_
    refine WP.ret ?_
    refine EX.imp (Imp.frz (E := EP.int) (l := f.wFailsTo plan f.nights.length) 8 rfl rfl) ?_
    exact EX.fin (ren [(0, 8)]) (.inl rfl) rfl (.cell1 S44 rfl rfl (.nil)) rfl r89 ⟨(lx rfl), trivial⟩ (marks rfl) (by simp)
theorem w89O {f : Fnd} {r : Option Nat} {plan : List (List Int)} : ∀ x ∈ ([.e (.a (.q 0)), .e (.a (.q 1))] : List SV), x.res (keys (α := Pred) [(0, PP (EWk r) (f)), (1, PL (EP.sl EP.int) (plan))]) := by simp [SV.res, El.res, At.res, keys]
theorem r89O  : SV.res (keys (α := Pred) [(0, Pred.top)]) (.e (.a (.q 0))) := by simp [SV.res, El.res, At.res, keys]
set_option maxHeartbeats 4000000 in
theorem c89O (f : Fnd) (r : Option Nat) (plan : List (List Int)) (hf : f.chk = true) (hp : PlanB f plan) : SigO Try.prog 89 [.e (.a (.q 0)), .e (.a (.q 1))] [(0, PP (EWk r) (f)), (1, PL (EP.sl EP.int) (plan))] (.e (.a (.q 0))) [(0, Pred.top)] [(0, .own 3 EP.int.size (f.wFails plan).length (RP EP.int (f.wFails plan)))] := by
  have hl := hp.1
  have hn4 := (Fnd.nightsOK hf).2
  have hwl := wFailsTo_len f plan
  refine SigO.intro Try.func89 rfl 2 [(0, .e (.a (.q 0))), (1, .e (.a (.q 1)))] rfl w89O rfl rfl fun I w => ?_
  refine WP.seq ?_
  refine WP.region ?_
  refine WPl.l 2 3 rfl rfl rfl (o_boxa rfl (.inl ⟨_, (lx rfl), PP.one⟩)) ?_
  refine WPl.l 3 4 rfl rfl rfl (o_alloc Z44) ?_
  refine WPl.nil ?_
  refine EX.then ?_
  refine WP.seq ?_
  refine WP.seq ?_
  refine WP.region ?_
  refine WPl.v rfl (o_ldp S95 rfl rfl rfl) ?_
  refine WPl.v rfl (o_move rfl) ?_
  refine WPl.cs 5 rfl rfl rfl rfl (o_sig 4 (ren [(0, 0), (1, 1)]) (c80 f r plan hf hp) e80 rfl rfl rfl w80 ⟨(lx rfl), (lx rfl), trivial⟩ r80) ?_
  refine WPl.nil ?_
  refine EX.then ?_
  refine WP.block ?_
  refine WP.leR (S' := ⟨5, [(2, .e (.a (.p 2 (0)))), (4, .e (.a (.p 3 (0)))), (9, .e (.a (.q 4)))], [(0, PP (EWk r) (f)), (4, ItP Try.prog (nightItems f plan))], [(2, .blk [.q 0] 95), (3, .blk [.v (.slice none 0 0)] 44)], [], []⟩) id (LeR.of ⟨rfl, rfl, rfl, trivial⟩ ⟨(lx rfl), (lx rfl), trivial⟩ ⟨rfl, rfl, trivial⟩ rfl rfl rfl rfl rfl) ?_
  refine WP.imp (Imp.namo EP.int 5 6 3 rfl rfl) ?_
  refine WP.imp (Imp.swL 3 0 5 rfl rfl (lx rfl)) ?_
  refine WP.rangeG 9 0 (f.nights.length) (fun g => ⟨[.i ((g : Int)), .e (.g [ai ((f.at plan g).pounds), ai ((f.at plan g).tl), ai ((f.at plan g).th), ai ((f.at plan g).al), ai ((f.at plan g).ah), ai ((f.at plan g).dl), ai ((f.at plan g).dh)])], [], []⟩) (fun g => ⟨9, [(2, .e (.a (.p 2 (0)))), (4, .e (.a (.p 3 (0)))), (9, .e (.a (.q 4)))], [(0, PP (EWk r) (f)), (4, ItP Try.prog (nightItems f plan)), (5, Pred.is (.slice none 0 0))], [(2, .blk [.q 0] 95), (3, .blk [.q 8] 44), (6, .ob (.deferred (some []))), (8, .own 3 EP.int.size (f.wFailsTo plan g).length (RP EP.int (f.wFailsTo plan g)))], [6], []⟩) (fun _ _ => False) rfl rfl (lx rfl) (rfl) (fun _ => RSt.of rfl rfl rfl rfl rfl rfl) (fun _ _ h => h.elim) rfl rfl rfl (fun _ _ => ItemOK.of rfl) rfl rfl (ren [(8, 5)]) (LeR.of ⟨rfl, rfl, rfl, trivial⟩ ⟨(lx rfl), (lx rfl), (lx rfl), trivial⟩ ⟨rfl, rfl, rfl, rfl, trivial⟩ rfl rfl rfl rfl rfl) ?_ ?_ ?_
  · intro g hg w1 E1 I1 R1 pβ1 pν1 us1
    refine WP.seq ?_
    refine WP.region ?_
    refine WPl.v rfl (o_assign rfl) ?_
    refine WPl.nil ?_
    refine EX.then ?_
    refine WP.region ?_
    refine WPl.l 9 10 rfl rfl rfl (o_alloc Z105) ?_
    refine WPl.s1 (o_stag G105 rfl rfl rfl ⟨rfl, rfl, rfl, rfl, rfl, rfl, rfl, trivial⟩ rfl rfl) ?_
    refine WPl.nil ?_
    refine EX.beg rfl ?_
    refine WP.block ?_
    refine WP.seq ?_
    refine WP.region ?_
    refine WPl.v rfl (o_ldp S95 rfl rfl rfl) ?_
    refine WPl.v rfl (o_ldpa G105 rfl rfl rfl) ?_
    refine WPl.cs 10 rfl rfl rfl rfl (o_sig 10 (ren [(0, 0)]) (c135 f r (f.at plan g) 2100000 (at_bnd hf hp (by omega)) (by omega) (Fnd.shopOK hf)) e135 rfl rfl rfl w135 ⟨(lx rfl), trivial⟩ r135) ?_
    refine WPl.v rfl (o_not rfl) ?_
    refine WPl.nil ?_
    refine EX.then ?_
    refine WP.cond rfl (fun hc1 => ?_) (fun hc1 => ?_)
    · try simp only [decide_eq_true_eq, decide_eq_false_iff_not, Bool.and_eq_true, Bool.or_eq_true, Bool.and_eq_false_iff, Bool.or_eq_false_iff, Bool.not_eq_true', Bool.not_eq_false', ne_eq, Decidable.not_not] at hc1
      refine WP.region ?_
      refine WPl.v rfl (o_ldp S44 rfl rfl rfl) ?_
      refine WPl.v rfl (o_move rfl) ?_
      refine WPl.u1 (k := 10) (m := 11) rfl rfl rfl (OpG.newer0 (o_bsl (E := EP.int) (l := [(g : Int)]) R44 rfl rfl (.cons (rfl) rfl (eok_int) (.nil)) rfl rfl)) ?_
      have hwg := hwl g
      refine WPl.u1 (k := 11) (m := 12) rfl rfl rfl (o_appo R44 EP.int_one rfl rfl rfl rfl (by first | omega | (simp; omega) | (simp at *; omega)) (by first | omega | (simp; omega) | (simp at *; omega))) ?_
      refine WPl.s1 (o_sta S44 rfl rfl rfl (.inr ⟨_, _, _, _, rfl⟩) rfl) ?_
      refine WPl.nil ?_
      refine EX.blk ?_
      exact EX.next (ren [(8, 11)]) (LeR.of trivial ⟨(lx rfl), (lx rfl), (lx rfl), trivial⟩ ⟨rfl, rfl, rfl, rfl, (congrArg (fun z => some (Ent.own 3 EP.int.size (List.length z) (RP EP.int z))) (show ((f.wFailsTo plan g) ++ [(g : Int)]) = ((fun g => f.wFailsTo plan g) (g + 1)) from by simp [Fnd.wFailsTo, hc1])), trivial⟩ rfl rfl rfl rfl rfl)
    · try simp only [decide_eq_true_eq, decide_eq_false_iff_not, Bool.and_eq_true, Bool.or_eq_true, Bool.and_eq_false_iff, Bool.or_eq_false_iff, Bool.not_eq_true', Bool.not_eq_false', ne_eq, Decidable.not_not] at hc1
      refine WP.skip ?_
      refine EX.blk ?_
      exact EX.next id (LeR.of trivial ⟨(lx rfl), (lx rfl), (lx rfl), trivial⟩ ⟨rfl, rfl, rfl, rfl, (congrArg (fun z => some (Ent.own 3 EP.int.size (List.length z) (RP EP.int z))) (show (f.wFailsTo plan g) = ((fun g => f.wFailsTo plan g) (g + 1)) from by simp [Fnd.wFailsTo, hc1])), trivial⟩ rfl rfl rfl rfl rfl)
  · exact fun _ _ h => h.elim
  · skip
    refine EX.blk ?_
    refine EX.then ?_
    refine WP.seq ?_
    refine WP.region ?_
    refine WPl.v rfl (o_ldp S44 rfl rfl rfl) ?_
    refine WPl.s1 (o_sta S44 rfl rfl rfl (.inr ⟨_, _, _, _, rfl⟩) rfl) ?_
    refine WPl.nil ?_
    refine EX.then ?_
    refine WP.ret ?_
    refine EX.imp (Imp.topX 8 rfl) ?_
    exact EX.finO (ren [(0, 8)]) rfl (.inl rfl) rfl (.cell1 S44 rfl rfl (.nil)) rfl r89O ⟨lx rfl, trivial⟩ ⟨rfl, trivial⟩ rfl rfl (marks rfl) (by simp)
theorem w76N {f : Fnd} : ∀ x ∈ ([.e (.g [ai (f.shop.pounds), ai (f.shop.tl), ai (f.shop.th), ai (f.shop.al), ai (f.shop.ah), ai (f.shop.room), ai (f.shop.tpl), ai (f.shop.tph), ai (f.shop.apl), ai (f.shop.aph), .q 0, .q 1]), .e (.a (.v (.nilFunc)))] : List SV), x.res (keys (α := Pred) [(0, PL EPig (f.shop.pigs)), (1, PL ENight (f.nights))]) := by simp [SV.res, El.res, At.res, keys]
set_option maxHeartbeats 4000000 in
theorem c76N (f : Fnd) (hf : f.chk = true) : SigM Try.prog 76 [.e (.g [ai (f.shop.pounds), ai (f.shop.tl), ai (f.shop.th), ai (f.shop.al), ai (f.shop.ah), ai (f.shop.room), ai (f.shop.tpl), ai (f.shop.tph), ai (f.shop.apl), ai (f.shop.aph), .q 0, .q 1]), .e (.a (.v (.nilFunc)))] [(0, PL EPig (f.shop.pigs)), (1, PL ENight (f.nights))] true 12 (.t [.a (.q 0), .a (ai (0))]) (fun b => [(0, PP (EWk (some b)) (f))]) := by
  have hch : errW f.chk = 0 := by simp [hf, errW]
  refine SigM.intro Try.func76 rfl 2 [(0, .e (.g [ai (f.shop.pounds), ai (f.shop.tl), ai (f.shop.th), ai (f.shop.al), ai (f.shop.ah), ai (f.shop.room), ai (f.shop.tpl), ai (f.shop.tph), ai (f.shop.apl), ai (f.shop.aph), .q 0, .q 1])), (1, .e (.a (.v (.nilFunc))))] rfl w76N rfl rfl fun I w => ?_
  refine WP.seq ?_
  refine WP.region ?_
  refine WPl.l 2 3 rfl rfl rfl (o_boxg rfl) ?_
  refine WPl.v rfl (o_assign rfl) ?_
  refine WPl.v rfl (o_assign rfl) ?_
  refine WPl.nil ?_
  refine EX.then ?_
  refine WP.seq ?_
  refine WP.region ?_
  refine WPl.v rfl (o_ldpa G31 rfl rfl rfl) ?_
  refine WPl.mkmap true 12 3 4 rfl rfl rfl fun b9 => ?_
  refine WPl.v rfl (o_build B100 rfl ⟨rfl, trivial⟩ rfl rfl) ?_
  refine WPl.l 4 5 rfl rfl rfl (o_boxg rfl) ?_
  refine WPl.v rfl (o_assign rfl) ?_
  refine WPl.nil ?_
  refine EX.then ?_
  refine WP.seq ?_
  refine WP.seq ?_
  refine WP.region ?_
  refine WPl.v rfl (o_ldpa G31 rfl rfl rfl) ?_
  refine WPl.cs 5 rfl rfl rfl rfl (o_sig 5 (ren [(0, 0), (1, 1)]) (c21 f (by have := Fnd.chkB hf; omega)) e21 rfl rfl rfl w21 ⟨(lx rfl), (lx rfl), trivial⟩ r21) ?_
  refine WPl.v rfl (o_assign rfl) ?_
  refine WPl.nil ?_
  refine EX.then ?_
  refine WP.seq ?_
  refine WP.region ?_
  refine WPl.v rfl (o_move rfl) ?_
  refine WPl.v rfl (o_neq rfl rfl) ?_
  refine WPl.nil ?_
  refine EX.then ?_
  refine WP.cond rfl (fun hc1 => ?_) (fun hc1 => ?_)
  · try simp only [decide_eq_true_eq, decide_eq_false_iff_not, Bool.and_eq_true, Bool.or_eq_true, Bool.and_eq_false_iff, Bool.or_eq_false_iff, Bool.not_eq_true', Bool.not_eq_false', ne_eq, Decidable.not_not] at hc1
    simp [hch] at hc1
  · try simp only [decide_eq_true_eq, decide_eq_false_iff_not, Bool.and_eq_true, Bool.or_eq_true, Bool.and_eq_false_iff, Bool.or_eq_false_iff, Bool.not_eq_true', Bool.not_eq_false', ne_eq, Decidable.not_not] at hc1
    refine WP.skip ?_
    refine EX.then ?_
    refine WP.seq ?_
    refine WP.seq ?_
    refine WP.region ?_
    refine WPl.v rfl (o_move rfl) ?_
    refine WPl.v rfl (o_nenil Try.underlying101 rfl) ?_
    refine WPl.v rfl (o_move rfl) ?_
    refine WPl.off rfl ⟨_, _, rfl, rfl, rfl⟩ ?_
    refine WPl.off rfl ⟨_, _, rfl, rfl, rfl⟩ ?_
    refine WPl.off rfl ⟨_, _, rfl, rfl, rfl⟩ ?_
    refine WPl.off rfl ⟨_, _, rfl, rfl, rfl⟩ ?_
    refine WPl.v rfl (o_pickF rfl rfl) ?_
    refine WPl.nil ?_
    refine EX.then ?_
    refine WP.cond rfl (fun h => by cases h) (fun _ => ?_)
    refine WP.skip ?_
    refine EX.then ?_
    refine WP.seq ?_
    refine WP.region ?_
    refine WPl.v rfl (o_move rfl) ?_
    refine WPl.v rfl (o_assign rfl) ?_
    refine WPl.v rfl (o_assign rfl) ?_
    refine WPl.nil ?_
    refine EX.then ?_
    refine WP.ret ?_
    refine EX.imp (Imp.frzb (E := (EWk (some b9))) (y := f) 4 5 6 rfl rfl (bok_str ⟨rfl, rfl, rfl, rfl, rfl, rfl, rfl, rfl, rfl, rfl, ⟨_, rfl, (lx rfl)⟩, ⟨_, rfl, (lx rfl)⟩, .inl rfl, trivial⟩) rfl rfl rfl) ?_
    exact EX.finM (ren [(0, 5)]) 3 b9 rfl (.inl rfl) rfl (.tmp rfl (.tmp rfl .nil)) rfl (by simp [SV.res, El.res, At.res, keys]) ⟨(lx rfl), trivial⟩ rfl (by simp) (by simp)
theorem w76NE {f : Fnd} : ∀ x ∈ ([.e (.g [ai (f.shop.pounds), ai (f.shop.tl), ai (f.shop.th), ai (f.shop.al), ai (f.shop.ah), ai (f.shop.room), ai (f.shop.tpl), ai (f.shop.tph), ai (f.shop.apl), ai (f.shop.aph), .q 0, .q 1]), .e (.a (.v (.nilFunc)))] : List SV), x.res (keys (α := Pred) [(0, PL EPig (f.shop.pigs)), (1, PL ENight (f.nights))]) := by simp [SV.res, El.res, At.res, keys]
theorem r76NE  : SV.res (keys (α := Pred) []) (.t [.a (.v (.pointer none)), .a (ai (130))]) := by simp [SV.res, El.res, At.res, keys]
set_option maxHeartbeats 4000000 in
theorem c76NE (f : Fnd) (hf : f.chk = false) (hl : f.shop.pigs.length ≤ 40) : Sig Try.prog 76 [.e (.g [ai (f.shop.pounds), ai (f.shop.tl), ai (f.shop.th), ai (f.shop.al), ai (f.shop.ah), ai (f.shop.room), ai (f.shop.tpl), ai (f.shop.tph), ai (f.shop.apl), ai (f.shop.aph), .q 0, .q 1]), .e (.a (.v (.nilFunc)))] [(0, PL EPig (f.shop.pigs)), (1, PL ENight (f.nights))] (.t [.a (.v (.pointer none)), .a (ai (130))]) [] := by
  have hch : errW f.chk = 130 := by simp [hf, errW]
  refine Sig.intro Try.func76 rfl 2 [(0, .e (.g [ai (f.shop.pounds), ai (f.shop.tl), ai (f.shop.th), ai (f.shop.al), ai (f.shop.ah), ai (f.shop.room), ai (f.shop.tpl), ai (f.shop.tph), ai (f.shop.apl), ai (f.shop.aph), .q 0, .q 1])), (1, .e (.a (.v (.nilFunc))))] rfl w76NE rfl rfl fun I w => ?_
  refine WP.seq ?_
  refine WP.region ?_
  refine WPl.l 2 3 rfl rfl rfl (o_boxg rfl) ?_
  refine WPl.v rfl (o_assign rfl) ?_
  refine WPl.v rfl (o_assign rfl) ?_
  refine WPl.nil ?_
  refine EX.then ?_
  refine WP.seq ?_
  refine WP.region ?_
  refine WPl.v rfl (o_ldpa G31 rfl rfl rfl) ?_
  refine WPl.mkmap true 12 3 4 rfl rfl rfl fun b9 => ?_
  refine WPl.v rfl (o_build B100 rfl ⟨rfl, trivial⟩ rfl rfl) ?_
  refine WPl.l 4 5 rfl rfl rfl (o_boxg rfl) ?_
  refine WPl.v rfl (o_assign rfl) ?_
  refine WPl.nil ?_
  refine EX.then ?_
  refine WP.seq ?_
  refine WP.seq ?_
  refine WP.region ?_
  refine WPl.v rfl (o_ldpa G31 rfl rfl rfl) ?_
  refine WPl.cs 5 rfl rfl rfl rfl (o_sig 5 (ren [(0, 0), (1, 1)]) (c21 f hl) e21 rfl rfl rfl w21 ⟨(lx rfl), (lx rfl), trivial⟩ r21) ?_
  refine WPl.v rfl (o_assign rfl) ?_
  refine WPl.nil ?_
  refine EX.then ?_
  refine WP.seq ?_
  refine WP.region ?_
  refine WPl.v rfl (o_move rfl) ?_
  refine WPl.v rfl (o_neq rfl rfl) ?_
  refine WPl.nil ?_
  refine EX.then ?_
  refine WP.cond rfl (fun hc1 => ?_) (fun hc1 => ?_)
  · try simp only [decide_eq_true_eq, decide_eq_false_iff_not, Bool.and_eq_true, Bool.or_eq_true, Bool.and_eq_false_iff, Bool.or_eq_false_iff, Bool.not_eq_true', Bool.not_eq_false', ne_eq, Decidable.not_not] at hc1
    refine WP.seq ?_
    refine WP.region ?_
    refine WPl.v rfl (o_move rfl) ?_
    refine WPl.v rfl (o_assign rfl) ?_
    refine WPl.v rfl (o_assign rfl) ?_
    refine WPl.nil ?_
    refine EX.then ?_
    refine WP.ret ?_
    refine EX.ret_then ?_
    rw [hch]
    exact EX.fin id (.inl rfl) rfl (.tmp rfl (.tmp rfl .nil)) rfl (by simp [SV.res, El.res, At.res, keys]) trivial (by simp) (by simp)
  · try simp only [decide_eq_true_eq, decide_eq_false_iff_not, Bool.and_eq_true, Bool.or_eq_true, Bool.and_eq_false_iff, Bool.or_eq_false_iff, Bool.not_eq_true', Bool.not_eq_false', ne_eq, Decidable.not_not] at hc1
    simp [hch] at hc1
theorem w76CE {f : Fnd} : ∀ x ∈ ([.e (.g [ai (f.shop.pounds), ai (f.shop.tl), ai (f.shop.th), ai (f.shop.al), ai (f.shop.ah), ai (f.shop.room), ai (f.shop.tpl), ai (f.shop.tph), ai (f.shop.apl), ai (f.shop.aph), .q 0, .q 1]), .e (.a (.q 2))] : List SV), x.res (keys (α := Pred) [(0, PL EPig (f.shop.pigs)), (1, PL ENight (f.nights)), (2, Pred.fn)]) := by simp [SV.res, El.res, At.res, keys]
theorem r76CE  : SV.res (keys (α := Pred) []) (.t [.a (.v (.pointer none)), .a (ai (130))]) := by simp [SV.res, El.res, At.res, keys]
set_option maxHeartbeats 4000000 in
theorem c76CE (f : Fnd) (hf : f.chk = false) (hl : f.shop.pigs.length ≤ 40) : Sig Try.prog 76 [.e (.g [ai (f.shop.pounds), ai (f.shop.tl), ai (f.shop.th), ai (f.shop.al), ai (f.shop.ah), ai (f.shop.room), ai (f.shop.tpl), ai (f.shop.tph), ai (f.shop.apl), ai (f.shop.aph), .q 0, .q 1]), .e (.a (.q 2))] [(0, PL EPig (f.shop.pigs)), (1, PL ENight (f.nights)), (2, Pred.fn)] (.t [.a (.v (.pointer none)), .a (ai (130))]) [] := by
  have hch : errW f.chk = 130 := by simp [hf, errW]
  refine Sig.intro Try.func76 rfl 3 [(0, .e (.g [ai (f.shop.pounds), ai (f.shop.tl), ai (f.shop.th), ai (f.shop.al), ai (f.shop.ah), ai (f.shop.room), ai (f.shop.tpl), ai (f.shop.tph), ai (f.shop.apl), ai (f.shop.aph), .q 0, .q 1])), (1, .e (.a (.q 2)))] rfl w76CE rfl rfl fun I w => ?_
  refine WP.seq ?_
  refine WP.region ?_
  refine WPl.l 3 4 rfl rfl rfl (o_boxg rfl) ?_
  refine WPl.v rfl (o_assign rfl) ?_
  refine WPl.v rfl (o_assign rfl) ?_
  refine WPl.nil ?_
  refine EX.then ?_
  refine WP.seq ?_
  refine WP.region ?_
  refine WPl.v rfl (o_ldpa G31 rfl rfl rfl) ?_
  refine WPl.mkmap true 12 4 5 rfl rfl rfl fun b9 => ?_
  refine WPl.v rfl (o_build B100 rfl ⟨rfl, trivial⟩ rfl rfl) ?_
  refine WPl.l 5 6 rfl rfl rfl (o_boxg rfl) ?_
  refine WPl.v rfl (o_assign rfl) ?_
  refine WPl.nil ?_
  refine EX.then ?_
  refine WP.seq ?_
  refine WP.seq ?_
  refine WP.region ?_
  refine WPl.v rfl (o_ldpa G31 rfl rfl rfl) ?_
  refine WPl.cs 6 rfl rfl rfl rfl (o_sig 6 (ren [(0, 0), (1, 1)]) (c21 f hl) e21 rfl rfl rfl w21 ⟨(lx rfl), (lx rfl), trivial⟩ r21) ?_
  refine WPl.v rfl (o_assign rfl) ?_
  refine WPl.nil ?_
  refine EX.then ?_
  refine WP.seq ?_
  refine WP.region ?_
  refine WPl.v rfl (o_move rfl) ?_
  refine WPl.v rfl (o_neq rfl rfl) ?_
  refine WPl.nil ?_
  refine EX.then ?_
  refine WP.cond rfl (fun hc1 => ?_) (fun hc1 => ?_)
  · try simp only [decide_eq_true_eq, decide_eq_false_iff_not, Bool.and_eq_true, Bool.or_eq_true, Bool.and_eq_false_iff, Bool.or_eq_false_iff, Bool.not_eq_true', Bool.not_eq_false', ne_eq, Decidable.not_not] at hc1
    refine WP.seq ?_
    refine WP.region ?_
    refine WPl.v rfl (o_move rfl) ?_
    refine WPl.v rfl (o_assign rfl) ?_
    refine WPl.v rfl (o_assign rfl) ?_
    refine WPl.nil ?_
    refine EX.then ?_
    refine WP.ret ?_
    refine EX.ret_then ?_
    rw [hch]
    exact EX.fin id (.inl rfl) rfl (.tmp rfl (.tmp rfl .nil)) rfl (by simp [SV.res, El.res, At.res, keys]) trivial (by simp) (by simp)
  · try simp only [decide_eq_true_eq, decide_eq_false_iff_not, Bool.and_eq_true, Bool.or_eq_true, Bool.and_eq_false_iff, Bool.or_eq_false_iff, Bool.not_eq_true', Bool.not_eq_false', ne_eq, Decidable.not_not] at hc1
    simp [hch] at hc1
theorem w76C {f : Fnd} {v : Bool} : ∀ x ∈ ([.e (.g [ai (f.shop.pounds), ai (f.shop.tl), ai (f.shop.th), ai (f.shop.al), ai (f.shop.ah), ai (f.shop.room), ai (f.shop.tpl), ai (f.shop.tph), ai (f.shop.apl), ai (f.shop.aph), .q 0, .q 1]), .e (.a (.q 2))] : List SV), x.res (keys (α := Pred) [(0, PL EPig (f.shop.pigs)), (1, PL ENight (f.nights)), (2, IsP f v)]) := by simp [SV.res, El.res, At.res, keys]
set_option maxHeartbeats 4000000 in
theorem c76C (f : Fnd) (v : Bool) (hf : f.chk = true) (hv : v = true) : SigM Try.prog 76 [.e (.g [ai (f.shop.pounds), ai (f.shop.tl), ai (f.shop.th), ai (f.shop.al), ai (f.shop.ah), ai (f.shop.room), ai (f.shop.tpl), ai (f.shop.tph), ai (f.shop.apl), ai (f.shop.aph), .q 0, .q 1]), .e (.a (.q 2))] [(0, PL EPig (f.shop.pigs)), (1, PL ENight (f.nights)), (2, IsP f v)] true 12 (.t [.a (.q 0), .a (ai (0))]) (fun b => [(0, PP (EWk (some b)) (f))]) := by
  have hch : errW f.chk = 0 := by simp [hf, errW]
  refine SigM.intro Try.func76 rfl 3 [(0, .e (.g [ai (f.shop.pounds), ai (f.shop.tl), ai (f.shop.th), ai (f.shop.al), ai (f.shop.ah), ai (f.shop.room), ai (f.shop.tpl), ai (f.shop.tph), ai (f.shop.apl), ai (f.shop.aph), .q 0, .q 1])), (1, .e (.a (.q 2)))] rfl w76C rfl rfl fun I w => ?_
  refine WP.seq ?_
  refine WP.region ?_
  refine WPl.l 3 4 rfl rfl rfl (o_boxg rfl) ?_
  refine WPl.v rfl (o_assign rfl) ?_
  refine WPl.v rfl (o_assign rfl) ?_
  refine WPl.nil ?_
  refine EX.then ?_
  refine WP.seq ?_
  refine WP.region ?_
  refine WPl.v rfl (o_ldpa G31 rfl rfl rfl) ?_
  refine WPl.mkmap true 12 4 5 rfl rfl rfl fun b9 => ?_
  refine WPl.v rfl (o_build B100 rfl ⟨rfl, trivial⟩ rfl rfl) ?_
  refine WPl.l 5 6 rfl rfl rfl (o_boxg rfl) ?_
  refine WPl.v rfl (o_assign rfl) ?_
  refine WPl.nil ?_
  refine EX.then ?_
  refine WP.seq ?_
  refine WP.seq ?_
  refine WP.region ?_
  refine WPl.v rfl (o_ldpa G31 rfl rfl rfl) ?_
  refine WPl.cs 6 rfl rfl rfl rfl (o_sig 6 (ren [(0, 0), (1, 1)]) (c21 f (by have := Fnd.chkB hf; omega)) e21 rfl rfl rfl w21 ⟨(lx rfl), (lx rfl), trivial⟩ r21) ?_
  refine WPl.v rfl (o_assign rfl) ?_
  refine WPl.nil ?_
  refine EX.then ?_
  refine WP.seq ?_
  refine WP.region ?_
  refine WPl.v rfl (o_move rfl) ?_
  refine WPl.v rfl (o_neq rfl rfl) ?_
  refine WPl.nil ?_
  refine EX.then ?_
  refine WP.cond rfl (fun hc1 => ?_) (fun hc1 => ?_)
  · try simp only [decide_eq_true_eq, decide_eq_false_iff_not, Bool.and_eq_true, Bool.or_eq_true, Bool.and_eq_false_iff, Bool.or_eq_false_iff, Bool.not_eq_true', Bool.not_eq_false', ne_eq, Decidable.not_not] at hc1
    simp [hch] at hc1
  · try simp only [decide_eq_true_eq, decide_eq_false_iff_not, Bool.and_eq_true, Bool.or_eq_true, Bool.and_eq_false_iff, Bool.or_eq_false_iff, Bool.not_eq_true', Bool.not_eq_false', ne_eq, Decidable.not_not] at hc1
    refine WP.skip ?_
    refine EX.then ?_
    refine WP.seq ?_
    refine WP.seq ?_
    refine WP.region ?_
    refine WPl.v rfl (o_move rfl) ?_
    refine WPl.v rfl (o_nefn Try.underlying101 rfl ((lx rfl).of FvP.fna)) ?_
    refine WPl.v rfl (o_move rfl) ?_
    refine WPl.on rfl ⟨_, _, rfl, rfl, rfl⟩ (o_move rfl) ?_
    refine WPl.on rfl ⟨_, _, rfl, rfl, rfl⟩ (o_move rfl) ?_
    refine WPl.imp (Imp.frzb (E := (EWk (some b9))) (y := f) 5 6 7 rfl rfl (bok_str ⟨rfl, rfl, rfl, rfl, rfl, rfl, rfl, rfl, rfl, rfl, ⟨_, rfl, (lx rfl)⟩, ⟨_, rfl, (lx rfl)⟩, .inl rfl, trivial⟩) rfl rfl rfl) ?_
    refine WPl.cL 8 rfl rfl rfl rfl ⟨_, _, rfl, rfl, rfl⟩ (o_callfv (svs := [.e (.a (.q 0))]) 7 (ren [(0, 6)]) rfl (Has.of (lx rfl) fun _ _ h => h ((some b9))) rfl rfl SvsOK.rf (by simp [SV.res, El.res, At.res, keys]) ⟨(lx rfl), trivial⟩ (by simp [SV.res, El.res, At.res, keys])) ?_
    refine WPl.on rfl ⟨_, _, rfl, rfl, rfl⟩ (o_not rfl) ?_
    refine WPl.v rfl (o_pickT rfl rfl) ?_
    refine WPl.nil ?_
    refine EX.then ?_
    refine WP.cond rfl (fun hc2 => ?_) (fun hc2 => ?_)
    · try simp only [decide_eq_true_eq, decide_eq_false_iff_not, Bool.and_eq_true, Bool.or_eq_true, Bool.and_eq_false_iff, Bool.or_eq_false_iff, Bool.not_eq_true', Bool.not_eq_false', ne_eq, Decidable.not_not] at hc2
      simp [hv] at hc2
    · try simp only [decide_eq_true_eq, decide_eq_false_iff_not, Bool.and_eq_true, Bool.or_eq_true, Bool.and_eq_false_iff, Bool.or_eq_false_iff, Bool.not_eq_true', Bool.not_eq_false', ne_eq, Decidable.not_not] at hc2
      refine WP.skip ?_
      refine EX.then ?_
      refine WP.seq ?_
      refine WP.region ?_
      refine WPl.v rfl (o_move rfl) ?_
      refine WPl.v rfl (o_assign rfl) ?_
      refine WPl.v rfl (o_assign rfl) ?_
      refine WPl.nil ?_
      refine EX.then ?_
      refine WP.ret ?_
      exact EX.finM (ren [(0, 6)]) 4 b9 rfl (.inl rfl) rfl (.tmp rfl (.tmp rfl .nil)) rfl (by simp [SV.res, El.res, At.res, keys]) ⟨(lx rfl), trivial⟩ rfl (by simp) (by simp)
theorem w76CF {f : Fnd} {v : Bool} : ∀ x ∈ ([.e (.g [ai (f.shop.pounds), ai (f.shop.tl), ai (f.shop.th), ai (f.shop.al), ai (f.shop.ah), ai (f.shop.room), ai (f.shop.tpl), ai (f.shop.tph), ai (f.shop.apl), ai (f.shop.aph), .q 0, .q 1]), .e (.a (.q 2))] : List SV), x.res (keys (α := Pred) [(0, PL EPig (f.shop.pigs)), (1, PL ENight (f.nights)), (2, IsP f v)]) := by simp [SV.res, El.res, At.res, keys]
theorem r76CF  : SV.res (keys (α := Pred) []) (.t [.a (.v (.pointer none)), .a (ai (1))]) := by simp [SV.res, El.res, At.res, keys]
set_option maxHeartbeats 4000000 in
theorem c76CF (f : Fnd) (v : Bool) (hf : f.chk = true) (hv : v = false) : Sig Try.prog 76 [.e (.g [ai (f.shop.pounds), ai (f.shop.tl), ai (f.shop.th), ai (f.shop.al), ai (f.shop.ah), ai (f.shop.room), ai (f.shop.tpl), ai (f.shop.tph), ai (f.shop.apl), ai (f.shop.aph), .q 0, .q 1]), .e (.a (.q 2))] [(0, PL EPig (f.shop.pigs)), (1, PL ENight (f.nights)), (2, IsP f v)] (.t [.a (.v (.pointer none)), .a (ai (1))]) [] := by
  have hch : errW f.chk = 0 := by simp [hf, errW]
  refine Sig.intro Try.func76 rfl 3 [(0, .e (.g [ai (f.shop.pounds), ai (f.shop.tl), ai (f.shop.th), ai (f.shop.al), ai (f.shop.ah), ai (f.shop.room), ai (f.shop.tpl), ai (f.shop.tph), ai (f.shop.apl), ai (f.shop.aph), .q 0, .q 1])), (1, .e (.a (.q 2)))] rfl w76CF rfl rfl fun I w => ?_
  refine WP.seq ?_
  refine WP.region ?_
  refine WPl.l 3 4 rfl rfl rfl (o_boxg rfl) ?_
  refine WPl.v rfl (o_assign rfl) ?_
  refine WPl.v rfl (o_assign rfl) ?_
  refine WPl.nil ?_
  refine EX.then ?_
  refine WP.seq ?_
  refine WP.region ?_
  refine WPl.v rfl (o_ldpa G31 rfl rfl rfl) ?_
  refine WPl.mkmap true 12 4 5 rfl rfl rfl fun b9 => ?_
  refine WPl.v rfl (o_build B100 rfl ⟨rfl, trivial⟩ rfl rfl) ?_
  refine WPl.l 5 6 rfl rfl rfl (o_boxg rfl) ?_
  refine WPl.v rfl (o_assign rfl) ?_
  refine WPl.nil ?_
  refine EX.then ?_
  refine WP.seq ?_
  refine WP.seq ?_
  refine WP.region ?_
  refine WPl.v rfl (o_ldpa G31 rfl rfl rfl) ?_
  refine WPl.cs 6 rfl rfl rfl rfl (o_sig 6 (ren [(0, 0), (1, 1)]) (c21 f (by have := Fnd.chkB hf; omega)) e21 rfl rfl rfl w21 ⟨(lx rfl), (lx rfl), trivial⟩ r21) ?_
  refine WPl.v rfl (o_assign rfl) ?_
  refine WPl.nil ?_
  refine EX.then ?_
  refine WP.seq ?_
  refine WP.region ?_
  refine WPl.v rfl (o_move rfl) ?_
  refine WPl.v rfl (o_neq rfl rfl) ?_
  refine WPl.nil ?_
  refine EX.then ?_
  refine WP.cond rfl (fun hc1 => ?_) (fun hc1 => ?_)
  · try simp only [decide_eq_true_eq, decide_eq_false_iff_not, Bool.and_eq_true, Bool.or_eq_true, Bool.and_eq_false_iff, Bool.or_eq_false_iff, Bool.not_eq_true', Bool.not_eq_false', ne_eq, Decidable.not_not] at hc1
    simp [hch] at hc1
  · try simp only [decide_eq_true_eq, decide_eq_false_iff_not, Bool.and_eq_true, Bool.or_eq_true, Bool.and_eq_false_iff, Bool.or_eq_false_iff, Bool.not_eq_true', Bool.not_eq_false', ne_eq, Decidable.not_not] at hc1
    refine WP.skip ?_
    refine EX.then ?_
    refine WP.seq ?_
    refine WP.seq ?_
    refine WP.region ?_
    refine WPl.v rfl (o_move rfl) ?_
    refine WPl.v rfl (o_nefn Try.underlying101 rfl ((lx rfl).of FvP.fna)) ?_
    refine WPl.v rfl (o_move rfl) ?_
    refine WPl.on rfl ⟨_, _, rfl, rfl, rfl⟩ (o_move rfl) ?_
    refine WPl.on rfl ⟨_, _, rfl, rfl, rfl⟩ (o_move rfl) ?_
    refine WPl.imp (Imp.frzb (E := (EWk (some b9))) (y := f) 5 6 7 rfl rfl (bok_str ⟨rfl, rfl, rfl, rfl, rfl, rfl, rfl, rfl, rfl, rfl, ⟨_, rfl, (lx rfl)⟩, ⟨_, rfl, (lx rfl)⟩, .inl rfl, trivial⟩) rfl rfl rfl) ?_
    refine WPl.cL 8 rfl rfl rfl rfl ⟨_, _, rfl, rfl, rfl⟩ (o_callfv (svs := [.e (.a (.q 0))]) 7 (ren [(0, 6)]) rfl (Has.of (lx rfl) fun _ _ h => h ((some b9))) rfl rfl SvsOK.rf (by simp [SV.res, El.res, At.res, keys]) ⟨(lx rfl), trivial⟩ (by simp [SV.res, El.res, At.res, keys])) ?_
    refine WPl.on rfl ⟨_, _, rfl, rfl, rfl⟩ (o_not rfl) ?_
    refine WPl.v rfl (o_pickT rfl rfl) ?_
    refine WPl.nil ?_
    refine EX.then ?_
    refine WP.cond rfl (fun hc2 => ?_) (fun hc2 => ?_)
    · try simp only [decide_eq_true_eq, decide_eq_false_iff_not, Bool.and_eq_true, Bool.or_eq_true, Bool.and_eq_false_iff, Bool.or_eq_false_iff, Bool.not_eq_true', Bool.not_eq_false', ne_eq, Decidable.not_not] at hc2
      refine WP.seq ?_
      refine WP.region ?_
      refine WPl.v rfl (o_assign rfl) ?_
      refine WPl.v rfl (o_assign rfl) ?_
      refine WPl.nil ?_
      refine EX.then ?_
      refine WP.ret ?_
      refine EX.ret_then ?_
      exact EX.fin id (.inl rfl) rfl (.tmp rfl (.tmp rfl .nil)) rfl r76CF trivial (by simp) (by simp)
    · try simp only [decide_eq_true_eq, decide_eq_false_iff_not, Bool.and_eq_true, Bool.or_eq_true, Bool.and_eq_false_iff, Bool.or_eq_false_iff, Bool.not_eq_true', Bool.not_eq_false', ne_eq, Decidable.not_not] at hc2
      simp [hv] at hc2
theorem w87 {f : Fnd} {r : Option Nat} {plan : List (List Int)} : ∀ x ∈ ([.e (.a (.q 0)), .e (.a (.q 1))] : List SV), x.res (keys (α := Pred) [(0, PP (EWk r) (f)), (1, PP (EP.box (PL (EP.sl EP.int) (plan))) ())]) := by simp [SV.res, El.res, At.res, keys]
theorem r87 {f : Fnd} {plan : List (List Int)} : SV.res (keys (α := Pred) []) (.b (f.wPlan plan)) := by simp [SV.res, El.res, At.res, keys]
set_option maxHeartbeats 4000000 in
theorem c87 (f : Fnd) (r : Option Nat) (plan : List (List Int)) (hf : f.chk = true) : Sig Try.prog 87 [.e (.a (.q 0)), .e (.a (.q 1))] [(0, PP (EWk r) (f)), (1, PP (EP.box (PL (EP.sl EP.int) (plan))) ())] (.b (f.wPlan plan)) [] := by
  refine Sig.intro Try.func87 rfl 2 [(0, .e (.a (.q 0))), (1, .e (.a (.q 1)))] rfl w87 rfl rfl fun I w => ?_
  refine WP.seq ?_
  refine WP.region ?_
  refine WPl.v rfl (o_assign rfl) ?_
  refine WPl.nil ?_
  refine EX.then ?_
  refine WP.seq ?_
  refine WP.region ?_
  refine WPl.v rfl (o_move rfl) ?_
  refine WPl.x 2 3 rfl rfl rfl (o_ldqx S32 rfl (lx rfl) boxx) ?_
  refine WPl.cs 3 rfl rfl rfl rfl (o_sig 3 (ren [(0, 0), (1, 2)]) (c78 f r plan hf) e78 rfl rfl rfl w78 ⟨(lx rfl), (lx rfl), trivial⟩ r78) ?_
  refine WPl.v rfl (o_assign rfl) ?_
  refine WPl.nil ?_
  refine EX.then ?_
  refine WP.ret ?_
  exact EX.fin id (.inl rfl) rfl (.tmp rfl .nil) rfl r87 trivial (by simp) (by simp)
theorem w93 {f : Fnd} {r : Option Nat} {plan : List (List Int)} : ∀ x ∈ ([.e (.a (.q 0)), .e (.a (.q 1))] : List SV), x.res (keys (α := Pred) [(0, PP (EWk r) (f)), (1, PP (EP.box (PL (EP.sl EP.int) (plan))) ())]) := by simp [SV.res, El.res, At.res, keys]
theorem r93 {f : Fnd} {plan : List (List Int)} : SV.res (keys (α := Pred) []) (.b (f.wPlan plan)) := by simp [SV.res, El.res, At.res, keys]
set_option maxHeartbeats 4000000 in
theorem c93 (f : Fnd) (r : Option Nat) (plan : List (List Int)) (hf : f.chk = true) : Sig Try.prog 93 [.e (.a (.q 0)), .e (.a (.q 1))] [(0, PP (EWk r) (f)), (1, PP (EP.box (PL (EP.sl EP.int) (plan))) ())] (.b (f.wPlan plan)) [] := by
  refine Sig.intro Try.func93 rfl 2 [(0, .e (.a (.q 0))), (1, .e (.a (.q 1)))] rfl w93 rfl rfl fun I w => ?_
  refine WP.seq ?_
  refine WP.region ?_
  refine WPl.v rfl (o_assign rfl) ?_
  refine WPl.nil ?_
  refine EX.then ?_
  refine WP.seq ?_
  refine WP.region ?_
  refine WPl.v rfl (o_move rfl) ?_
  refine WPl.x 2 3 rfl rfl rfl (o_ldqx S32 rfl (lx rfl) boxx) ?_
  refine WPl.cs 3 rfl rfl rfl rfl (o_sig 3 (ren [(0, 0), (1, 2)]) (c78 f r plan hf) e78 rfl rfl rfl w78 ⟨(lx rfl), (lx rfl), trivial⟩ r78) ?_
  refine WPl.v rfl (o_assign rfl) ?_
  refine WPl.nil ?_
  refine EX.then ?_
  refine WP.ret ?_
  exact EX.fin id (.inl rfl) rfl (.tmp rfl .nil) rfl r93 trivial (by simp) (by simp)
theorem w136 {lo hi n low high : Int} : ∀ x ∈ ([.e (.g [ai (lo), ai (hi)]), .i (n), .i (low), .i (high)] : List SV), x.res (keys (α := Pred) []) := by simp [SV.res, El.res, At.res, keys]
theorem r136 {lo hi n low high : Int} : SV.res (keys (α := Pred) []) (.e (.g [ai (cutL lo hi n low), ai (cutH (cutL lo hi n low) hi n high)])) := by simp [SV.res, El.res, At.res, keys]
set_option maxHeartbeats 4000000 in
theorem c136 (lo hi n low high : Int) (h1 : SB lo hi 100000) (h2 : SB n n 100000000) : Sig Try.prog 136 [.e (.g [ai (lo), ai (hi)]), .i (n), .i (low), .i (high)] [] (.e (.g [ai (cutL lo hi n low), ai (cutH (cutL lo hi n low) hi n high)])) [] := by
  unfold SB at h1 h2
  refine Sig.intro Try.func136 rfl 0 [(0, .e (.g [ai (lo), ai (hi)])), (1, .i (n)), (2, .i (low)), (3, .i (high))] rfl w136 rfl rfl fun I w => ?_
  refine WP.seq ?_
  refine WP.region ?_
  refine WPl.l 0 1 rfl rfl rfl (o_boxg rfl) ?_
  refine WPl.l 1 2 rfl rfl rfl (o_alloc Z23) ?_
  refine WPl.nil ?_
  refine EX.then ?_
  refine WP.seq ?_
  refine WP.block ?_
  refine WP.loop (Gh := Nat) (fun i => ⟨2, [(1, .i (n)), (2, .i (low)), (3, .i (high)), (4, .e (.a (.p 0 (0)))), (8, .e (.a (.p 1 (0))))], [], [(0, .blk [ai (lo + (i : Int)), ai (hi)] 23), (1, .blk [ai (0), ai (0)] 23)], [], []⟩) (fun i => i ≤ (hi - lo + 1).toNat ∧ cutL lo hi n low = cutLK hi n low ((hi - lo + 1).toNat - i) (lo + (i : Int))) (fun i => (hi - lo + 1).toNat - i) (0) id ?_ (LeR.of ⟨rfl, rfl, rfl, rfl, rfl, trivial⟩ trivial ⟨(congrArg (fun z => some (Ent.blk z 23)) (List.cons_eq_cons.2 ⟨(congrArg (fun z => ai z) (show (lo) = ((fun i => lo + (i : Int)) 0) from by simp)), (List.cons_eq_cons.2 ⟨(Eq.refl (ai (hi))), (Eq.refl [])⟩)⟩)), rfl, trivial⟩ rfl rfl rfl rfl rfl) ?_
  · exact ⟨by omega, by simp [cutL]⟩
  intro i hφ
  obtain ⟨hi1, hi2⟩ := hφ
  refine WP.seq ?_
  refine WP.seq ?_
  refine WP.region ?_
  refine WPl.v rfl (o_fldp F23_0 rfl) ?_
  refine WPl.v rfl (o_ldp S3 rfl rfl rfl) ?_
  refine WPl.v rfl (o_fldp F23_1 rfl) ?_
  refine WPl.v rfl (o_ldp S3 rfl rfl rfl) ?_
  refine WPl.v rfl (o_leq rfl rfl) ?_
  refine WPl.v rfl (o_move rfl) ?_
  refine WPl.bit 2 3 (decide ((lo + (i : Int)) ≤ hi)) rfl rfl ?_
  refine WPl.gv 2 rfl rfl (.plain rfl Iff.rfl rfl) (fun hb => o_fldp F23_0 rfl) ?_
  refine WPl.gv 2 rfl rfl (.plain rfl Iff.rfl rfl) (fun hb => o_ldp S3 rfl rfl rfl) ?_
  refine WPl.gv 2 rfl rfl (.plain rfl Iff.rfl rfl) (fun hb => o_move rfl) ?_
  refine WPl.gv 2 rfl rfl (.plain rfl Iff.rfl rfl) (fun hb => o_add rfl rfl (by first | omega | (simp; omega)) (by first | omega | (simp; omega))) ?_
  refine WPl.gv 2 rfl rfl (.plain rfl Iff.rfl rfl) (fun hb => o_mul rfl rfl (by first | omega | (simp; omega)) (by first | omega | (simp; omega))) ?_
  refine WPl.gv 2 rfl rfl (.plain rfl Iff.rfl rfl) (fun hb => o_move rfl) ?_
  refine WPl.gv 2 rfl rfl (.plain rfl Iff.rfl rfl) (fun hb => o_lss rfl rfl) ?_
  refine WPl.v rfl (o_and rfl rfl rfl id) ?_
  refine WPl.nil ?_
  refine EX.then ?_
  refine WP.cond rfl (fun hc1 => ?_) (fun hc1 => ?_)
  · try simp only [decide_eq_true_eq, decide_eq_false_iff_not, Bool.and_eq_true, Bool.or_eq_true, Bool.and_eq_false_iff, Bool.or_eq_false_iff, Bool.not_eq_true', Bool.not_eq_false', ne_eq, Decidable.not_not] at hc1
    refine WP.skip ?_
    refine EX.then ?_
    refine WP.block ?_
    refine WP.region ?_
    refine WPl.v rfl (o_fldp F23_0 rfl) ?_
    refine WPl.v rfl (o_ldp S3 rfl rfl rfl) ?_
    refine WPl.v rfl (o_add rfl rfl (by first | omega | (simp; omega)) (by first | omega | (simp; omega))) ?_
    refine WPl.v rfl (o_fldp F23_0 rfl) ?_
    refine WPl.s1 (o_sta S3 rfl rfl rfl rfl rfl) ?_
    refine WPl.nil ?_
    refine EX.blk ?_
    refine EX.again (i + 1) id (by exact ⟨by omega, by rw [hi2, show (hi - lo + 1).toNat - i = ((hi - lo + 1).toNat - (i + 1)) + 1 by omega, cutLK, if_pos (by omega)]; congr 1; omega⟩) (by omega) (LeR.of ⟨rfl, rfl, rfl, rfl, rfl, trivial⟩ trivial ⟨(congrArg (fun z => some (Ent.blk z 23)) (List.cons_eq_cons.2 ⟨(congrArg (fun z => ai z) (show ((lo + (i : Int)) + 1) = ((fun i => lo + (i : Int)) (i + 1)) from by show lo + (i : Int) + 1 = lo + ((i + 1 : Nat) : Int); omega)), (List.cons_eq_cons.2 ⟨(Eq.refl (ai (hi))), (Eq.refl [])⟩)⟩)), rfl, trivial⟩ rfl rfl rfl rfl rfl)
  · try simp only [decide_eq_true_eq, decide_eq_false_iff_not, Bool.and_eq_true, Bool.or_eq_true, Bool.and_eq_false_iff, Bool.or_eq_false_iff, Bool.not_eq_true', Bool.not_eq_false', ne_eq, Decidable.not_not] at hc1
    have hL : cutL lo hi n low = lo + (i : Int) := by rw [hi2]; exact cutLK_stop (by omega) _
    refine WP.exit ?_
    refine EX.exit_then ?_
    refine EX.exit_then ?_
    refine EX.exit_blk ?_
    refine EX.then ?_
    refine WP.seq ?_
    refine WP.block ?_
    refine WP.loop (Gh := Nat) (fun j => ⟨3, [(1, .i (n)), (3, .i (high)), (4, .e (.a (.p 0 (0)))), (8, .e (.a (.p 1 (0))))], [], [(0, .blk [ai (lo + (i : Int)), ai (hi - (j : Int))] 23), (1, .blk [ai (0), ai (0)] 23)], [], []⟩) (fun j => j ≤ (hi - (lo + (i : Int)) + 1).toNat ∧ cutH (lo + (i : Int)) hi n high = cutHK (lo + (i : Int)) n high ((hi - (lo + (i : Int)) + 1).toNat - j) (hi - (j : Int))) (fun j => (hi - (lo + (i : Int)) + 1).toNat - j) (0) id ?_ (LeR.of ⟨rfl, rfl, rfl, rfl, trivial⟩ trivial ⟨(congrArg (fun z => some (Ent.blk z 23)) (List.cons_eq_cons.2 ⟨(Eq.refl (ai (lo + (i : Int)))), (List.cons_eq_cons.2 ⟨(congrArg (fun z => ai z) (show (hi) = ((fun j => hi - (j : Int)) 0) from by simp)), (Eq.refl [])⟩)⟩)), rfl, trivial⟩ rfl rfl rfl rfl rfl) ?_
    · exact ⟨by omega, by simp [cutH]⟩
    intro j hφ
    obtain ⟨hj1, hj2⟩ := hφ
    refine WP.seq ?_
    refine WP.seq ?_
    refine WP.region ?_
    refine WPl.v rfl (o_fldp F23_0 rfl) ?_
    refine WPl.v rfl (o_ldp S3 rfl rfl rfl) ?_
    refine WPl.v rfl (o_fldp F23_1 rfl) ?_
    refine WPl.v rfl (o_ldp S3 rfl rfl rfl) ?_
    refine WPl.v rfl (o_leq rfl rfl) ?_
    refine WPl.v rfl (o_move rfl) ?_
    refine WPl.bit 3 4 (decide ((lo + (i : Int)) ≤ (hi - (j : Int)))) rfl rfl ?_
    refine WPl.gv 3 rfl rfl (.plain rfl Iff.rfl rfl) (fun hb => o_fldp F23_1 rfl) ?_
    refine WPl.gv 3 rfl rfl (.plain rfl Iff.rfl rfl) (fun hb => o_ldp S3 rfl rfl rfl) ?_
    refine WPl.gv 3 rfl rfl (.plain rfl Iff.rfl rfl) (fun hb => o_move rfl) ?_
    refine WPl.gv 3 rfl rfl (.plain rfl Iff.rfl rfl) (fun hb => o_add rfl rfl (by first | omega | (simp; omega)) (by first | omega | (simp; omega))) ?_
    refine WPl.gv 3 rfl rfl (.plain rfl Iff.rfl rfl) (fun hb => o_mul rfl rfl (by first | omega | (simp; omega)) (by first | omega | (simp; omega))) ?_
    refine WPl.gv 3 rfl rfl (.plain rfl Iff.rfl rfl) (fun hb => o_move rfl) ?_
    refine WPl.gv 3 rfl rfl (.plain rfl Iff.rfl rfl) (fun hb => o_gtr rfl rfl) ?_
    refine WPl.v rfl (o_and rfl rfl rfl id) ?_
    refine WPl.nil ?_
    refine EX.then ?_
    refine WP.cond rfl (fun hc2 => ?_) (fun hc2 => ?_)
    · try simp only [decide_eq_true_eq, decide_eq_false_iff_not, Bool.and_eq_true, Bool.or_eq_true, Bool.and_eq_false_iff, Bool.or_eq_false_iff, Bool.not_eq_true', Bool.not_eq_false', ne_eq, Decidable.not_not] at hc2
      refine WP.skip ?_
      refine EX.then ?_
      refine WP.block ?_
      refine WP.region ?_
      refine WPl.v rfl (o_fldp F23_1 rfl) ?_
      refine WPl.v rfl (o_ldp S3 rfl rfl rfl) ?_
      refine WPl.v rfl (o_sub rfl rfl (by first | omega | (simp; omega)) (by first | omega | (simp; omega))) ?_
      refine WPl.v rfl (o_fldp F23_1 rfl) ?_
      refine WPl.s1 (o_sta S3 rfl rfl rfl rfl rfl) ?_
      refine WPl.nil ?_
      refine EX.blk ?_
      refine EX.again (j + 1) id (by exact ⟨by omega, by rw [hj2, show (hi - (lo + (i : Int)) + 1).toNat - j = ((hi - (lo + (i : Int)) + 1).toNat - (j + 1)) + 1 by omega, cutHK, if_pos (by omega)]; congr 1; omega⟩) (by omega) (LeR.of ⟨rfl, rfl, rfl, rfl, trivial⟩ trivial ⟨(congrArg (fun z => some (Ent.blk z 23)) (List.cons_eq_cons.2 ⟨(Eq.refl (ai (lo + (i : Int)))), (List.cons_eq_cons.2 ⟨(congrArg (fun z => ai z) (show ((hi - (j : Int)) - 1) = ((fun j => hi - (j : Int)) (j + 1)) from by show hi - (j : Int) - 1 = hi - ((j + 1 : Nat) : Int); omega)), (Eq.refl [])⟩)⟩)), rfl, trivial⟩ rfl rfl rfl rfl rfl)
    · try simp only [decide_eq_true_eq, decide_eq_false_iff_not, Bool.and_eq_true, Bool.or_eq_true, Bool.and_eq_false_iff, Bool.or_eq_false_iff, Bool.not_eq_true', Bool.not_eq_false', ne_eq, Decidable.not_not] at hc2
      have hH : cutH (lo + (i : Int)) hi n high = hi - (j : Int) := by rw [hj2]; exact cutHK_stop (by omega) _
      refine WP.exit ?_
      refine EX.exit_then ?_
      refine EX.exit_then ?_
      refine EX.exit_blk ?_
      refine EX.then ?_
      refine WP.seq ?_
      refine WP.region ?_
      refine WPl.v rfl (o_ldpa G23 rfl rfl rfl) ?_
      refine WPl.s1 (o_stag G23 rfl rfl rfl ⟨rfl, rfl, trivial⟩ rfl rfl) ?_
      refine WPl.nil ?_
      refine EX.then ?_
      refine WP.ret ?_
      rw [hL, hH]
      exact EX.fin id (.inl rfl) rfl (.cellg G23 rfl rfl rfl (.nil)) rfl (by simp [SV.res, El.res, At.res, keys]) trivial (by simp) (by simp)
theorem w90 {f : Fnd} {r : Option Nat} {plan : List (List Int)} {night : Int} {tl th al ah : Int} {gone : Pt} : ∀ x ∈ ([.e (.a (.q 0)), .e (.a (.q 1)), .i (night), .e (.g [ai (tl), ai (th)]), .e (.g [ai (al), ai (ah)]), .e (.g [ai (gone.pounds), ai (gone.tl), ai (gone.th), ai (gone.al), ai (gone.ah), ai (gone.dl), ai (gone.dh)])] : List SV), x.res (keys (α := Pred) [(0, PP (EWk r) (f)), (1, PL (EP.sl EP.int) (plan))]) := by simp [SV.res, El.res, At.res, keys]
theorem r90 {f : Fnd} {plan : List (List Int)} {night : Int} {n : Nat} {tl th al ah : Int} {gone : Pt} : SV.res (keys (α := Pred) []) (.b (f.canP plan n night tl th al ah gone)) := by simp [SV.res, El.res, At.res, keys]
set_option maxHeartbeats 4000000 in
theorem c90 (f : Fnd) (r : Option Nat) (plan : List (List Int)) (night : Int) (n : Nat) (tl th al ah : Int) (gone : Pt) (hf : f.chk = true) (hp : PlanB f plan) (hnt : night + n = f.nights.length) (hn0 : 0 ≤ night) (hg : PtB gone (1000 + 400018 * night)) (ht : SB tl th (1000 + 2 * night)) (ha : SB al ah (1000 + 2 * night)) : Sig Try.prog 90 [.e (.a (.q 0)), .e (.a (.q 1)), .i (night), .e (.g [ai (tl), ai (th)]), .e (.g [ai (al), ai (ah)]), .e (.g [ai (gone.pounds), ai (gone.tl), ai (gone.th), ai (gone.al), ai (gone.ah), ai (gone.dl), ai (gone.dh)])] [(0, PP (EWk r) (f)), (1, PL (EP.sl EP.int) (plan))] (.b (f.canP plan n night tl th al ah gone)) [] := by
  have hpg := Shop.pigsOK (Fnd.shopOK hf)
  have hn := Fnd.nightsOK hf
  have hn4 := hn.2
  have htb := tl_bnd (Fnd.shopOK hf)
  have hpl := hp.1
  refine Sig.intro Try.func90 rfl 2 [(0, .e (.a (.q 0))), (1, .e (.a (.q 1))), (2, .i (night)), (3, .e (.g [ai (tl), ai (th)])), (4, .e (.g [ai (al), ai (ah)])), (5, .e (.g [ai (gone.pounds), ai (gone.tl), ai (gone.th), ai (gone.al), ai (gone.ah), ai (gone.dl), ai (gone.dh)]))] rfl w90 rfl rfl fun I w => ?_
  refine WP.seq ?_
  refine WP.region ?_
  refine WPl.l 2 3 rfl rfl rfl (o_boxg rfl) ?_
  refine WPl.l 3 4 rfl rfl rfl (o_boxg rfl) ?_
  refine WPl.l 4 5 rfl rfl rfl (o_boxg rfl) ?_
  refine WPl.v rfl (o_assign rfl) ?_
  refine WPl.nil ?_
  refine EX.then ?_
  refine WP.seq ?_
  refine WP.seq ?_
  refine WP.region ?_
  refine WPl.v rfl (o_fldp F23_0 rfl) ?_
  refine WPl.v rfl (o_ldp S3 rfl rfl rfl) ?_
  refine WPl.v rfl (o_fldp F23_1 rfl) ?_
  refine WPl.v rfl (o_ldp S3 rfl rfl rfl) ?_
  refine WPl.v rfl (o_gtr rfl rfl) ?_
  refine WPl.v rfl (o_move rfl) ?_
  refine WPl.bit 5 6 (!(decide (th < tl))) rfl rfl ?_
  refine WPl.gv 5 rfl rfl (.plain rfl (by simp) rfl) (fun hb => o_fldp F23_0 rfl) ?_
  refine WPl.gv 5 rfl rfl (.plain rfl (by simp) rfl) (fun hb => o_ldp S3 rfl rfl rfl) ?_
  refine WPl.gv 5 rfl rfl (.plain rfl (by simp) rfl) (fun hb => o_fldp F23_1 rfl) ?_
  refine WPl.gv 5 rfl rfl (.plain rfl (by simp) rfl) (fun hb => o_ldp S3 rfl rfl rfl) ?_
  refine WPl.gv 5 rfl rfl (.plain rfl (by simp) rfl) (fun hb => o_gtr rfl rfl) ?_
  refine WPl.v rfl (o_or rfl rfl rfl (by first | (simp; done) | simp_all)) ?_
  refine WPl.nil ?_
  refine EX.then ?_
  refine WP.cond rfl (fun hc1 => ?_) (fun hc1 => ?_)
  · try simp only [decide_eq_true_eq, decide_eq_false_iff_not, Bool.and_eq_true, Bool.or_eq_true, Bool.and_eq_false_iff, Bool.or_eq_false_iff, Bool.not_eq_true', Bool.not_eq_false', ne_eq, Decidable.not_not] at hc1
    refine WP.seq ?_
    refine WP.region ?_
    refine WPl.v rfl (o_assign rfl) ?_
    refine WPl.nil ?_
    refine EX.then ?_
    refine WP.ret ?_
    refine EX.ret_then ?_
    rw [show f.canP plan n night tl th al ah gone = false from by have hs1 : (decide (th < tl) || decide (ah < al)) = true := (by simpa using hc1); cases n <;> simp only [Fnd.canP, hs1] <;> rfl]
    exact EX.fin id (.inl rfl) rfl (.tmp rfl .nil) rfl (by simp [SV.res, El.res, At.res, keys]) trivial (by simp) (by simp)
  · try simp only [decide_eq_true_eq, decide_eq_false_iff_not, Bool.and_eq_true, Bool.or_eq_true, Bool.and_eq_false_iff, Bool.or_eq_false_iff, Bool.not_eq_true', Bool.not_eq_false', ne_eq, Decidable.not_not] at hc1
    have hs1 : (decide (th < tl) || decide (ah < al)) = false := by simpa using hc1
    refine WP.skip ?_
    refine EX.then ?_
    refine WP.seq ?_
    refine WP.seq ?_
    refine WP.region ?_
    refine WPl.v rfl (o_move rfl) ?_
    refine WPl.v rfl (o_move rfl) ?_
    refine WPl.v rfl (o_nilq rfl (lx rfl)) ?_
    refine WPl.v rfl (o_fldq F100_0 rfl (lx rfl)) ?_
    refine WPl.v rfl (o_flde F31_1 rfl (lx rfl)) ?_
    refine WPl.x 6 7 rfl rfl rfl (o_ldex S29 rfl (lx rfl) (strS rfl)) ?_
    refine WPl.v rfl (o_lenq L29 rfl (lx rfl)) ?_
    refine WPl.v rfl (o_eql rfl rfl) ?_
    refine WPl.nil ?_
    refine EX.then ?_
    refine WP.cond rfl (fun hc2 => ?_) (fun hc2 => ?_)
    · try simp only [decide_eq_true_eq, decide_eq_false_iff_not, Bool.and_eq_true, Bool.or_eq_true, Bool.and_eq_false_iff, Bool.or_eq_false_iff, Bool.not_eq_true', Bool.not_eq_false', ne_eq, Decidable.not_not] at hc2
      obtain rfl : n = 0 := by omega
      refine WP.seq ?_
      refine WP.region ?_
      refine WPl.v rfl (o_assign rfl) ?_
      refine WPl.nil ?_
      refine EX.then ?_
      refine WP.ret ?_
      refine EX.ret_then ?_
      rw [show f.canP plan 0 night tl th al ah gone = true from by simp only [Fnd.canP, hs1]; rfl]
      exact EX.fin id (.inl rfl) rfl (.tmp rfl .nil) rfl (by simp [SV.res, El.res, At.res, keys]) trivial (by simp) (by simp)
    · try simp only [decide_eq_true_eq, decide_eq_false_iff_not, Bool.and_eq_true, Bool.or_eq_true, Bool.and_eq_false_iff, Bool.or_eq_false_iff, Bool.not_eq_true', Bool.not_eq_false', ne_eq, Decidable.not_not] at hc2
      obtain ⟨k, rfl⟩ : ∃ k, n = k + 1 := ⟨n - 1, by omega⟩
      have hrow := hp.2 night.toNat (by omega)
      rw [show ((night.toNat : Nat) : Int) = night by omega] at hrow
      have hnb := Night.bnds (hn.at (show night.toNat < f.nights.length by omega))
      rw [show ((night.toNat : Nat) : Int) = night by omega] at hnb
      have hgb : PtB (gone.addL f.shop.pigs (nth plan night)) (1000 + 400018 * night + 400000) := addTo_bnd hg hpg (by rw [hrow.1]; exact Nat.le_refl _) (bnd_mono hrow.2 (by omega)) (Nat.le_refl _)
      have hgb0 := hgb
      unfold PtB at hgb0
      have m0 := mulB (a := (gone.addL f.shop.pigs (nth plan night)).pounds) (A := 100000000) (b := f.shop.tpl) (B := 1000) (by omega) (by omega) (by omega) (by omega) (by omega)
      have m1 := mulB (a := (gone.addL f.shop.pigs (nth plan night)).pounds) (A := 100000000) (b := f.shop.tph) (B := 1000) (by omega) (by omega) (by omega) (by omega) (by omega)
      have m2 := mulB (a := (gone.addL f.shop.pigs (nth plan night)).pounds) (A := 100000000) (b := f.shop.apl) (B := 1000) (by omega) (by omega) (by omega) (by omega) (by omega)
      have m3 := mulB (a := (gone.addL f.shop.pigs (nth plan night)).pounds) (A := 100000000) (b := f.shop.aph) (B := 1000) (by omega) (by omega) (by omega) (by omega) (by omega)
      have ht2 := cut_SB (n := (gone.addL f.shop.pigs (nth plan night)).tl) (low := (gone.addL f.shop.pigs (nth plan night)).pounds * f.shop.tpl) (high := (gone.addL f.shop.pigs (nth plan night)).pounds * f.shop.tph) ht
      have ha2 := cut_SB (n := (gone.addL f.shop.pigs (nth plan night)).al) (low := (gone.addL f.shop.pigs (nth plan night)).pounds * f.shop.apl) (high := (gone.addL f.shop.pigs (nth plan night)).pounds * f.shop.aph) ha
      refine WP.skip ?_
      refine EX.then ?_
      refine WP.seq ?_
      refine WP.draw (nf := 9) [⟨[37, 38, 39, 40, 41], [7, 8], [], [], []⟩, ⟨[36, 38, 39, 40, 41], [7, 8], [], [], []⟩, ⟨[36, 37, 39], [], [], [], []⟩, ⟨[36, 37, 38], [], [], [], []⟩, ⟨[36, 37], [], [7], [7], [2, 3]⟩, ⟨[36, 37], [], [8], [8], [2, 3, 4]⟩, ⟨[], [], [], [], [0, 1, 2, 3, 4, 5]⟩, ⟨[], [], [], [4], [0, 1, 2, 3, 4, 5, 6]⟩] (by kernel_rfl) (by kernel_rfl) ?_
      refine DRQ.v rfl rfl rfl (o_move rfl) ?_
      refine DRQ.v rfl rfl rfl (o_ldpa G105 rfl rfl rfl) ?_
      refine DRQ.v rfl rfl rfl (o_move rfl) ?_
      refine DRQ.v rfl rfl rfl (o_move rfl) ?_
      refine DRQ.x 7 rfl rfl rfl rfl (o_idx L32 rfl (lx rfl) rfl (by first | omega | (simp; omega)) (by first | omega | (simp; omega))) ?_
      refine DRQ.x 8 rfl rfl rfl rfl (o_ldqx S44 rfl (lx rfl) slx) ?_
      refine DRQ.cs rfl rfl rfl rfl (o_sig 9 (ren [(0, 0), (1, 8)]) (c129 f r gone (nth plan night) (1000 + 400018 * night) hg (by omega) hpg (by rw [hrow.1]; exact Nat.le_refl _) (bnd_mono hrow.2 (by omega))) e129 rfl rfl rfl w129 ⟨(lx rfl), (lx rfl), trivial⟩ r129) ?_
      refine DRQ.s 4 rfl rfl rfl (o_stag G105 rfl rfl rfl ⟨rfl, rfl, rfl, rfl, rfl, rfl, rfl, trivial⟩ rfl rfl) ?_
      refine DRQ.nil' ?_
      refine EX.then ?_
      refine WP.seq ?_
      refine WP.region ?_
      refine WPl.v rfl (o_fldp F105_0 rfl) ?_
      refine WPl.v rfl (o_ldp S3 rfl rfl rfl) ?_
      refine WPl.v rfl (o_assign rfl) ?_
      refine WPl.nil ?_
      refine EX.then ?_
      refine WP.seq ?_
      refine WP.draw (nf := 9) [⟨[46, 47, 48, 49, 50, 51, 52, 53, 54, 55, 56, 57, 58, 59, 60, 61, 62, 63, 64, 65, 66], [], [], [], []⟩, ⟨[45, 49, 50, 51, 52, 53, 54, 55, 56, 57, 58, 59, 60, 61, 62, 63, 64, 65, 66], [], [], [], []⟩, ⟨[45, 49, 50, 51, 52, 53, 54, 55, 56, 57, 58, 59, 60, 61, 62, 63, 64, 65, 66], [], [], [], [1]⟩, ⟨[45, 49, 50, 51, 52, 53, 54, 55, 56, 57, 58, 59, 60, 61, 62, 63, 64, 65, 66], [], [], [], [1, 2]⟩, ⟨[45, 46, 47, 48, 50, 51, 52, 53, 54, 55, 56, 58, 59, 60, 61, 62, 63, 64, 65, 66], [], [], [], []⟩, ⟨[45, 46, 47, 48, 49, 58, 59, 60, 61, 62, 63, 64, 65, 66], [], [], [], []⟩, ⟨[45, 46, 47, 48, 49, 58, 59, 60, 61, 62, 63, 64, 65, 66], [], [], [], [5]⟩, ⟨[45, 46, 47, 48, 49, 58, 59, 60, 61, 62, 63, 64, 65, 66], [], [], [], [5, 6]⟩, ⟨[45, 46, 47, 48, 49, 58, 59, 60, 61, 62, 63, 64, 65, 66], [], [], [], [5, 6, 7]⟩, ⟨[45, 46, 47, 48, 49, 58, 59, 60, 61, 62, 63, 64, 65, 66], [], [], [], [5, 6, 7, 8]⟩, ⟨[45, 46, 47, 48, 49, 58, 59, 60, 61, 62, 63, 64, 65, 66], [], [], [], [5, 6, 7, 8, 9]⟩, ⟨[45, 46, 47, 48, 49, 58, 59, 60, 61, 62, 63, 64, 65, 66], [], [], [], [5, 6, 7, 8, 9, 10]⟩, ⟨[45, 46, 47, 48, 58, 59, 60, 61, 62, 63, 64, 65, 66], [], [], [], [4, 5, 6, 7, 8, 9, 10, 11]⟩, ⟨[45, 46, 47, 48, 49, 50, 51, 52, 53, 54, 55, 56, 57, 59, 60, 61, 62, 63, 64, 65], [], [], [], []⟩, ⟨[45, 46, 47, 48, 49, 50, 51, 52, 53, 54, 55, 56, 57, 58], [], [], [], []⟩, ⟨[45, 46, 47, 48, 49, 50, 51, 52, 53, 54, 55, 56, 57, 58], [], [], [], [14]⟩, ⟨[45, 46, 47, 48, 49, 50, 51, 52, 53, 54, 55, 56, 57, 58], [], [], [], [14, 15]⟩, ⟨[45, 46, 47, 48, 49, 50, 51, 52, 53, 54, 55, 56, 57, 58], [], [], [], [14, 15, 16]⟩, ⟨[45, 46, 47, 48, 49, 50, 51, 52, 53, 54, 55, 56, 57, 58], [], [], [], [14, 15, 16, 17]⟩, ⟨[45, 46, 47, 48, 49, 50, 51, 52, 53, 54, 55, 56, 57, 58], [], [], [], [14, 15, 16, 17, 18]⟩, ⟨[45, 46, 47, 48, 49, 50, 51, 52, 53, 54, 55, 56, 57, 58], [], [], [], [14, 15, 16, 17, 18, 19]⟩, ⟨[45, 46, 47, 48, 49, 50, 51, 52, 53, 54, 55, 56, 57], [], [], [], [13, 14, 15, 16, 17, 18, 19, 20]⟩, ⟨[], [], [], [], [0, 1, 2, 3, 4, 5, 6, 7, 8, 9, 10, 11, 12, 13, 14, 15, 16, 17, 18, 19, 20, 21]⟩, ⟨[], [], [], [2], [0, 1, 2, 3, 4, 5, 6, 7, 8, 9, 10, 11, 12, 13, 14, 15, 16, 17, 18, 19, 20, 21, 22]⟩] (by kernel_rfl) (by kernel_rfl) ?_
      refine DRQ.v rfl rfl rfl (o_ldpa G23 rfl rfl rfl) ?_
      refine DRQ.v rfl rfl rfl (o_fldp F105_1 rfl) ?_
      refine DRQ.v rfl rfl rfl (o_fldp F23_0 rfl) ?_
      refine DRQ.v rfl rfl rfl (o_ldp S3 rfl rfl rfl) ?_
      refine DRQ.v rfl rfl rfl (o_move rfl) ?_
      refine DRQ.v rfl rfl rfl (o_move rfl) ?_
      refine DRQ.v rfl rfl rfl (o_nilq rfl (lx rfl)) ?_
      refine DRQ.v rfl rfl rfl (o_fldq F100_0 rfl (lx rfl)) ?_
      refine DRQ.v rfl rfl rfl (o_flde F31_0 rfl (lx rfl)) ?_
      refine DRQ.v rfl rfl rfl (o_flde F28_2 rfl (lx rfl)) ?_
      refine DRQ.v rfl rfl rfl (o_flde F23_0 rfl (lx rfl)) ?_
      refine DRQ.v rfl rfl rfl (o_lde S3 rfl (lx rfl) (strI rfl)) ?_
      refine DRQ.v rfl rfl rfl (o_mul rfl rfl (by first | omega | (simp; omega)) (by first | omega | (simp; omega))) ?_
      refine DRQ.v rfl rfl rfl (o_move rfl) ?_
      refine DRQ.v rfl rfl rfl (o_move rfl) ?_
      refine DRQ.v rfl rfl rfl (o_nilq rfl (lx rfl)) ?_
      refine DRQ.v rfl rfl rfl (o_fldq F100_0 rfl (lx rfl)) ?_
      refine DRQ.v rfl rfl rfl (o_flde F31_0 rfl (lx rfl)) ?_
      refine DRQ.v rfl rfl rfl (o_flde F28_2 rfl (lx rfl)) ?_
      refine DRQ.v rfl rfl rfl (o_flde F23_1 rfl (lx rfl)) ?_
      refine DRQ.v rfl rfl rfl (o_lde S3 rfl (lx rfl) (strI rfl)) ?_
      refine DRQ.v rfl rfl rfl (o_mul rfl rfl (by first | omega | (simp; omega)) (by first | omega | (simp; omega))) ?_
      refine DRQ.cs rfl rfl rfl rfl (o_sig 9 id (c136 tl th ((gone.addL f.shop.pigs (nth plan night)).tl) (((gone.addL f.shop.pigs (nth plan night)).pounds) * f.shop.tpl) (((gone.addL f.shop.pigs (nth plan night)).pounds) * f.shop.tph) (by unfold SB at *; omega) (by unfold SB; omega)) e136 rfl rfl rfl w136 trivial r136) ?_
      refine DRQ.s 2 rfl rfl rfl (o_stag G23 rfl rfl rfl ⟨rfl, rfl, trivial⟩ rfl rfl) ?_
      refine DRQ.nil' ?_
      refine EX.then ?_
      refine WP.seq ?_
      refine WP.draw (nf := 9) [⟨[69, 70, 71, 72, 73, 74, 75, 76, 77, 78, 79, 80, 81, 82, 83, 84, 85, 86, 87, 88, 89], [], [], [], []⟩, ⟨[68, 72, 73, 74, 75, 76, 77, 78, 79, 80, 81, 82, 83, 84, 85, 86, 87, 88, 89], [], [], [], []⟩, ⟨[68, 72, 73, 74, 75, 76, 77, 78, 79, 80, 81, 82, 83, 84, 85, 86, 87, 88, 89], [], [], [], [1]⟩, ⟨[68, 72, 73, 74, 75, 76, 77, 78, 79, 80, 81, 82, 83, 84, 85, 86, 87, 88, 89], [], [], [], [1, 2]⟩, ⟨[68, 69, 70, 71, 73, 74, 75, 76, 77, 78, 79, 81, 82, 83, 84, 85, 86, 87, 88, 89], [], [], [], []⟩, ⟨[68, 69, 70, 71, 72, 81, 82, 83, 84, 85, 86, 87, 88, 89], [], [], [], []⟩, ⟨[68, 69, 70, 71, 72, 81, 82, 83, 84, 85, 86, 87, 88, 89], [], [], [], [5]⟩, ⟨[68, 69, 70, 71, 72, 81, 82, 83, 84, 85, 86, 87, 88, 89], [], [], [], [5, 6]⟩, ⟨[68, 69, 70, 71, 72, 81, 82, 83, 84, 85, 86, 87, 88, 89], [], [], [], [5, 6, 7]⟩, ⟨[68, 69, 70, 71, 72, 81, 82, 83, 84, 85, 86, 87, 88, 89], [], [], [], [5, 6, 7, 8]⟩, ⟨[68, 69, 70, 71, 72, 81, 82, 83, 84, 85, 86, 87, 88, 89], [], [], [], [5, 6, 7, 8, 9]⟩, ⟨[68, 69, 70, 71, 72, 81, 82, 83, 84, 85, 86, 87, 88, 89], [], [], [], [5, 6, 7, 8, 9, 10]⟩, ⟨[68, 69, 70, 71, 81, 82, 83, 84, 85, 86, 87, 88, 89], [], [], [], [4, 5, 6, 7, 8, 9, 10, 11]⟩, ⟨[68, 69, 70, 71, 72, 73, 74, 75, 76, 77, 78, 79, 80, 82, 83, 84, 85, 86, 87, 88], [], [], [], []⟩, ⟨[68, 69, 70, 71, 72, 73, 74, 75, 76, 77, 78, 79, 80, 81], [], [], [], []⟩, ⟨[68, 69, 70, 71, 72, 73, 74, 75, 76, 77, 78, 79, 80, 81], [], [], [], [14]⟩, ⟨[68, 69, 70, 71, 72, 73, 74, 75, 76, 77, 78, 79, 80, 81], [], [], [], [14, 15]⟩, ⟨[68, 69, 70, 71, 72, 73, 74, 75, 76, 77, 78, 79, 80, 81], [], [], [], [14, 15, 16]⟩, ⟨[68, 69, 70, 71, 72, 73, 74, 75, 76, 77, 78, 79, 80, 81], [], [], [], [14, 15, 16, 17]⟩, ⟨[68, 69, 70, 71, 72, 73, 74, 75, 76, 77, 78, 79, 80, 81], [], [], [], [14, 15, 16, 17, 18]⟩, ⟨[68, 69, 70, 71, 72, 73, 74, 75, 76, 77, 78, 79, 80, 81], [], [], [], [14, 15, 16, 17, 18, 19]⟩, ⟨[68, 69, 70, 71, 72, 73, 74, 75, 76, 77, 78, 79, 80], [], [], [], [13, 14, 15, 16, 17, 18, 19, 20]⟩, ⟨[], [], [], [], [0, 1, 2, 3, 4, 5, 6, 7, 8, 9, 10, 11, 12, 13, 14, 15, 16, 17, 18, 19, 20, 21]⟩, ⟨[], [], [], [3], [0, 1, 2, 3, 4, 5, 6, 7, 8, 9, 10, 11, 12, 13, 14, 15, 16, 17, 18, 19, 20, 21, 22]⟩] (by kernel_rfl) (by kernel_rfl) ?_
      refine DRQ.v rfl rfl rfl (o_ldpa G23 rfl rfl rfl) ?_
      refine DRQ.v rfl rfl rfl (o_fldp F105_2 rfl) ?_
      refine DRQ.v rfl rfl rfl (o_fldp F23_0 rfl) ?_
      refine DRQ.v rfl rfl rfl (o_ldp S3 rfl rfl rfl) ?_
      refine DRQ.v rfl rfl rfl (o_move rfl) ?_
      refine DRQ.v rfl rfl rfl (o_move rfl) ?_
      refine DRQ.v rfl rfl rfl (o_nilq rfl (lx rfl)) ?_
      refine DRQ.v rfl rfl rfl (o_fldq F100_0 rfl (lx rfl)) ?_
      refine DRQ.v rfl rfl rfl (o_flde F31_0 rfl (lx rfl)) ?_
      refine DRQ.v rfl rfl rfl (o_flde F28_3 rfl (lx rfl)) ?_
      refine DRQ.v rfl rfl rfl (o_flde F23_0 rfl (lx rfl)) ?_
      refine DRQ.v rfl rfl rfl (o_lde S3 rfl (lx rfl) (strI rfl)) ?_
      refine DRQ.v rfl rfl rfl (o_mul rfl rfl (by first | omega | (simp; omega)) (by first | omega | (simp; omega))) ?_
      refine DRQ.v rfl rfl rfl (o_move rfl) ?_
      refine DRQ.v rfl rfl rfl (o_move rfl) ?_
      refine DRQ.v rfl rfl rfl (o_nilq rfl (lx rfl)) ?_
      refine DRQ.v rfl rfl rfl (o_fldq F100_0 rfl (lx rfl)) ?_
      refine DRQ.v rfl rfl rfl (o_flde F31_0 rfl (lx rfl)) ?_
      refine DRQ.v rfl rfl rfl (o_flde F28_3 rfl (lx rfl)) ?_
      refine DRQ.v rfl rfl rfl (o_flde F23_1 rfl (lx rfl)) ?_
      refine DRQ.v rfl rfl rfl (o_lde S3 rfl (lx rfl) (strI rfl)) ?_
      refine DRQ.v rfl rfl rfl (o_mul rfl rfl (by first | omega | (simp; omega)) (by first | omega | (simp; omega))) ?_
      refine DRQ.cs rfl rfl rfl rfl (o_sig 9 id (c136 al ah ((gone.addL f.shop.pigs (nth plan night)).al) (((gone.addL f.shop.pigs (nth plan night)).pounds) * f.shop.apl) (((gone.addL f.shop.pigs (nth plan night)).pounds) * f.shop.aph) (by unfold SB at *; omega) (by unfold SB; omega)) e136 rfl rfl rfl w136 trivial r136) ?_
      refine DRQ.s 3 rfl rfl rfl (o_stag G23 rfl rfl rfl ⟨rfl, rfl, trivial⟩ rfl rfl) ?_
      refine DRQ.nil' ?_
      refine EX.then ?_
      refine WP.seq ?_
      refine WP.seq ?_
      refine WP.region ?_
      refine WPl.v rfl (o_move rfl) ?_
      refine WPl.v rfl (o_nilq rfl (lx rfl)) ?_
      refine WPl.v rfl (o_fldq F100_0 rfl (lx rfl)) ?_
      refine WPl.v rfl (o_flde F31_1 rfl (lx rfl)) ?_
      refine WPl.x 9 10 rfl rfl rfl (o_ldex S29 rfl (lx rfl) (strS rfl)) ?_
      refine WPl.v rfl (o_move rfl) ?_
      refine WPl.x 10 11 rfl rfl rfl (o_idx L29 rfl (lx rfl) rfl (by first | omega | (simp; omega)) (by first | omega | (simp; omega))) ?_
      refine WPl.v rfl (o_fldq F75_0 rfl (lx rfl)) ?_
      refine WPl.v rfl (o_flde F23_0 rfl (lx rfl)) ?_
      refine WPl.v rfl (o_lde S3 rfl (lx rfl) (strI rfl)) ?_
      refine WPl.v rfl (o_assign rfl) ?_
      refine WPl.nil ?_
      refine EX.then ?_
      refine WP.block ?_
      refine WP.loop (Gh := Nat) (fun i => ⟨11, [(0, .e (.a (.q 0))), (1, .e (.a (.q 1))), (2, .i (night)), (9, .e (.a (.p 2 (0)))), (10, .e (.a (.p 3 (0)))), (11, .e (.a (.p 4 (0)))), (12, .b (false)), (14, .i ((nth f.nights night).lo + (i : Int)))], [(0, PP (EWk r) (f)), (1, PL (EP.sl EP.int) (plan))], [(2, .blk [ai (cutL tl th ((gone.addL f.shop.pigs (nth plan night)).tl) (((gone.addL f.shop.pigs (nth plan night)).pounds) * f.shop.tpl)), ai (cutH (cutL tl th ((gone.addL f.shop.pigs (nth plan night)).tl) (((gone.addL f.shop.pigs (nth plan night)).pounds) * f.shop.tpl)) th ((gone.addL f.shop.pigs (nth plan night)).tl) (((gone.addL f.shop.pigs (nth plan night)).pounds) * f.shop.tph))] 23), (3, .blk [ai (cutL al ah ((gone.addL f.shop.pigs (nth plan night)).al) (((gone.addL f.shop.pigs (nth plan night)).pounds) * f.shop.apl)), ai (cutH (cutL al ah ((gone.addL f.shop.pigs (nth plan night)).al) (((gone.addL f.shop.pigs (nth plan night)).pounds) * f.shop.apl)) ah ((gone.addL f.shop.pigs (nth plan night)).al) (((gone.addL f.shop.pigs (nth plan night)).pounds) * f.shop.aph))] 23), (4, .blk [ai ((gone.addL f.shop.pigs (nth plan night)).pounds), ai ((gone.addL f.shop.pigs (nth plan night)).tl), ai ((gone.addL f.shop.pigs (nth plan night)).th), ai ((gone.addL f.shop.pigs (nth plan night)).al), ai ((gone.addL f.shop.pigs (nth plan night)).ah), ai ((gone.addL f.shop.pigs (nth plan night)).dl), ai ((gone.addL f.shop.pigs (nth plan night)).dh)] 105)], [], []⟩) (fun i => i ≤ ((nth f.nights night).hi - (nth f.nights night).lo + 1).toNat ∧ allI (fun i => !f.canP plan k (night + 1) (cutL tl th (gone.addL f.shop.pigs (nth plan night)).tl ((gone.addL f.shop.pigs (nth plan night)).pounds * f.shop.tpl)) (cutH (cutL tl th (gone.addL f.shop.pigs (nth plan night)).tl ((gone.addL f.shop.pigs (nth plan night)).pounds * f.shop.tpl)) th (gone.addL f.shop.pigs (nth plan night)).tl ((gone.addL f.shop.pigs (nth plan night)).pounds * f.shop.tph)) (cutL al ah (gone.addL f.shop.pigs (nth plan night)).al ((gone.addL f.shop.pigs (nth plan night)).pounds * f.shop.apl)) (cutH (cutL al ah (gone.addL f.shop.pigs (nth plan night)).al ((gone.addL f.shop.pigs (nth plan night)).pounds * f.shop.apl)) ah (gone.addL f.shop.pigs (nth plan night)).al ((gone.addL f.shop.pigs (nth plan night)).pounds * f.shop.aph)) ((gone.addL f.shop.pigs (nth plan night)).drop ((nth f.nights night).lo + (i : Int)))) i = true) (fun i => ((nth f.nights night).hi - (nth f.nights night).lo + 1).toNat - i) (0) id ?_ (LeR.of ⟨rfl, rfl, rfl, rfl, rfl, rfl, rfl, (congrArg (fun z => some (SV.i z)) (show ((nth f.nights night).lo) = ((fun i => (nth f.nights night).lo + (i : Int)) 0) from by simp)), trivial⟩ ⟨(lx rfl), (lx rfl), trivial⟩ ⟨rfl, rfl, rfl, trivial⟩ rfl rfl rfl rfl rfl) ?_
      · exact ⟨by omega, rfl⟩
      intro i hφ
      obtain ⟨hi1, hi2⟩ := hφ
      refine WP.seq ?_
      refine WP.seq ?_
      refine WP.region ?_
      refine WPl.v rfl (o_move rfl) ?_
      refine WPl.v rfl (o_move rfl) ?_
      refine WPl.v rfl (o_nilq rfl (lx rfl)) ?_
      refine WPl.v rfl (o_fldq F100_0 rfl (lx rfl)) ?_
      refine WPl.v rfl (o_flde F31_1 rfl (lx rfl)) ?_
      refine WPl.x 11 12 rfl rfl rfl (o_ldex S29 rfl (lx rfl) (strS rfl)) ?_
      refine WPl.v rfl (o_move rfl) ?_
      refine WPl.x 12 13 rfl rfl rfl (o_idx L29 rfl (lx rfl) rfl (by first | omega | (simp; omega)) (by first | omega | (simp; omega))) ?_
      refine WPl.v rfl (o_fldq F75_0 rfl (lx rfl)) ?_
      refine WPl.v rfl (o_flde F23_1 rfl (lx rfl)) ?_
      refine WPl.v rfl (o_lde S3 rfl (lx rfl) (strI rfl)) ?_
      refine WPl.v rfl (o_leq rfl rfl) ?_
      refine WPl.nil ?_
      refine EX.then ?_
      refine WP.cond rfl (fun hc3 => ?_) (fun hc3 => ?_)
      · try simp only [decide_eq_true_eq, decide_eq_false_iff_not, Bool.and_eq_true, Bool.or_eq_true, Bool.and_eq_false_iff, Bool.or_eq_false_iff, Bool.not_eq_true', Bool.not_eq_false', ne_eq, Decidable.not_not] at hc3
        refine WP.skip ?_
        refine EX.then ?_
        refine WP.seq ?_
        refine WP.block ?_
        refine WP.seq ?_
        refine WP.region ?_
        refine WPl.v rfl (o_ldpa G105 rfl rfl rfl) ?_
        refine WPl.l 13 14 rfl rfl rfl (o_alloc Z105) ?_
        refine WPl.s1 (o_stag G105 rfl rfl rfl ⟨rfl, rfl, rfl, rfl, rfl, rfl, rfl, trivial⟩ rfl rfl) ?_
        refine WPl.nil ?_
        refine EX.then ?_
        refine WP.seq ?_
        refine WP.region ?_
        refine WPl.v rfl (o_fldp F105_0 rfl) ?_
        refine WPl.v rfl (o_ldp S3 rfl rfl rfl) ?_
        refine WPl.v rfl (o_move rfl) ?_
        refine WPl.v rfl (o_sub rfl rfl (by first | omega | (simp; omega)) (by first | omega | (simp; omega))) ?_
        refine WPl.v rfl (o_fldp F105_0 rfl) ?_
        refine WPl.s1 (o_sta S3 rfl rfl rfl rfl rfl) ?_
        refine WPl.nil ?_
        refine EX.then ?_
        refine WP.seq ?_
        refine WP.region ?_
        refine WPl.v rfl (o_fldp F105_1 rfl) ?_
        refine WPl.v rfl (o_ldpg G23 rfl rfl rfl) ?_
        refine WPl.v rfl (o_move rfl) ?_
        refine WPl.v rfl (o_neg rfl (by first | omega | (simp; omega)) (by first | omega | (simp; omega))) ?_
        refine WPl.cs 14 rfl rfl rfl rfl (o_sig 14 id (c137 ((gone.addL f.shop.pigs (nth plan night)).tl) ((gone.addL f.shop.pigs (nth plan night)).th) (-((nth f.nights night).lo + (i : Int))) (by omega) (by omega) (by omega)) e137 rfl rfl rfl w137 trivial r137) ?_
        refine WPl.v rfl (o_fldp F105_1 rfl) ?_
        refine WPl.s1 (o_stag G23 rfl rfl rfl ⟨rfl, rfl, trivial⟩ rfl rfl) ?_
        refine WPl.nil ?_
        refine EX.then ?_
        refine WP.seq ?_
        refine WP.region ?_
        refine WPl.v rfl (o_move rfl) ?_
        refine WPl.v rfl (o_move rfl) ?_
        refine WPl.v rfl (o_move rfl) ?_
        refine WPl.v rfl (o_add rfl rfl (by first | omega | (simp; omega)) (by first | omega | (simp; omega))) ?_
        refine WPl.v rfl (o_ldpa G23 rfl rfl rfl) ?_
        refine WPl.v rfl (o_ldpa G23 rfl rfl rfl) ?_
        refine WPl.v rfl (o_ldpa G105 rfl rfl rfl) ?_
        refine WPl.cs 14 rfl rfl rfl rfl (o_sig 14 (ren [(0, 0), (1, 1)]) (c90 f r plan (night + 1) k (cutL tl th ((gone.addL f.shop.pigs (nth plan night)).tl) (((gone.addL f.shop.pigs (nth plan night)).pounds) * f.shop.tpl)) (cutH (cutL tl th ((gone.addL f.shop.pigs (nth plan night)).tl) (((gone.addL f.shop.pigs (nth plan night)).pounds) * f.shop.tpl)) th ((gone.addL f.shop.pigs (nth plan night)).tl) (((gone.addL f.shop.pigs (nth plan night)).pounds) * f.shop.tph)) (cutL al ah ((gone.addL f.shop.pigs (nth plan night)).al) (((gone.addL f.shop.pigs (nth plan night)).pounds) * f.shop.apl)) (cutH (cutL al ah ((gone.addL f.shop.pigs (nth plan night)).al) (((gone.addL f.shop.pigs (nth plan night)).pounds) * f.shop.apl)) ah ((gone.addL f.shop.pigs (nth plan night)).al) (((gone.addL f.shop.pigs (nth plan night)).pounds) * f.shop.aph)) ((gone.addL f.shop.pigs (nth plan night)).drop ((nth f.nights night).lo + (i : Int))) hf hp (by omega) (by omega) (by unfold PtB Pt.drop; simp only []; omega) (by unfold SB at *; omega) (by unfold SB at *; omega)) e90 rfl rfl rfl w90 ⟨(lx rfl), (lx rfl), trivial⟩ r90) ?_
        refine WPl.nil ?_
        refine EX.then ?_
        refine WP.cond rfl (fun hc4 => ?_) (fun hc4 => ?_)
        · try simp only [decide_eq_true_eq, decide_eq_false_iff_not, Bool.and_eq_true, Bool.or_eq_true, Bool.and_eq_false_iff, Bool.or_eq_false_iff, Bool.not_eq_true', Bool.not_eq_false', ne_eq, Decidable.not_not] at hc4
          refine WP.seq ?_
          refine WP.region ?_
          refine WPl.v rfl (o_assign rfl) ?_
          refine WPl.nil ?_
          refine EX.then ?_
          refine WP.ret ?_
          refine EX.ret_blk ?_
          refine EX.ret_then ?_
          refine EX.ret_then ?_
          refine EX.ret_blk ?_
          refine EX.ret_then ?_
          rw [show f.canP plan (k + 1) night tl th al ah gone = true from by simp only [Fnd.canP, hs1]; rw [not_allI (show i < ((nth f.nights night).hi - (nth f.nights night).lo + 1).toNat by omega) (by simpa using hc4)]; rfl]
          exact EX.fin id (.inl rfl) rfl (.tmp rfl .nil) rfl (by simp [SV.res, El.res, At.res, keys]) trivial (by simp) (by simp)
        · try simp only [decide_eq_true_eq, decide_eq_false_iff_not, Bool.and_eq_true, Bool.or_eq_true, Bool.and_eq_false_iff, Bool.or_eq_false_iff, Bool.not_eq_true', Bool.not_eq_false', ne_eq, Decidable.not_not] at hc4
          refine WP.skip ?_
          refine EX.blk ?_
          refine EX.then ?_
          refine WP.region ?_
          refine WPl.v rfl (o_move rfl) ?_
          refine WPl.v rfl (o_add rfl rfl (by first | omega | (simp; omega)) (by first | omega | (simp; omega))) ?_
          refine WPl.v rfl (o_assign rfl) ?_
          refine WPl.nil ?_
          refine EX.again (i + 1) id (by exact ⟨by omega, by simp only [allI, hi2, Bool.true_and]; simpa using hc4⟩) (by omega) (LeR.of ⟨rfl, rfl, rfl, rfl, rfl, rfl, rfl, (congrArg (fun z => some (SV.i z)) (show (((nth f.nights night).lo + (i : Int)) + 1) = ((fun i => (nth f.nights night).lo + (i : Int)) (i + 1)) from by show (nth f.nights night).lo + (i : Int) + 1 = (nth f.nights night).lo + ((i + 1 : Nat) : Int); omega)), trivial⟩ ⟨(lx rfl), (lx rfl), trivial⟩ ⟨rfl, rfl, rfl, trivial⟩ rfl rfl rfl rfl rfl)
      · try simp only [decide_eq_true_eq, decide_eq_false_iff_not, Bool.and_eq_true, Bool.or_eq_true, Bool.and_eq_false_iff, Bool.or_eq_false_iff, Bool.not_eq_true', Bool.not_eq_false', ne_eq, Decidable.not_not] at hc3
        refine WP.exit ?_
        refine EX.exit_then ?_
        refine EX.exit_then ?_
        refine EX.exit_blk ?_
        refine EX.then ?_
        refine WP.seq ?_
        refine WP.region ?_
        refine WPl.v rfl (o_assign rfl) ?_
        refine WPl.nil ?_
        refine EX.then ?_
        refine WP.ret ?_
        have he : i = ((nth f.nights night).hi - (nth f.nights night).lo + 1).toNat := by omega
        subst he
        rw [show f.canP plan (k + 1) night tl th al ah gone = false from by simp only [Fnd.canP, hs1]; rw [hi2]; rfl]
        exact EX.fin id (.inl rfl) rfl (.tmp rfl .nil) rfl (by simp [SV.res, El.res, At.res, keys]) trivial (by simp) (by simp)
termination_by n
decreasing_by all_goals omega
end Go.Flong
namespace Go.Flong
open Go Go.Eng Go.Proofs
theorem e76 : Enters' Try.prog 76 := Try.call76
theorem e93 : Enters' Try.prog 93 := Try.call93
theorem e89 : Enters' Try.prog 89 := Try.call89
theorem e87 : Enters' Try.prog 87 := Try.call87
theorem w25 {f : Fnd} {plan : List (List Int)} : ∀ x ∈ ([.e (.g [ai (f.shop.pounds), ai (f.shop.tl), ai (f.shop.th), ai (f.shop.al), ai (f.shop.ah), ai (f.shop.room), ai (f.shop.tpl), ai (f.shop.tph), ai (f.shop.apl), ai (f.shop.aph), .q 0, .q 1]), .e (.a (.q 2))] : List SV), x.res (keys (α := Pred) [(0, PL EPig (f.shop.pigs)), (1, PL ENight (f.nights)), (2, PL (EP.sl EP.int) (plan))]) := by simp [SV.res, El.res, At.res, keys]
theorem r25 {f : Fnd} {plan : List (List Int)} : SV.res (keys (α := Pred) [(0, PL EP.int (f.wFailsV plan))]) (.t [.a (.q 0), .a (ai (f.wOpen (f.wPlan plan)))]) := by simp [SV.res, El.res, At.res, keys]
set_option maxHeartbeats 4000000 in
theorem c25 (f : Fnd) (plan : List (List Int)) (hl : f.shop.pigs.length ≤ 40) : Sig Try.prog 25 [.e (.g [ai (f.shop.pounds), ai (f.shop.tl), ai (f.shop.th), ai (f.shop.al), ai (f.shop.ah), ai (f.shop.room), ai (f.shop.tpl), ai (f.shop.tph), ai (f.shop.apl), ai (f.shop.aph), .q 0, .q 1]), .e (.a (.q 2))] [(0, PL EPig (f.shop.pigs)), (1, PL ENight (f.nights)), (2, PL (EP.sl EP.int) (plan))] (.t [.a (.q 0), .a (ai (f.wOpen (f.wPlan plan)))]) [(0, PL EP.int (f.wFailsV plan))] := by
  rcases (show f.chk = false ∨ (f.chk = true ∧ (f.wPlan plan) = false) ∨ (f.chk = true ∧ (f.wPlan plan) = true) from by cases f.chk <;> cases (f.wPlan plan) <;> simp) with hf | ⟨hf, hv⟩ | ⟨hf, hv⟩
  · skip
    refine Sig.intro Try.func25 rfl 3 [(0, .e (.g [ai (f.shop.pounds), ai (f.shop.tl), ai (f.shop.th), ai (f.shop.al), ai (f.shop.ah), ai (f.shop.room), ai (f.shop.tpl), ai (f.shop.tph), ai (f.shop.apl), ai (f.shop.aph), .q 0, .q 1])), (1, .e (.a (.q 2)))] rfl w25 rfl rfl fun I w => ?_
    refine WP.seq ?_
    refine WP.region ?_
    refine WPl.l 3 4 rfl rfl rfl (o_boxg rfl) ?_
    refine WPl.l 4 5 rfl rfl rfl (o_boxa rfl (.inl ⟨_, (lx rfl), PL.one⟩)) ?_
    refine WPl.v rfl (o_assign rfl) ?_
    refine WPl.v rfl (o_assign rfl) ?_
    refine WPl.nil ?_
    refine EX.then ?_
    refine WP.seq ?_
    refine WP.region ?_
    refine WPl.v rfl (o_ldpa G31 rfl rfl rfl) ?_
    refine WPl.imp (Imp.frzb (E := EP.box (PL (EP.sl EP.int) (plan))) (y := ()) 4 5 6 rfl rfl (bok_box (lx rfl)) rfl rfl rfl) ?_
    refine WPl.x 6 7 rfl rfl rfl (o_mkfn0 6 rfl) ?_
    refine WPl.cs 7 rfl rfl rfl rfl (o_sig 7 (ren [(0, 0), (1, 1), (2, 6)]) (c76CE f hf hl) e76 rfl rfl rfl w76CE ⟨(lx rfl), (lx rfl), (lx rfl), trivial⟩ r76CE) ?_
    refine WPl.v rfl (o_move rfl) ?_
    refine WPl.v rfl (o_extract rfl rfl) ?_
    refine WPl.v rfl (o_extract rfl rfl) ?_
    refine WPl.v rfl (o_assign rfl) ?_
    refine WPl.v rfl (o_assign rfl) ?_
    refine WPl.nil ?_
    refine EX.then ?_
    refine WP.seq ?_
    refine WP.seq ?_
    refine WP.region ?_
    refine WPl.v rfl (o_move rfl) ?_
    refine WPl.v rfl (o_neq rfl rfl) ?_
    refine WPl.nil ?_
    refine EX.then ?_
    refine WP.cond rfl (fun hc1 => ?_) (fun hc1 => ?_)
    · try simp only [decide_eq_true_eq, decide_eq_false_iff_not, Bool.and_eq_true, Bool.or_eq_true, Bool.and_eq_false_iff, Bool.or_eq_false_iff, Bool.not_eq_true', Bool.not_eq_false', ne_eq, Decidable.not_not] at hc1
      refine WP.seq ?_
      refine WP.region ?_
      refine WPl.v rfl (o_move rfl) ?_
      refine WPl.v rfl (o_assign rfl) ?_
      refine WPl.v rfl (o_assign rfl) ?_
      refine WPl.nil ?_
      refine EX.then ?_
      refine WP.ret ?_
      refine EX.ret_then ?_
      refine EX.imp (Imp.nam 7 8 (.slice none 0 0) (R := PN EP.int) pn_ok rfl rfl) ?_
      refine EX.imp (Imp.swF 4 7 rfl (lxr rfl)) ?_
      have he : f.wOpen (f.wPlan plan) = 130 := by simp [Fnd.wOpen, hf]
      rw [he, show f.wFailsV plan = [] from by simp [Fnd.wFailsV, he]]
      exact EX.fin (ren [(0, 7)]) (.inl rfl) rfl (.tmp rfl (.tmp rfl .nil)) rfl (by simp [SV.res, El.res, At.res, keys]) ⟨lxl rfl, trivial⟩ (by simp) (by simp)
    · try simp only [decide_eq_true_eq, decide_eq_false_iff_not, Bool.and_eq_true, Bool.or_eq_true, Bool.and_eq_false_iff, Bool.or_eq_false_iff, Bool.not_eq_true', Bool.not_eq_false', ne_eq, Decidable.not_not] at hc1
      simp at hc1
  · skip
    refine Sig.intro Try.func25 rfl 3 [(0, .e (.g [ai (f.shop.pounds), ai (f.shop.tl), ai (f.shop.th), ai (f.shop.al), ai (f.shop.ah), ai (f.shop.room), ai (f.shop.tpl), ai (f.shop.tph), ai (f.shop.apl), ai (f.shop.aph), .q 0, .q 1])), (1, .e (.a (.q 2)))] rfl w25 rfl rfl fun I w => ?_
    refine WP.seq ?_
    refine WP.region ?_
    refine WPl.l 3 4 rfl rfl rfl (o_boxg rfl) ?_
    refine WPl.l 4 5 rfl rfl rfl (o_boxa rfl (.inl ⟨_, (lx rfl), PL.one⟩)) ?_
    refine WPl.v rfl (o_assign rfl) ?_
    refine WPl.v rfl (o_assign rfl) ?_
    refine WPl.nil ?_
    refine EX.then ?_
    refine WP.seq ?_
    refine WP.region ?_
    refine WPl.v rfl (o_ldpa G31 rfl rfl rfl) ?_
    refine WPl.imp (Imp.frzb (E := EP.box (PL (EP.sl EP.int) (plan))) (y := ()) 4 5 6 rfl rfl (bok_box (lx rfl)) rfl rfl rfl) ?_
    refine WPl.x 6 7 rfl rfl rfl (o_mkfva (svs := fun (r : Option Nat) => [.e (.a (.q 0))]) (X0 := fun (r : Option Nat) => [(0, PP (EWk r) (f))]) (sv := fun (r : Option Nat) => .b ((f.wPlan plan))) (X := fun (r : Option Nat) => []) (cs := [.e (.a (.q 1))]) (Xc := [(1, PP (EP.box (PL (EP.sl EP.int) (plan))) ())]) 6 (ren [(1, 5)]) (fun (r : Option Nat) => (c93 f r plan hf)) e93 (fun _ => rfl) rfl SvsOK.rf (fun _ => (by simp [SV.res, El.res, At.res, keys])) (by simp [SV.res, El.res, At.res, keys]) ⟨(lx rfl), trivial⟩) ?_
    refine WPl.cs 7 rfl rfl rfl rfl (o_sig 7 (ren [(0, 0), (1, 1), (2, 6)]) (c76CF f (f.wPlan plan) hf hv) e76 rfl rfl rfl w76CF ⟨(lx rfl), (lx rfl), (lx rfl), trivial⟩ r76CF) ?_
    refine WPl.v rfl (o_move rfl) ?_
    refine WPl.v rfl (o_extract rfl rfl) ?_
    refine WPl.v rfl (o_extract rfl rfl) ?_
    refine WPl.v rfl (o_assign rfl) ?_
    refine WPl.v rfl (o_assign rfl) ?_
    refine WPl.nil ?_
    refine EX.then ?_
    refine WP.seq ?_
    refine WP.seq ?_
    refine WP.region ?_
    refine WPl.v rfl (o_move rfl) ?_
    refine WPl.v rfl (o_neq rfl rfl) ?_
    refine WPl.nil ?_
    refine EX.then ?_
    refine WP.cond rfl (fun hc1 => ?_) (fun hc1 => ?_)
    · try simp only [decide_eq_true_eq, decide_eq_false_iff_not, Bool.and_eq_true, Bool.or_eq_true, Bool.and_eq_false_iff, Bool.or_eq_false_iff, Bool.not_eq_true', Bool.not_eq_false', ne_eq, Decidable.not_not] at hc1
      refine WP.seq ?_
      refine WP.region ?_
      refine WPl.v rfl (o_move rfl) ?_
      refine WPl.v rfl (o_assign rfl) ?_
      refine WPl.v rfl (o_assign rfl) ?_
      refine WPl.nil ?_
      refine EX.then ?_
      refine WP.ret ?_
      refine EX.ret_then ?_
      refine EX.imp (Imp.nam 7 8 (.slice none 0 0) (R := PN EP.int) pn_ok rfl rfl) ?_
      refine EX.imp (Imp.swF 4 7 rfl (lxr rfl)) ?_
      have he : f.wOpen (f.wPlan plan) = 1 := by simp [Fnd.wOpen, hf, hv]
      rw [he, show f.wFailsV plan = [] from by simp [Fnd.wFailsV, he]]
      exact EX.fin (ren [(0, 7)]) (.inl rfl) rfl (.tmp rfl (.tmp rfl .nil)) rfl (by simp [SV.res, El.res, At.res, keys]) ⟨lxl rfl, trivial⟩ (by simp) (by simp)
    · try simp only [decide_eq_true_eq, decide_eq_false_iff_not, Bool.and_eq_true, Bool.or_eq_true, Bool.and_eq_false_iff, Bool.or_eq_false_iff, Bool.not_eq_true', Bool.not_eq_false', ne_eq, Decidable.not_not] at hc1
      simp at hc1
  · skip
    refine Sig.intro Try.func25 rfl 3 [(0, .e (.g [ai (f.shop.pounds), ai (f.shop.tl), ai (f.shop.th), ai (f.shop.al), ai (f.shop.ah), ai (f.shop.room), ai (f.shop.tpl), ai (f.shop.tph), ai (f.shop.apl), ai (f.shop.aph), .q 0, .q 1])), (1, .e (.a (.q 2)))] rfl w25 rfl rfl fun I w => ?_
    refine WP.seq ?_
    refine WP.region ?_
    refine WPl.l 3 4 rfl rfl rfl (o_boxg rfl) ?_
    refine WPl.l 4 5 rfl rfl rfl (o_boxa rfl (.inl ⟨_, (lx rfl), PL.one⟩)) ?_
    refine WPl.v rfl (o_assign rfl) ?_
    refine WPl.v rfl (o_assign rfl) ?_
    refine WPl.nil ?_
    refine EX.then ?_
    refine WP.seq ?_
    refine WP.region ?_
    refine WPl.v rfl (o_ldpa G31 rfl rfl rfl) ?_
    refine WPl.imp (Imp.frzb (E := EP.box (PL (EP.sl EP.int) (plan))) (y := ()) 4 5 6 rfl rfl (bok_box (lx rfl)) rfl rfl rfl) ?_
    refine WPl.x 6 7 rfl rfl rfl (o_mkfva (svs := fun (r : Option Nat) => [.e (.a (.q 0))]) (X0 := fun (r : Option Nat) => [(0, PP (EWk r) (f))]) (sv := fun (r : Option Nat) => .b ((f.wPlan plan))) (X := fun (r : Option Nat) => []) (cs := [.e (.a (.q 1))]) (Xc := [(1, PP (EP.box (PL (EP.sl EP.int) (plan))) ())]) 6 (ren [(1, 5)]) (fun (r : Option Nat) => (c93 f r plan hf)) e93 (fun _ => rfl) rfl SvsOK.rf (fun _ => (by simp [SV.res, El.res, At.res, keys])) (by simp [SV.res, El.res, At.res, keys]) ⟨(lx rfl), trivial⟩) ?_
    refine WPl.cM 9 (o_sigm (J := [0]) 7 8 (ren [(0, 0), (1, 1), (2, 6)]) (c76C f (f.wPlan plan) hf hv) e76 rfl rfl SvsOK.rf w76C ⟨(lx rfl), (lx rfl), (lx rfl), trivial⟩ (fun _ => rfl) (by simp [SV.res, El.res, At.res, keys]) rfl) rfl rfl rfl fun b11 => ?_
    refine WPl.v rfl (o_move rfl) ?_
    refine WPl.v rfl (o_extract rfl rfl) ?_
    refine WPl.v rfl (o_extract rfl rfl) ?_
    refine WPl.v rfl (o_assign rfl) ?_
    refine WPl.v rfl (o_assign rfl) ?_
    refine WPl.nil ?_
    refine EX.then ?_
    refine WP.seq ?_
    refine WP.seq ?_
    refine WP.region ?_
    refine WPl.v rfl (o_move rfl) ?_
    refine WPl.v rfl (o_neq rfl rfl) ?_
    refine WPl.nil ?_
    refine EX.then ?_
    refine WP.cond rfl (fun hc1 => ?_) (fun hc1 => ?_)
    · try simp only [decide_eq_true_eq, decide_eq_false_iff_not, Bool.and_eq_true, Bool.or_eq_true, Bool.and_eq_false_iff, Bool.or_eq_false_iff, Bool.not_eq_true', Bool.not_eq_false', ne_eq, Decidable.not_not] at hc1
      simp at hc1
    · try simp only [decide_eq_true_eq, decide_eq_false_iff_not, Bool.and_eq_true, Bool.or_eq_true, Bool.and_eq_false_iff, Bool.or_eq_false_iff, Bool.not_eq_true', Bool.not_eq_false', ne_eq, Decidable.not_not] at hc1
      have hp := wPlanB hf hv
      have hcb := Fnd.chkB hf
      have htb := tl_bnd (Fnd.shopOK hf)
      have hpg := Shop.pigsOK (Fnd.shopOK hf)
      refine WP.skip ?_
      refine EX.then ?_
      refine WP.seq ?_
      refine WP.region ?_
      refine WPl.v rfl (o_move rfl) ?_
      refine WPl.x 9 10 rfl rfl rfl (o_ldqx S32 rfl (lx rfl) boxx) ?_
      refine WPl.cs 11 rfl rfl rfl rfl (o_sig 10 (ren [(0, 7), (1, 9)]) (c89 f (some b11) plan hf hp) e89 rfl rfl rfl w89 ⟨(lx rfl), (lx rfl), trivial⟩ r89) ?_
      refine WPl.v rfl (o_assign rfl) ?_
      refine WPl.v rfl (o_assign rfl) ?_
      refine WPl.nil ?_
      refine EX.then ?_
      refine WP.ret ?_
      have he : f.wOpen (f.wPlan plan) = 0 := by simp [Fnd.wOpen, hf, hv]
      rw [he, show f.wFailsV plan = f.wFails plan from by simp [Fnd.wFailsV, he]]
      exact EX.fin (ren [(0, 10)]) (.inl rfl) rfl (.tmp rfl (.tmp rfl .nil)) rfl (by simp [SV.res, El.res, At.res, keys]) ⟨(lx rfl), trivial⟩ (by simp) (by simp)
theorem w23 {f : Fnd} {plan : List (List Int)} : ∀ x ∈ ([.e (.g [ai (f.shop.pounds), ai (f.shop.tl), ai (f.shop.th), ai (f.shop.al), ai (f.shop.ah), ai (f.shop.room), ai (f.shop.tpl), ai (f.shop.tph), ai (f.shop.apl), ai (f.shop.aph), .q 0, .q 1]), .e (.a (.q 2))] : List SV), x.res (keys (α := Pred) [(0, PL EPig (f.shop.pigs)), (1, PL ENight (f.nights)), (2, PL (EP.sl EP.int) (plan))]) := by simp [SV.res, El.res, At.res, keys]
theorem r23 {f : Fnd} {plan : List (List Int)} : SV.res (keys (α := Pred) []) (.t [.a (ai (f.wSafeV plan)), .a (ai (f.wOpen (f.wPlan plan)))]) := by simp [SV.res, El.res, At.res, keys]
set_option maxHeartbeats 4000000 in
theorem c23 (f : Fnd) (plan : List (List Int)) (hl : f.shop.pigs.length ≤ 40) : Sig Try.prog 23 [.e (.g [ai (f.shop.pounds), ai (f.shop.tl), ai (f.shop.th), ai (f.shop.al), ai (f.shop.ah), ai (f.shop.room), ai (f.shop.tpl), ai (f.shop.tph), ai (f.shop.apl), ai (f.shop.aph), .q 0, .q 1]), .e (.a (.q 2))] [(0, PL EPig (f.shop.pigs)), (1, PL ENight (f.nights)), (2, PL (EP.sl EP.int) (plan))] (.t [.a (ai (f.wSafeV plan)), .a (ai (f.wOpen (f.wPlan plan)))]) [] := by
  rcases (show f.chk = false ∨ (f.chk = true ∧ (f.wPlan plan) = false) ∨ (f.chk = true ∧ (f.wPlan plan) = true) from by cases f.chk <;> cases (f.wPlan plan) <;> simp) with hf | ⟨hf, hv⟩ | ⟨hf, hv⟩
  · skip
    refine Sig.intro Try.func23 rfl 3 [(0, .e (.g [ai (f.shop.pounds), ai (f.shop.tl), ai (f.shop.th), ai (f.shop.al), ai (f.shop.ah), ai (f.shop.room), ai (f.shop.tpl), ai (f.shop.tph), ai (f.shop.apl), ai (f.shop.aph), .q 0, .q 1])), (1, .e (.a (.q 2)))] rfl w23 rfl rfl fun I w => ?_
    refine WP.seq ?_
    refine WP.region ?_
    refine WPl.l 3 4 rfl rfl rfl (o_boxg rfl) ?_
    refine WPl.l 4 5 rfl rfl rfl (o_boxa rfl (.inl ⟨_, (lx rfl), PL.one⟩)) ?_
    refine WPl.v rfl (o_assign rfl) ?_
    refine WPl.v rfl (o_assign rfl) ?_
    refine WPl.nil ?_
    refine EX.then ?_
    refine WP.seq ?_
    refine WP.region ?_
    refine WPl.v rfl (o_ldpa G31 rfl rfl rfl) ?_
    refine WPl.imp (Imp.frzb (E := EP.box (PL (EP.sl EP.int) (plan))) (y := ()) 4 5 6 rfl rfl (bok_box (lx rfl)) rfl rfl rfl) ?_
    refine WPl.x 6 7 rfl rfl rfl (o_mkfn0 6 rfl) ?_
    refine WPl.cs 7 rfl rfl rfl rfl (o_sig 7 (ren [(0, 0), (1, 1), (2, 6)]) (c76CE f hf hl) e76 rfl rfl rfl w76CE ⟨(lx rfl), (lx rfl), (lx rfl), trivial⟩ r76CE) ?_
    refine WPl.v rfl (o_move rfl) ?_
    refine WPl.v rfl (o_extract rfl rfl) ?_
    refine WPl.v rfl (o_extract rfl rfl) ?_
    refine WPl.v rfl (o_assign rfl) ?_
    refine WPl.v rfl (o_assign rfl) ?_
    refine WPl.nil ?_
    refine EX.then ?_
    refine WP.seq ?_
    refine WP.seq ?_
    refine WP.region ?_
    refine WPl.v rfl (o_move rfl) ?_
    refine WPl.v rfl (o_neq rfl rfl) ?_
    refine WPl.nil ?_
    refine EX.then ?_
    refine WP.cond rfl (fun hc1 => ?_) (fun hc1 => ?_)
    · try simp only [decide_eq_true_eq, decide_eq_false_iff_not, Bool.and_eq_true, Bool.or_eq_true, Bool.and_eq_false_iff, Bool.or_eq_false_iff, Bool.not_eq_true', Bool.not_eq_false', ne_eq, Decidable.not_not] at hc1
      refine WP.seq ?_
      refine WP.region ?_
      refine WPl.v rfl (o_move rfl) ?_
      refine WPl.v rfl (o_assign rfl) ?_
      refine WPl.v rfl (o_assign rfl) ?_
      refine WPl.nil ?_
      refine EX.then ?_
      refine WP.ret ?_
      refine EX.ret_then ?_
      have he : f.wOpen (f.wPlan plan) = 130 := by simp [Fnd.wOpen, hf]
      rw [he, show f.wSafeV plan = 0 from by simp [Fnd.wSafeV, he]]
      exact EX.fin id (.inl rfl) rfl (.tmp rfl (.tmp rfl .nil)) rfl (by simp [SV.res, El.res, At.res, keys]) trivial (by simp) (by simp)
    · try simp only [decide_eq_true_eq, decide_eq_false_iff_not, Bool.and_eq_true, Bool.or_eq_true, Bool.and_eq_false_iff, Bool.or_eq_false_iff, Bool.not_eq_true', Bool.not_eq_false', ne_eq, Decidable.not_not] at hc1
      simp at hc1
  · skip
    refine Sig.intro Try.func23 rfl 3 [(0, .e (.g [ai (f.shop.pounds), ai (f.shop.tl), ai (f.shop.th), ai (f.shop.al), ai (f.shop.ah), ai (f.shop.room), ai (f.shop.tpl), ai (f.shop.tph), ai (f.shop.apl), ai (f.shop.aph), .q 0, .q 1])), (1, .e (.a (.q 2)))] rfl w23 rfl rfl fun I w => ?_
    refine WP.seq ?_
    refine WP.region ?_
    refine WPl.l 3 4 rfl rfl rfl (o_boxg rfl) ?_
    refine WPl.l 4 5 rfl rfl rfl (o_boxa rfl (.inl ⟨_, (lx rfl), PL.one⟩)) ?_
    refine WPl.v rfl (o_assign rfl) ?_
    refine WPl.v rfl (o_assign rfl) ?_
    refine WPl.nil ?_
    refine EX.then ?_
    refine WP.seq ?_
    refine WP.region ?_
    refine WPl.v rfl (o_ldpa G31 rfl rfl rfl) ?_
    refine WPl.imp (Imp.frzb (E := EP.box (PL (EP.sl EP.int) (plan))) (y := ()) 4 5 6 rfl rfl (bok_box (lx rfl)) rfl rfl rfl) ?_
    refine WPl.x 6 7 rfl rfl rfl (o_mkfva (svs := fun (r : Option Nat) => [.e (.a (.q 0))]) (X0 := fun (r : Option Nat) => [(0, PP (EWk r) (f))]) (sv := fun (r : Option Nat) => .b ((f.wPlan plan))) (X := fun (r : Option Nat) => []) (cs := [.e (.a (.q 1))]) (Xc := [(1, PP (EP.box (PL (EP.sl EP.int) (plan))) ())]) 6 (ren [(1, 5)]) (fun (r : Option Nat) => (c87 f r plan hf)) e87 (fun _ => rfl) rfl SvsOK.rf (fun _ => (by simp [SV.res, El.res, At.res, keys])) (by simp [SV.res, El.res, At.res, keys]) ⟨(lx rfl), trivial⟩) ?_
    refine WPl.cs 7 rfl rfl rfl rfl (o_sig 7 (ren [(0, 0), (1, 1), (2, 6)]) (c76CF f (f.wPlan plan) hf hv) e76 rfl rfl rfl w76CF ⟨(lx rfl), (lx rfl), (lx rfl), trivial⟩ r76CF) ?_
    refine WPl.v rfl (o_move rfl) ?_
    refine WPl.v rfl (o_extract rfl rfl) ?_
    refine WPl.v rfl (o_extract rfl rfl) ?_
    refine WPl.v rfl (o_assign rfl) ?_
    refine WPl.v rfl (o_assign rfl) ?_
    refine WPl.nil ?_
    refine EX.then ?_
    refine WP.seq ?_
    refine WP.seq ?_
    refine WP.region ?_
    refine WPl.v rfl (o_move rfl) ?_
    refine WPl.v rfl (o_neq rfl rfl) ?_
    refine WPl.nil ?_
    refine EX.then ?_
    refine WP.cond rfl (fun hc1 => ?_) (fun hc1 => ?_)
    · try simp only [decide_eq_true_eq, decide_eq_false_iff_not, Bool.and_eq_true, Bool.or_eq_true, Bool.and_eq_false_iff, Bool.or_eq_false_iff, Bool.not_eq_true', Bool.not_eq_false', ne_eq, Decidable.not_not] at hc1
      refine WP.seq ?_
      refine WP.region ?_
      refine WPl.v rfl (o_move rfl) ?_
      refine WPl.v rfl (o_assign rfl) ?_
      refine WPl.v rfl (o_assign rfl) ?_
      refine WPl.nil ?_
      refine EX.then ?_
      refine WP.ret ?_
      refine EX.ret_then ?_
      have he : f.wOpen (f.wPlan plan) = 1 := by simp [Fnd.wOpen, hf, hv]
      rw [he, show f.wSafeV plan = 0 from by simp [Fnd.wSafeV, he]]
      exact EX.fin id (.inl rfl) rfl (.tmp rfl (.tmp rfl .nil)) rfl (by simp [SV.res, El.res, At.res, keys]) trivial (by simp) (by simp)
    · try simp only [decide_eq_true_eq, decide_eq_false_iff_not, Bool.and_eq_true, Bool.or_eq_true, Bool.and_eq_false_iff, Bool.or_eq_false_iff, Bool.not_eq_true', Bool.not_eq_false', ne_eq, Decidable.not_not] at hc1
      simp at hc1
  · skip
    refine Sig.intro Try.func23 rfl 3 [(0, .e (.g [ai (f.shop.pounds), ai (f.shop.tl), ai (f.shop.th), ai (f.shop.al), ai (f.shop.ah), ai (f.shop.room), ai (f.shop.tpl), ai (f.shop.tph), ai (f.shop.apl), ai (f.shop.aph), .q 0, .q 1])), (1, .e (.a (.q 2)))] rfl w23 rfl rfl fun I w => ?_
    refine WP.seq ?_
    refine WP.region ?_
    refine WPl.l 3 4 rfl rfl rfl (o_boxg rfl) ?_
    refine WPl.l 4 5 rfl rfl rfl (o_boxa rfl (.inl ⟨_, (lx rfl), PL.one⟩)) ?_
    refine WPl.v rfl (o_assign rfl) ?_
    refine WPl.v rfl (o_assign rfl) ?_
    refine WPl.nil ?_
    refine EX.then ?_
    refine WP.seq ?_
    refine WP.region ?_
    refine WPl.v rfl (o_ldpa G31 rfl rfl rfl) ?_
    refine WPl.imp (Imp.frzb (E := EP.box (PL (EP.sl EP.int) (plan))) (y := ()) 4 5 6 rfl rfl (bok_box (lx rfl)) rfl rfl rfl) ?_
    refine WPl.x 6 7 rfl rfl rfl (o_mkfva (svs := fun (r : Option Nat) => [.e (.a (.q 0))]) (X0 := fun (r : Option Nat) => [(0, PP (EWk r) (f))]) (sv := fun (r : Option Nat) => .b ((f.wPlan plan))) (X := fun (r : Option Nat) => []) (cs := [.e (.a (.q 1))]) (Xc := [(1, PP (EP.box (PL (EP.sl EP.int) (plan))) ())]) 6 (ren [(1, 5)]) (fun (r : Option Nat) => (c87 f r plan hf)) e87 (fun _ => rfl) rfl SvsOK.rf (fun _ => (by simp [SV.res, El.res, At.res, keys])) (by simp [SV.res, El.res, At.res, keys]) ⟨(lx rfl), trivial⟩) ?_
    refine WPl.cM 9 (o_sigm (J := [0]) 7 8 (ren [(0, 0), (1, 1), (2, 6)]) (c76C f (f.wPlan plan) hf hv) e76 rfl rfl SvsOK.rf w76C ⟨(lx rfl), (lx rfl), (lx rfl), trivial⟩ (fun _ => rfl) (by simp [SV.res, El.res, At.res, keys]) rfl) rfl rfl rfl fun b13 => ?_
    refine WPl.v rfl (o_move rfl) ?_
    refine WPl.v rfl (o_extract rfl rfl) ?_
    refine WPl.v rfl (o_extract rfl rfl) ?_
    refine WPl.v rfl (o_assign rfl) ?_
    refine WPl.v rfl (o_assign rfl) ?_
    refine WPl.nil ?_
    refine EX.then ?_
    refine WP.seq ?_
    refine WP.seq ?_
    refine WP.region ?_
    refine WPl.v rfl (o_move rfl) ?_
    refine WPl.v rfl (o_neq rfl rfl) ?_
    refine WPl.nil ?_
    refine EX.then ?_
    refine WP.cond rfl (fun hc1 => ?_) (fun hc1 => ?_)
    · try simp only [decide_eq_true_eq, decide_eq_false_iff_not, Bool.and_eq_true, Bool.or_eq_true, Bool.and_eq_false_iff, Bool.or_eq_false_iff, Bool.not_eq_true', Bool.not_eq_false', ne_eq, Decidable.not_not] at hc1
      simp at hc1
    · try simp only [decide_eq_true_eq, decide_eq_false_iff_not, Bool.and_eq_true, Bool.or_eq_true, Bool.and_eq_false_iff, Bool.or_eq_false_iff, Bool.not_eq_true', Bool.not_eq_false', ne_eq, Decidable.not_not] at hc1
      have hp := wPlanB hf hv
      have hcb := Fnd.chkB hf
      have htb := tl_bnd (Fnd.shopOK hf)
      have hpg := Shop.pigsOK (Fnd.shopOK hf)
      refine WP.skip ?_
      refine EX.then ?_
      refine WP.seq ?_
      refine WP.seq ?_
      refine WP.region ?_
      refine WPl.v rfl (o_move rfl) ?_
      refine WPl.cs 9 rfl rfl rfl rfl (o_sig 9 (ren [(0, 7)]) (c88 f (some b13) (by omega)) e88 rfl rfl rfl w88 ⟨(lx rfl), trivial⟩ r88) ?_
      refine WPl.v rfl (o_move rfl) ?_
      refine WPl.v rfl (o_extract rfl rfl) ?_
      refine WPl.v rfl (o_extract rfl rfl) ?_
      refine WPl.l 9 10 rfl rfl rfl (o_alloc Z105) ?_
      refine WPl.l 10 11 rfl rfl rfl (o_alloc Z110) ?_
      refine WPl.s1 (o_stag G105 rfl rfl rfl ⟨rfl, rfl, rfl, rfl, rfl, rfl, rfl, trivial⟩ rfl rfl) ?_
      refine WPl.s1 (o_stag G110 rfl rfl rfl ⟨rfl, rfl, rfl, rfl, trivial⟩ rfl rfl) ?_
      refine WPl.nil ?_
      refine EX.then ?_
      refine WP.block ?_
      refine WP.seq ?_
      refine WP.region ?_
      refine WPl.v rfl (o_move rfl) ?_
      refine WPl.x 11 12 rfl rfl rfl (o_ldqx S32 rfl (lx rfl) boxx) ?_
      refine WPl.cs 13 rfl rfl rfl rfl (o_sig 12 (ren [(0, 7), (1, 11)]) (c89 f (some b13) plan hf hp) e89 rfl rfl rfl w89 ⟨(lx rfl), (lx rfl), trivial⟩ r89) ?_
      refine WPl.v rfl (o_lenq L44 rfl (lx rfl)) ?_
      refine WPl.v rfl (o_eql rfl rfl) ?_
      refine WPl.v rfl (o_assign rfl) ?_
      refine WPl.nil ?_
      refine EX.then ?_
      refine WP.cond rfl (fun hc2 => ?_) (fun hc2 => ?_)
      · try simp only [decide_eq_true_eq, decide_eq_false_iff_not, Bool.and_eq_true, Bool.or_eq_true, Bool.and_eq_false_iff, Bool.or_eq_false_iff, Bool.not_eq_true', Bool.not_eq_false', ne_eq, Decidable.not_not] at hc2
        refine WP.seq ?_
        refine WP.region ?_
        refine WPl.v rfl (o_assign rfl) ?_
        refine WPl.v rfl (o_assign rfl) ?_
        refine WPl.nil ?_
        refine EX.then ?_
        refine WP.ret ?_
        refine EX.ret_blk ?_
        refine EX.ret_then ?_
        have hz : (f.wFails plan).length = 0 := by omega
        have he : f.wOpen (f.wPlan plan) = 0 := by simp [Fnd.wOpen, hf, hv]
        rw [he, show f.wSafeV plan = 1 from by simp [Fnd.wSafeV, he, List.length_eq_zero_iff.1 hz]]
        exact EX.fin id (.inl rfl) rfl (.tmp rfl (.tmp rfl .nil)) rfl (by simp [SV.res, El.res, At.res, keys]) trivial (by simp) (by simp)
      · try simp only [decide_eq_true_eq, decide_eq_false_iff_not, Bool.and_eq_true, Bool.or_eq_true, Bool.and_eq_false_iff, Bool.or_eq_false_iff, Bool.not_eq_true', Bool.not_eq_false', ne_eq, Decidable.not_not] at hc2
        refine WP.seq ?_
        refine WP.region ?_
        refine WPl.v rfl (o_move rfl) ?_
        refine WPl.x 13 14 rfl rfl rfl (o_ldqx S32 rfl (lx rfl) boxx) ?_
        refine WPl.v rfl (o_fldp F105_1 rfl) ?_
        refine WPl.v rfl (o_ldpg G23 rfl rfl rfl) ?_
        refine WPl.v rfl (o_fldp F105_2 rfl) ?_
        refine WPl.v rfl (o_ldpg G23 rfl rfl rfl) ?_
        refine WPl.v rfl (o_fldp F105_0 rfl) ?_
        refine WPl.v rfl (o_ldp S3 rfl rfl rfl) ?_
        refine WPl.v rfl (o_build B105 rfl ⟨rfl, trivial⟩ rfl rfl) ?_
        refine WPl.cs 14 rfl rfl rfl rfl (o_sig 14 (ren [(0, 7), (1, 13)]) (c90 f (some b13) plan 0 f.nights.length f.shop.tl f.shop.th f.shop.al f.shop.ah (⟨f.shop.pounds, 0, 0, 0, 0, 0, 0⟩ : Pt) hf hp (by omega) (by omega) (by unfold PtB; simp only []; omega) (by unfold SB; omega) (by unfold SB; omega)) e90 rfl rfl rfl w90 ⟨(lx rfl), (lx rfl), trivial⟩ r90) ?_
        refine WPl.v rfl (o_assign rfl) ?_
        refine WPl.nil ?_
        refine EX.then ?_
        refine WP.cond rfl (fun hc3 => ?_) (fun hc3 => ?_)
        · try simp only [decide_eq_true_eq, decide_eq_false_iff_not, Bool.and_eq_true, Bool.or_eq_true, Bool.and_eq_false_iff, Bool.or_eq_false_iff, Bool.not_eq_true', Bool.not_eq_false', ne_eq, Decidable.not_not] at hc3
          refine WP.seq ?_
          refine WP.region ?_
          refine WPl.v rfl (o_assign rfl) ?_
          refine WPl.v rfl (o_assign rfl) ?_
          refine WPl.nil ?_
          refine EX.then ?_
          refine WP.ret ?_
          refine EX.ret_blk ?_
          refine EX.ret_then ?_
          have hz : ¬ (f.wFails plan).length = 0 := by omega
          have hc : f.wCan plan = true := hc3
          have he : f.wOpen (f.wPlan plan) = 0 := by simp [Fnd.wOpen, hf, hv]
          rw [he, show f.wSafeV plan = 3 from by simp only [Fnd.wSafeV, he, if_neg hz, hc]; rfl]
          exact EX.fin id (.inl rfl) rfl (.tmp rfl (.tmp rfl .nil)) rfl (by simp [SV.res, El.res, At.res, keys]) trivial (by simp) (by simp)
        · try simp only [decide_eq_true_eq, decide_eq_false_iff_not, Bool.and_eq_true, Bool.or_eq_true, Bool.and_eq_false_iff, Bool.or_eq_false_iff, Bool.not_eq_true', Bool.not_eq_false', ne_eq, Decidable.not_not] at hc3
          refine WP.skip ?_
          refine EX.blk ?_
          refine EX.then ?_
          refine WP.seq ?_
          refine WP.region ?_
          refine WPl.v rfl (o_assign rfl) ?_
          refine WPl.v rfl (o_assign rfl) ?_
          refine WPl.nil ?_
          refine EX.then ?_
          refine WP.ret ?_
          have hz : ¬ (f.wFails plan).length = 0 := by omega
          have hc : f.wCan plan = false := hc3
          have he : f.wOpen (f.wPlan plan) = 0 := by simp [Fnd.wOpen, hf, hv]
          rw [he, show f.wSafeV plan = 2 from by simp only [Fnd.wSafeV, he, if_neg hz, hc]; rfl]
          exact EX.fin id (.inl rfl) rfl (.tmp rfl (.tmp rfl .nil)) rfl (by simp [SV.res, El.res, At.res, keys]) trivial (by simp) (by simp)
end Go.Flong
namespace Go.Flong
open Go Go.Eng Go.Proofs
theorem e161 : Enters' Try.prog 161 := Try.call161
theorem e138 : Enters' Try.prog 138 := Try.call138
theorem R32 : RowT Try.prog 32 44 1 24 [.slice none 0 0] := ⟨Try.underlying32, ⟨Try.t44, _, by kernel_rfl, rfl, rfl, rfl, rfl⟩, rfl, by decide⟩
theorem e95 : Enters' Try.prog 95 := Try.call95
theorem e94 : Enters' Try.prog 94 := Try.call94
theorem w161 {n : Nat} : ∀ x ∈ ([.e (.a (.v (.int .u64 1))), .e (.a (.v (.int .u64 ((n : Int)))))] : List SV), x.res (keys (α := Pred) []) := by simp [SV.res, El.res, At.res, keys]
theorem r161 {n : Nat} : SV.res (keys (α := Pred) []) (.t [.a (.v (.int .u64 0)), .a (.v (.int .u64 ((n : Int))))]) := by simp [SV.res, El.res, At.res, keys]
set_option maxHeartbeats 4000000 in
theorem c161 (n : Nat) (h : n ≤ 4) : Sig Try.prog 161 [.e (.a (.v (.int .u64 1))), .e (.a (.v (.int .u64 ((n : Int)))))] [] (.t [.a (.v (.int .u64 0)), .a (.v (.int .u64 ((n : Int))))]) [] := by
  refine Sig.intro Try.func161 rfl 0 [(0, .e (.a (.v (.int .u64 1)))), (1, .e (.a (.v (.int .u64 ((n : Int))))))] rfl w161 rfl rfl fun I w => ?_
  refine WP.seq ?_
  refine WP.region ?_
  refine WPl.v rfl (o_assign rfl) ?_
  refine WPl.v rfl (o_assign rfl) ?_
  refine WPl.nil ?_
  refine EX.then ?_
  refine WP.seq ?_
  refine WP.region ?_
  refine WPl.v rfl (o_move rfl) ?_
  refine WPl.v rfl (o_binv rfl rfl (fun _ => rfl)) ?_
  refine WPl.v rfl (o_assign rfl) ?_
  refine WPl.nil ?_
  refine EX.then ?_
  refine WP.seq ?_
  refine WP.region ?_
  refine WPl.v rfl (o_move rfl) ?_
  refine WPl.v rfl (o_binv rfl rfl (fun _ => rfl)) ?_
  refine WPl.v rfl (o_assign rfl) ?_
  refine WPl.nil ?_
  refine EX.then ?_
  refine WP.seq ?_
  refine WP.region ?_
  refine WPl.v rfl (o_move rfl) ?_
  refine WPl.v rfl (o_binv (r := .int .u64 (n : Int)) rfl rfl (fun _ => by rcases (show n = 0 ∨ n = 1 ∨ n = 2 ∨ n = 3 ∨ n = 4 by omega) with rfl | rfl | rfl | rfl | rfl <;> rfl)) ?_
  refine WPl.v rfl (o_assign rfl) ?_
  refine WPl.nil ?_
  refine EX.then ?_
  refine WP.seq ?_
  refine WP.region ?_
  refine WPl.v rfl (o_move rfl) ?_
  refine WPl.v rfl (o_binv (r := .int .u64 0) rfl rfl (fun _ => by rcases (show n = 0 ∨ n = 1 ∨ n = 2 ∨ n = 3 ∨ n = 4 by omega) with rfl | rfl | rfl | rfl | rfl <;> rfl)) ?_
  refine WPl.v rfl (o_assign rfl) ?_
  refine WPl.nil ?_
  refine EX.then ?_
  refine WP.seq ?_
  refine WP.region ?_
  refine WPl.v rfl (o_move rfl) ?_
  refine WPl.v rfl (o_move rfl) ?_
  refine WPl.v rfl (o_binv (r := .int .u64 (n : Int)) rfl rfl (fun _ => by rcases (show n = 0 ∨ n = 1 ∨ n = 2 ∨ n = 3 ∨ n = 4 by omega) with rfl | rfl | rfl | rfl | rfl <;> rfl)) ?_
  refine WPl.v rfl (o_assign rfl) ?_
  refine WPl.nil ?_
  refine EX.then ?_
  refine WP.seq ?_
  refine WP.region ?_
  refine WPl.v rfl (o_move rfl) ?_
  refine WPl.v rfl (o_move rfl) ?_
  refine WPl.v rfl (o_binv (r := .int .u64 0) rfl rfl (fun _ => by rcases (show n = 0 ∨ n = 1 ∨ n = 2 ∨ n = 3 ∨ n = 4 by omega) with rfl | rfl | rfl | rfl | rfl <;> rfl)) ?_
  refine WPl.v rfl (o_move rfl) ?_
  refine WPl.v rfl (o_binv (r := .int .u64 0) rfl rfl (fun _ => by rcases (show n = 0 ∨ n = 1 ∨ n = 2 ∨ n = 3 ∨ n = 4 by omega) with rfl | rfl | rfl | rfl | rfl <;> rfl)) ?_
  refine WPl.v rfl (o_binv rfl rfl (fun _ => rfl)) ?_
  refine WPl.v rfl (o_assign rfl) ?_
  refine WPl.nil ?_
  refine EX.then ?_
  refine WP.seq ?_
  refine WP.region ?_
  refine WPl.v rfl (o_move rfl) ?_
  refine WPl.v rfl (o_binv rfl rfl (fun _ => rfl)) ?_
  refine WPl.v rfl (o_assign rfl) ?_
  refine WPl.nil ?_
  refine EX.then ?_
  refine WP.seq ?_
  refine WP.region ?_
  refine WPl.v rfl (o_move rfl) ?_
  refine WPl.v rfl (o_binv rfl rfl (fun _ => rfl)) ?_
  refine WPl.v rfl (o_assign rfl) ?_
  refine WPl.nil ?_
  refine EX.then ?_
  refine WP.seq ?_
  refine WP.region ?_
  refine WPl.v rfl (o_move rfl) ?_
  refine WPl.v rfl (o_move rfl) ?_
  refine WPl.v rfl (o_move rfl) ?_
  refine WPl.v rfl (o_binv (r := .int .u64 0) rfl rfl (fun _ => by rcases (show n = 0 ∨ n = 1 ∨ n = 2 ∨ n = 3 ∨ n = 4 by omega) with rfl | rfl | rfl | rfl | rfl <;> rfl)) ?_
  refine WPl.v rfl (o_binv rfl rfl (fun _ => rfl)) ?_
  refine WPl.v rfl (o_assign rfl) ?_
  refine WPl.nil ?_
  refine EX.then ?_
  refine WP.seq ?_
  refine WP.region ?_
  refine WPl.v rfl (o_move rfl) ?_
  refine WPl.v rfl (o_move rfl) ?_
  refine WPl.v rfl (o_binv (r := .int .u64 0) rfl rfl (fun _ => by rcases (show n = 0 ∨ n = 1 ∨ n = 2 ∨ n = 3 ∨ n = 4 by omega) with rfl | rfl | rfl | rfl | rfl <;> rfl)) ?_
  refine WPl.v rfl (o_move rfl) ?_
  refine WPl.v rfl (o_binv rfl rfl (fun _ => rfl)) ?_
  refine WPl.v rfl (o_move rfl) ?_
  refine WPl.v rfl (o_binv rfl rfl (fun _ => rfl)) ?_
  refine WPl.v rfl (o_binv rfl rfl (fun _ => rfl)) ?_
  refine WPl.v rfl (o_assign rfl) ?_
  refine WPl.nil ?_
  refine EX.then ?_
  refine WP.seq ?_
  refine WP.region ?_
  refine WPl.v rfl (o_move rfl) ?_
  refine WPl.v rfl (o_move rfl) ?_
  refine WPl.v rfl (o_binv (r := .int .u64 (n : Int)) rfl rfl (fun _ => by rcases (show n = 0 ∨ n = 1 ∨ n = 2 ∨ n = 3 ∨ n = 4 by omega) with rfl | rfl | rfl | rfl | rfl <;> rfl)) ?_
  refine WPl.v rfl (o_assign rfl) ?_
  refine WPl.nil ?_
  refine EX.then ?_
  refine WP.ret ?_
  exact EX.fin id (.inl rfl) rfl (.tmp rfl (.tmp rfl .nil)) rfl r161 trivial (by simp) (by simp)
theorem w138 {n : Nat} : ∀ x ∈ ([.e (.a (.v (.int .u64 1))), .e (.a (.v (.int .u64 ((n : Int)))))] : List SV), x.res (keys (α := Pred) []) := by simp [SV.res, El.res, At.res, keys]
theorem r138 {n : Nat} : SV.res (keys (α := Pred) []) (.t [.a (.v (.int .u64 0)), .a (.v (.int .u64 ((n : Int))))]) := by simp [SV.res, El.res, At.res, keys]
set_option maxHeartbeats 4000000 in
theorem c138 (n : Nat) (h : n ≤ 4) : Sig Try.prog 138 [.e (.a (.v (.int .u64 1))), .e (.a (.v (.int .u64 ((n : Int)))))] [] (.t [.a (.v (.int .u64 0)), .a (.v (.int .u64 ((n : Int))))]) [] := by
  refine Sig.intro Try.func138 rfl 0 [(0, .e (.a (.v (.int .u64 1)))), (1, .e (.a (.v (.int .u64 ((n : Int))))))] rfl w138 rfl rfl fun I w => ?_
  refine WP.seq ?_
  refine WP.region ?_
  refine WPl.v rfl (o_assign rfl) ?_
  refine WPl.v rfl (o_assign rfl) ?_
  refine WPl.nil ?_
  refine EX.then ?_
  refine WP.seq ?_
  refine WP.cond rfl (fun h => by cases h) (fun _ => ?_)
  refine WP.skip ?_
  refine EX.then ?_
  refine WP.seq ?_
  refine WP.region ?_
  refine WPl.v rfl (o_move rfl) ?_
  refine WPl.v rfl (o_move rfl) ?_
  refine WPl.cs 0 rfl rfl rfl rfl (o_sig 0 id (c161 n h) e161 rfl rfl rfl w161 trivial r161) ?_
  refine WPl.v rfl (o_move rfl) ?_
  refine WPl.v rfl (o_extract rfl rfl) ?_
  refine WPl.v rfl (o_extract rfl rfl) ?_
  refine WPl.v rfl (o_assign rfl) ?_
  refine WPl.v rfl (o_assign rfl) ?_
  refine WPl.nil ?_
  refine EX.then ?_
  refine WP.seq ?_
  refine WP.region ?_
  refine WPl.v rfl (o_move rfl) ?_
  refine WPl.v rfl (o_move rfl) ?_
  refine WPl.v rfl (o_assign rfl) ?_
  refine WPl.v rfl (o_assign rfl) ?_
  refine WPl.nil ?_
  refine EX.then ?_
  refine WP.ret ?_
  exact EX.fin id (.inl rfl) rfl (.tmp rfl (.tmp rfl .nil)) rfl r138 trivial (by simp) (by simp)
theorem w95 {n : Nat} {z : List Int} : ∀ x ∈ ([.e (.a (.q 0)), .i ((n : Int))] : List SV), x.res (keys (α := Pred) [(0, PL (EP.sl EP.int) ([z]))]) := by simp [SV.res, El.res, At.res, keys]
theorem r95 {n : Nat} {z : List Int} : SV.res (keys (α := Pred) [(0, PL (EP.sl EP.int) (List.replicate n z))]) (.e (.a (.q 0))) := by simp [SV.res, El.res, At.res, keys]
set_option maxHeartbeats 4000000 in
theorem c95 (n : Nat) (z : List Int) (h : n ≤ 4) : Sig Try.prog 95 [.e (.a (.q 0)), .i ((n : Int))] [(0, PL (EP.sl EP.int) ([z]))] (.e (.a (.q 0))) [(0, PL (EP.sl EP.int) (List.replicate n z))] := by
  refine Sig.intro Try.func95 rfl 1 [(0, .e (.a (.q 0))), (1, .i ((n : Int)))] rfl w95 rfl rfl fun I w => ?_
  refine WP.seq ?_
  refine WP.region ?_
  refine WPl.v rfl (o_assign rfl) ?_
  refine WPl.nil ?_
  refine EX.then ?_
  refine WP.seq ?_
  refine WP.seq ?_
  refine WP.region ?_
  refine WPl.v rfl (o_move rfl) ?_
  refine WPl.v rfl (o_lss rfl rfl) ?_
  refine WPl.nil ?_
  refine EX.then ?_
  refine WP.cond rfl (fun hc1 => ?_) (fun hc1 => ?_)
  · try simp only [decide_eq_true_eq, decide_eq_false_iff_not, Bool.and_eq_true, Bool.or_eq_true, Bool.and_eq_false_iff, Bool.or_eq_false_iff, Bool.not_eq_true', Bool.not_eq_false', ne_eq, Decidable.not_not] at hc1
    all_goals omega
  · try simp only [decide_eq_true_eq, decide_eq_false_iff_not, Bool.and_eq_true, Bool.or_eq_true, Bool.and_eq_false_iff, Bool.or_eq_false_iff, Bool.not_eq_true', Bool.not_eq_false', ne_eq, Decidable.not_not] at hc1
    refine WP.skip ?_
    refine EX.then ?_
    refine WP.seq ?_
    refine WP.region ?_
    refine WPl.v rfl (o_move rfl) ?_
    refine WPl.v rfl (o_lenq L32 rfl (lx rfl)) ?_
    refine WPl.v rfl (o_convv Try.underlying3 Try.underlying157 rfl rfl) ?_
    refine WPl.v rfl (o_move rfl) ?_
    refine WPl.v rfl (o_convv (r := (n : Int)) Try.underlying3 Try.underlying157 rfl (by rcases (show n = 0 ∨ n = 1 ∨ n = 2 ∨ n = 3 ∨ n = 4 by omega) with rfl | rfl | rfl | rfl | rfl <;> rfl)) ?_
    refine WPl.cs 1 rfl rfl rfl rfl (o_sig 1 id (c138 n h) e138 rfl rfl rfl w138 trivial r138) ?_
    refine WPl.v rfl (o_move rfl) ?_
    refine WPl.v rfl (o_extract rfl rfl) ?_
    refine WPl.v rfl (o_extract rfl rfl) ?_
    refine WPl.v rfl (o_assign rfl) ?_
    refine WPl.v rfl (o_assign rfl) ?_
    refine WPl.nil ?_
    refine EX.then ?_
    refine WP.seq ?_
    refine WP.seq ?_
    refine WP.region ?_
    refine WPl.v rfl (o_move rfl) ?_
    refine WPl.v rfl (o_binv rfl rfl (fun _ => rfl)) ?_
    refine WPl.v rfl (o_move rfl) ?_
    refine WPl.on rfl ⟨_, _, rfl, rfl, rfl⟩ (o_move rfl) ?_
    refine WPl.on rfl ⟨_, _, rfl, rfl, rfl⟩ (o_binv (r := .bool false) rfl rfl (fun _ => by rcases (show n = 0 ∨ n = 1 ∨ n = 2 ∨ n = 3 ∨ n = 4 by omega) with rfl | rfl | rfl | rfl | rfl <;> rfl)) ?_
    refine WPl.v rfl (o_pickF rfl rfl) ?_
    refine WPl.nil ?_
    refine EX.then ?_
    refine WP.cond rfl (fun h => by cases h) (fun _ => ?_)
    refine WP.skip ?_
    refine EX.then ?_
    refine WP.seq ?_
    refine WP.region ?_
    refine WPl.v rfl (o_move rfl) ?_
    refine WPl.v rfl (o_convv (r := (n : Int)) Try.underlying157 Try.underlying3 rfl (by rcases (show n = 0 ∨ n = 1 ∨ n = 2 ∨ n = 3 ∨ n = 4 by omega) with rfl | rfl | rfl | rfl | rfl <;> rfl)) ?_
    refine WPl.l 1 2 rfl rfl rfl (o_make (z := ([] : List Int)) (E := (EP.sl EP.int)) n R32 (fun _ => ⟨_, rfl, pl_nil⟩) rfl rfl (by first | omega | (simp; omega)) (by first | omega | (simp; omega))) ?_
    refine WPl.v rfl (o_assign rfl) ?_
    refine WPl.nil ?_
    refine EX.then ?_
    refine WP.seq ?_
    refine WP.region ?_
    refine WPl.v rfl (o_move rfl) ?_
    refine WPl.v rfl (o_move rfl) ?_
    refine WPl.cL (X' := []) 2 rfl rfl rfl rfl rfl (o_copy1 R32 rfl EP.sl_one rfl rfl rfl (lx rfl)) ?_
    refine WPl.v rfl (o_assign rfl) ?_
    refine WPl.nil ?_
    refine EX.then ?_
    refine WP.seq ?_
    refine WP.block ?_
    refine WP.loop (Gh := Nat) (fun c => ⟨2, [(4, .e (.a (.v (.slice none 0 0)))), (7, .e (.a (.q 1))), (8, .i (((c : Nat) : Int)))], [], [(1, .own 44 (EP.sl EP.int).size (repR n z c).length (RP (EP.sl EP.int) (repR n z c)))], [], []⟩) (fun c => c ≤ n ∧ (0 < n → 0 < c)) (fun c => n - c) (min 1 n) id ?_ (LeR.of ⟨rfl, rfl, (congrArg (fun z => some (SV.i z)) (show (((min [z].length (List.replicate n ([] : List Int)).length : Nat) : Int)) = ((fun c => ((c : Nat) : Int)) (min 1 n)) from by simp)), trivial⟩ trivial ⟨(congrArg (fun z => some (Ent.own 44 (EP.sl EP.int).size (List.length z) (RP (EP.sl EP.int) z))) (show (splic (List.replicate n ([] : List Int)) 0 ([z].take (List.replicate n ([] : List Int)).length)) = ((fun c => repR n z c) (min 1 n)) from by rcases (show n = 0 ∨ n = 1 ∨ n = 2 ∨ n = 3 ∨ n = 4 by omega) with rfl | rfl | rfl | rfl | rfl <;> rfl)), trivial⟩ rfl rfl rfl rfl rfl) ?_
    · omega
    intro c hφ
    obtain ⟨hc0, hc9⟩ := hφ
    have hrl : (repR n z c).length = n := repR_len hc0
    refine WP.seq ?_
    refine WP.seq ?_
    refine WP.region ?_
    refine WPl.v rfl (o_move rfl) ?_
    refine WPl.v rfl (o_move rfl) ?_
    refine WPl.v rfl (o_leno L32 rfl rfl) ?_
    refine WPl.v rfl (o_lss rfl rfl) ?_
    refine WPl.nil ?_
    refine EX.then ?_
    refine WP.cond rfl (fun hc3 => ?_) (fun hc3 => ?_)
    · try simp only [decide_eq_true_eq, decide_eq_false_iff_not, Bool.and_eq_true, Bool.or_eq_true, Bool.and_eq_false_iff, Bool.or_eq_false_iff, Bool.not_eq_true', Bool.not_eq_false', ne_eq, Decidable.not_not] at hc3
      refine WP.skip ?_
      refine EX.then ?_
      refine WP.block ?_
      refine WP.pin 1 rfl fun u1 => ?_
      refine WP.draw (nf := 4) [⟨[39, 40, 41, 42, 43, 44, 45], [1, 2, 3], [], [], []⟩, ⟨[38, 40, 42, 43, 44], [3], [], [], []⟩, ⟨[38, 39, 42, 43, 44], [3], [], [], []⟩, ⟨[38, 42, 43, 44], [3], [2], [2], [1, 2]⟩, ⟨[38, 39, 40, 41, 43], [2], [], [], []⟩, ⟨[38, 39, 40, 41, 42], [2], [], [], []⟩, ⟨[38, 39, 40, 41], [2], [3], [3], [4, 5]⟩, ⟨[38], [], [], [1], [1, 2, 3, 4, 5, 6]⟩, ⟨[], [], [], [], [0, 1, 2, 3, 4, 5, 6, 7]⟩, ⟨[], [], [], [], [0, 1, 2, 3, 4, 5, 6, 7, 8]⟩] (by kernel_rfl) (by kernel_rfl) ?_
      refine DRQ.v rfl rfl rfl (o_move rfl) ?_
      refine DRQ.v rfl rfl rfl (o_move rfl) ?_
      refine DRQ.v rfl rfl rfl (o_move rfl) ?_
      refine DRQ.x 2 rfl rfl rfl rfl (o_sliceP (a := ((c : Nat) : Int)) (b := ((repR n z c).length : Int)) L32 rfl (lx rfl) rfl rfl rfl (by first | omega | (simp; omega)) (by first | omega | (simp; omega)) (by first | omega | (simp; omega))) ?_
      refine DRQ.v rfl rfl rfl (o_move rfl) ?_
      refine DRQ.v rfl rfl rfl (o_move rfl) ?_
      refine DRQ.x 3 rfl rfl rfl rfl (o_sliceP (a := 0) (b := ((c : Nat) : Int)) L32 rfl (lx rfl) rfl rfl rfl (by first | omega | (simp; omega)) (by first | omega | (simp; omega)) (by first | omega | (simp; omega))) ?_
      refine DRQ.cL (X' := []) rfl rfl rfl rfl (o_copyP R32 rfl EP.sl_one (lx rfl) rfl rfl (lx rfl) rfl (lx rfl) (by first | omega | (simp; omega)) (by first | omega | (simp; omega)) (by first | omega | (simp; omega)) (by first | omega | (simp; omega))) ?_
      refine DRQ.v rfl rfl rfl (o_add rfl rfl (by first | omega | (simp; omega)) (by first | omega | (simp; omega))) ?_
      refine DRQ.v rfl rfl rfl (o_assign rfl) ?_
      refine DRQ.nil' ?_
      refine EX.blk ?_
      refine EX.again (c + min c (n - c)) id (by omega) (by omega) (LeR.of ⟨rfl, rfl, (congrArg (fun z => some (SV.i z)) (show (((c : Nat) : Int) + ((min ((((c : Nat) : Int) : Int).toNat - (0 : Int).toNat) ((((repR n z c).length : Int) : Int).toNat - (((c : Nat) : Int) : Int).toNat) : Nat) : Int)) = ((fun c => ((c : Nat) : Int)) (c + min c (n - c))) from by simp only [Int.toNat_natCast, hrl]; omega)), trivial⟩ trivial ⟨(congrArg (fun z => some (Ent.own 44 (EP.sl EP.int).size (List.length z) (RP (EP.sl EP.int) z))) (show (splic (repR n z c) (((c : Nat) : Int) : Int).toNat (((repR n z c).drop (0 : Int).toNat).take (min ((((c : Nat) : Int) : Int).toNat - (0 : Int).toNat) ((((repR n z c).length : Int) : Int).toNat - (((c : Nat) : Int) : Int).toNat)))) = ((fun c => repR n z c) (c + min c (n - c))) from repR_step (by omega) (by omega))), trivial⟩ rfl rfl rfl rfl rfl)
    · try simp only [decide_eq_true_eq, decide_eq_false_iff_not, Bool.and_eq_true, Bool.or_eq_true, Bool.and_eq_false_iff, Bool.or_eq_false_iff, Bool.not_eq_true', Bool.not_eq_false', ne_eq, Decidable.not_not] at hc3
      refine WP.exit ?_
      refine EX.exit_then ?_
      refine EX.exit_then ?_
      refine EX.exit_blk ?_
      refine EX.then ?_
      refine WP.seq ?_
      refine WP.region ?_
      refine WPl.v rfl (o_move rfl) ?_
      refine WPl.v rfl (o_assign rfl) ?_
      refine WPl.nil ?_
      refine EX.then ?_
      refine WP.ret ?_
      refine EX.imp (Imp.frz (E := (EP.sl EP.int)) (l := repR n z c) 1 rfl rfl) ?_
      have hcn : c = n := by omega
      subst hcn
      rw [show List.replicate c z = repR c z c from by simp [repR]]
      exact EX.fin (ren [(0, 1)]) (.inl rfl) rfl (.tmp rfl .nil) rfl (by simp [SV.res, El.res, At.res, keys]) ⟨(lx rfl), trivial⟩ (by simp) (by simp)
theorem w94 {l : List Int} : ∀ x ∈ ([.e (.a (.q 0))] : List SV), x.res (keys (α := Pred) [(0, PL EP.int (l))]) := by simp [SV.res, El.res, At.res, keys]
theorem r94 {l : List Int} : SV.res (keys (α := Pred) []) (.i (minL1 l)) := by simp [SV.res, El.res, At.res, keys]
set_option maxHeartbeats 4000000 in
theorem c94 (l : List Int) (h0 : 0 < l.length) (h1 : l.length ≤ 1000) : Sig Try.prog 94 [.e (.a (.q 0))] [(0, PL EP.int (l))] (.i (minL1 l)) [] := by
  refine Sig.intro Try.func94 rfl 1 [(0, .e (.a (.q 0)))] rfl w94 rfl rfl fun I w => ?_
  refine WP.seq ?_
  refine WP.region ?_
  refine WPl.v rfl (o_assign rfl) ?_
  refine WPl.nil ?_
  refine EX.then ?_
  refine WP.seq ?_
  refine WP.seq ?_
  refine WP.region ?_
  refine WPl.v rfl (o_move rfl) ?_
  refine WPl.v rfl (o_lenq L44 rfl (lx rfl)) ?_
  refine WPl.v rfl (o_lss rfl rfl) ?_
  refine WPl.nil ?_
  refine EX.then ?_
  refine WP.cond rfl (fun hc1 => ?_) (fun hc1 => ?_)
  · try simp only [decide_eq_true_eq, decide_eq_false_iff_not, Bool.and_eq_true, Bool.or_eq_true, Bool.and_eq_false_iff, Bool.or_eq_false_iff, Bool.not_eq_true', Bool.not_eq_false', ne_eq, Decidable.not_not] at hc1
    omega
  · try simp only [decide_eq_true_eq, decide_eq_false_iff_not, Bool.and_eq_true, Bool.or_eq_true, Bool.and_eq_false_iff, Bool.or_eq_false_iff, Bool.not_eq_true', Bool.not_eq_false', ne_eq, Decidable.not_not] at hc1
    refine WP.skip ?_
    refine EX.then ?_
    refine WP.seq ?_
    refine WP.region ?_
    refine WPl.v rfl (o_move rfl) ?_
    refine WPl.x 1 2 rfl rfl rfl (o_idx L44 rfl (lx rfl) rfl (by first | omega | (simp; omega)) (by first | omega | (simp; omega))) ?_
    refine WPl.v rfl (o_ldq S3 rfl (lx rfl) intc) ?_
    refine WPl.v rfl (o_assign rfl) ?_
    refine WPl.nil ?_
    refine EX.then ?_
    refine WP.seq ?_
    refine WP.seq ?_
    refine WP.region ?_
    refine WPl.v rfl (o_assign rfl) ?_
    refine WPl.nil ?_
    refine EX.then ?_
    refine WP.block ?_
    refine WP.loop (Gh := Nat) (fun i => ⟨2, [(0, .e (.a (.q 0))), (2, .i (0)), (3, .i (minTo1 l i)), (4, .i ((i : Int) + 1))], [(0, PL EP.int (l))], [], [], []⟩) (fun i => i ≤ l.length - 1) (fun i => l.length - 1 - i) (0) id ?_ (LeR.of ⟨rfl, rfl, (congrArg (fun z => some (SV.i z)) (show (nth l 0) = ((fun i => minTo1 l i) 0) from rfl)), (congrArg (fun z => some (SV.i z)) (show (1) = ((fun i => (i : Int) + 1) 0) from by simp)), trivial⟩ ⟨(lx rfl), trivial⟩ trivial rfl rfl rfl rfl rfl) ?_
    · omega
    intro i hφ
    have hi : i ≤ l.length - 1 := hφ
    refine WP.seq ?_
    refine WP.seq ?_
    refine WP.region ?_
    refine WPl.v rfl (o_move rfl) ?_
    refine WPl.v rfl (o_move rfl) ?_
    refine WPl.v rfl (o_lenq L44 rfl (lx rfl)) ?_
    refine WPl.v rfl (o_lss rfl rfl) ?_
    refine WPl.nil ?_
    refine EX.then ?_
    refine WP.cond rfl (fun hc2 => ?_) (fun hc2 => ?_)
    · try simp only [decide_eq_true_eq, decide_eq_false_iff_not, Bool.and_eq_true, Bool.or_eq_true, Bool.and_eq_false_iff, Bool.or_eq_false_iff, Bool.not_eq_true', Bool.not_eq_false', ne_eq, Decidable.not_not] at hc2
      refine WP.skip ?_
      refine EX.then ?_
      refine WP.seq ?_
      refine WP.block ?_
      refine WP.region ?_
      refine WPl.v rfl (o_move rfl) ?_
      refine WPl.v rfl (o_move rfl) ?_
      refine WPl.v rfl (o_move rfl) ?_
      refine WPl.x 2 3 rfl rfl rfl (o_idx L44 rfl (lx rfl) rfl (by first | omega | (simp; omega)) (by first | omega | (simp; omega))) ?_
      refine WPl.v rfl (o_ldq S3 rfl (lx rfl) intc) ?_
      refine WPl.v rfl (o_min rfl rfl) ?_
      refine WPl.v rfl (o_assign rfl) ?_
      refine WPl.nil ?_
      refine EX.blk ?_
      refine EX.then ?_
      refine WP.region ?_
      refine WPl.v rfl (o_move rfl) ?_
      refine WPl.v rfl (o_add rfl rfl (by first | omega | (simp; omega)) (by first | omega | (simp; omega))) ?_
      refine WPl.v rfl (o_assign rfl) ?_
      refine WPl.nil ?_
      refine EX.again (i + 1) id (by first | omega | (constructor <;> omega)) (by omega) (LeR.of ⟨rfl, rfl, (congrArg (fun z => some (SV.i z)) (show (min (minTo1 l i) (nth l ((i : Int) + 1))) = ((fun i => minTo1 l i) (i + 1)) from by show min (minTo1 l i) (nth l ((i : Int) + 1)) = min (minTo1 l i) (nth l ((i + 1 : Nat) : Int)); rw [show ((i + 1 : Nat) : Int) = (i : Int) + 1 by omega])), (congrArg (fun z => some (SV.i z)) (show (((i : Int) + 1) + 1) = ((fun i => (i : Int) + 1) (i + 1)) from by show (i : Int) + 1 + 1 = ((i + 1 : Nat) : Int) + 1; omega)), trivial⟩ ⟨(lx rfl), trivial⟩ trivial rfl rfl rfl rfl rfl)
    · try simp only [decide_eq_true_eq, decide_eq_false_iff_not, Bool.and_eq_true, Bool.or_eq_true, Bool.and_eq_false_iff, Bool.or_eq_false_iff, Bool.not_eq_true', Bool.not_eq_false', ne_eq, Decidable.not_not] at hc2
      refine WP.exit ?_
      refine EX.exit_then ?_
      refine EX.exit_then ?_
      refine EX.exit_blk ?_
      refine EX.then ?_
      refine WP.seq ?_
      refine WP.region ?_
      refine WPl.v rfl (o_move rfl) ?_
      refine WPl.v rfl (o_assign rfl) ?_
      refine WPl.nil ?_
      refine EX.then ?_
      refine WP.ret ?_
      have hi2 : i = l.length - 1 := by omega
      rw [show minL1 l = minTo1 l i from by rw [hi2]; rfl]
      exact EX.fin id (.inl rfl) rfl (.tmp rfl .nil) rfl (by simp [SV.res, El.res, At.res, keys]) trivial (by simp) (by simp)
theorem w28 {f : Fnd} : ∀ x ∈ ([.e (.g [ai (f.shop.pounds), ai (f.shop.tl), ai (f.shop.th), ai (f.shop.al), ai (f.shop.ah), ai (f.shop.room), ai (f.shop.tpl), ai (f.shop.tph), ai (f.shop.apl), ai (f.shop.aph), .q 0, .q 1])] : List SV), x.res (keys (α := Pred) [(0, PL EPig (f.shop.pigs)), (1, PL ENight (f.nights))]) := by simp [SV.res, El.res, At.res, keys]
theorem r28 {f : Fnd} : SV.res (keys (α := Pred) []) (.t [.a (ai (f.wLastV)), .a (ai (errW f.chk))]) := by simp [SV.res, El.res, At.res, keys]
set_option maxHeartbeats 4000000 in
theorem c28 (f : Fnd) (hl : f.shop.pigs.length ≤ 40) : Sig Try.prog 28 [.e (.g [ai (f.shop.pounds), ai (f.shop.tl), ai (f.shop.th), ai (f.shop.al), ai (f.shop.ah), ai (f.shop.room), ai (f.shop.tpl), ai (f.shop.tph), ai (f.shop.apl), ai (f.shop.aph), .q 0, .q 1])] [(0, PL EPig (f.shop.pigs)), (1, PL ENight (f.nights))] (.t [.a (ai (f.wLastV)), .a (ai (errW f.chk))]) [] := by
  rcases Bool.eq_false_or_eq_true f.chk with hf | hf
  · skip
    refine Sig.intro Try.func28 rfl 2 [(0, .e (.g [ai (f.shop.pounds), ai (f.shop.tl), ai (f.shop.th), ai (f.shop.al), ai (f.shop.ah), ai (f.shop.room), ai (f.shop.tpl), ai (f.shop.tph), ai (f.shop.apl), ai (f.shop.aph), .q 0, .q 1]))] rfl w28 rfl rfl fun I w => ?_
    refine WP.seq ?_
    refine WP.region ?_
    refine WPl.l 2 3 rfl rfl rfl (o_boxg rfl) ?_
    refine WPl.v rfl (o_assign rfl) ?_
    refine WPl.v rfl (o_assign rfl) ?_
    refine WPl.nil ?_
    refine EX.then ?_
    refine WP.seq ?_
    refine WP.region ?_
    refine WPl.v rfl (o_ldpa G31 rfl rfl rfl) ?_
    refine WPl.cM 5 (o_sigm (J := [0]) 3 4 (ren [(0, 0), (1, 1)]) (c76N f hf) e76 rfl rfl SvsOK.rf w76N ⟨(lx rfl), (lx rfl), trivial⟩ (fun _ => rfl) (by simp [SV.res, El.res, At.res, keys]) rfl) rfl rfl rfl fun b9 => ?_
    refine WPl.v rfl (o_move rfl) ?_
    refine WPl.v rfl (o_extract rfl rfl) ?_
    refine WPl.v rfl (o_extract rfl rfl) ?_
    refine WPl.v rfl (o_assign rfl) ?_
    refine WPl.v rfl (o_assign rfl) ?_
    refine WPl.nil ?_
    refine EX.then ?_
    refine WP.seq ?_
    refine WP.seq ?_
    refine WP.region ?_
    refine WPl.v rfl (o_move rfl) ?_
    refine WPl.v rfl (o_neq rfl rfl) ?_
    refine WPl.nil ?_
    refine EX.then ?_
    refine WP.cond rfl (fun hc1 => ?_) (fun hc1 => ?_)
    · try simp only [decide_eq_true_eq, decide_eq_false_iff_not, Bool.and_eq_true, Bool.or_eq_true, Bool.and_eq_false_iff, Bool.or_eq_false_iff, Bool.not_eq_true', Bool.not_eq_false', ne_eq, Decidable.not_not] at hc1
      simp at hc1
    · try simp only [decide_eq_true_eq, decide_eq_false_iff_not, Bool.and_eq_true, Bool.or_eq_true, Bool.and_eq_false_iff, Bool.or_eq_false_iff, Bool.not_eq_true', Bool.not_eq_false', ne_eq, Decidable.not_not] at hc1
      have hcb := Fnd.chkB hf
      have hwl := wFailsTo_len f f.nothing f.nights.length
      refine WP.skip ?_
      refine EX.then ?_
      refine WP.seq ?_
      refine WP.region ?_
      refine WPl.v rfl (o_move rfl) ?_
      refine WPl.v rfl (o_nilq rfl (lx rfl)) ?_
      refine WPl.v rfl (o_fldq F100_0 rfl (lx rfl)) ?_
      refine WPl.v rfl (o_flde F31_0 rfl (lx rfl)) ?_
      refine WPl.v rfl (o_flde F28_4 rfl (lx rfl)) ?_
      refine WPl.x 5 6 rfl rfl rfl (o_ldex S26 rfl (lx rfl) (strS rfl)) ?_
      refine WPl.v rfl (o_lenq L26 rfl (lx rfl)) ?_
      refine WPl.x 6 7 rfl rfl rfl (OpG.settle0 (o_make (z := 0) (E := EP.int) f.shop.pigs.length R44 (fun _ => rfl) rfl rfl (by first | omega | (simp; omega)) (by first | omega | (simp; omega)))) ?_
      refine WPl.v rfl (o_assign rfl) ?_
      refine WPl.nil ?_
      refine EX.then ?_
      refine WP.seq ?_
      refine WP.draw (nf := 14) [⟨[24, 25, 26, 27, 28, 29, 30, 31, 32, 34, 35, 36, 37, 38, 39, 40], [7, 8, 9, 11, 12], [], [], []⟩, ⟨[23, 26, 27, 28, 29, 30, 31, 34, 35, 36, 37, 38, 39, 40], [8, 11, 12], [], [], []⟩, ⟨[23, 26, 27, 28, 29, 30, 31, 34, 35, 36, 37, 38, 39, 40], [8, 11, 12], [7], [7], [1]⟩, ⟨[23, 24, 25, 34, 35, 36, 37, 38, 39, 40], [7, 11, 12], [], [], []⟩, ⟨[23, 24, 25, 34, 35, 36, 37, 38, 39, 40], [7, 11, 12], [], [], [3]⟩, ⟨[23, 24, 25, 34, 35, 36, 37, 38, 39, 40], [7, 11, 12], [], [], [3, 4]⟩, ⟨[23, 24, 25, 34, 35, 36, 37, 38, 39, 40], [7, 11, 12], [], [], [3, 4, 5]⟩, ⟨[23, 24, 25, 34, 35, 36, 37, 38, 39, 40], [7, 11, 12], [8], [8], [3, 4, 5, 6]⟩, ⟨[23, 24, 25, 34, 35, 36, 37, 38, 39, 40], [7, 11, 12], [], [], [3, 4, 5, 6, 7]⟩, ⟨[23, 34, 35, 36, 37, 38, 39, 40], [11, 12], [9], [9], [1, 2, 3, 4, 5, 6, 7, 8]⟩, ⟨[34, 35, 36, 37, 38, 39, 40], [11, 12], [10], [10, 10], [0, 1, 2, 3, 4, 5, 6, 7, 8, 9]⟩, ⟨[23, 24, 25, 26, 27, 28, 29, 30, 31, 32, 33], [7, 8, 9, 10], [], [], []⟩, ⟨[23, 24, 25, 26, 27, 28, 29, 30, 31, 32, 33], [7, 8, 9, 10], [], [], [11]⟩, ⟨[23, 24, 25, 26, 27, 28, 29, 30, 31, 32, 33], [7, 8, 9, 10], [], [], [11, 12]⟩, ⟨[23, 24, 25, 26, 27, 28, 29, 30, 31, 32, 33], [7, 8, 9, 10], [], [], [11, 12, 13]⟩, ⟨[23, 24, 25, 26, 27, 28, 29, 30, 31, 32, 33], [7, 8, 9, 10], [11], [11], [11, 12, 13, 14]⟩, ⟨[23, 24, 25, 26, 27, 28, 29, 30, 31, 32, 33], [7, 8, 9, 10], [], [], [11, 12, 13, 14, 15]⟩, ⟨[23, 24, 25, 26, 27, 28, 29, 30, 31, 32, 33], [7, 8, 9, 10], [12], [12], [11, 12, 13, 14, 15, 16]⟩, ⟨[], [], [13], [13, 10], [0, 1, 2, 3, 4, 5, 6, 7, 8, 9, 10, 11, 12, 13, 14, 15, 16, 17]⟩, ⟨[], [], [], [], [0, 1, 2, 3, 4, 5, 6, 7, 8, 9, 10, 11, 12, 13, 14, 15, 16, 17, 18]⟩, ⟨[], [], [], [], [0, 1, 2, 3, 4, 5, 6, 7, 8, 9, 10, 11, 12, 13, 14, 15, 16, 17, 18, 19]⟩, ⟨[], [], [], [], [0, 1, 2, 3, 4, 5, 6, 7, 8, 9, 10, 11, 12, 13, 14, 15, 16, 17, 18, 19, 20]⟩] (by kernel_rfl) (by kernel_rfl) ?_
      refine DRQ.v rfl rfl rfl (o_move rfl) ?_
      refine DRQ.v rfl rfl rfl (o_move rfl) ?_
      refine DRQ.x 7 rfl rfl rfl rfl (OpG.settle0 (o_bsl (E := (EP.sl EP.int)) (l := [List.replicate f.shop.pigs.length 0]) R32 rfl rfl (.cons ((.inl ⟨_, (lx rfl), PL.one⟩)) rfl (eok_sl (lx rfl)) (.nil)) rfl rfl)) ?_
      refine DRQ.v rfl rfl rfl (o_move rfl) ?_
      refine DRQ.v rfl rfl rfl (o_nilq rfl (lx rfl)) ?_
      refine DRQ.v rfl rfl rfl (o_fldq F100_0 rfl (lx rfl)) ?_
      refine DRQ.v rfl rfl rfl (o_flde F31_1 rfl (lx rfl)) ?_
      refine DRQ.x 8 rfl rfl rfl rfl (o_ldex S29 rfl (lx rfl) (strS rfl)) ?_
      refine DRQ.v rfl rfl rfl (o_lenq L29 rfl (lx rfl)) ?_
      refine DRQ.cs rfl rfl rfl rfl (o_sig 9 (ren [(0, 7)]) (c95 f.nights.length (List.replicate f.shop.pigs.length 0) (by omega)) e95 rfl rfl rfl w95 ⟨(lx rfl), trivial⟩ r95) ?_
      refine DRQ.cL rfl rfl rfl rfl (o_sigo 10 (ren [(0, 3), (1, 9)]) (c89O f (some b9) f.nothing hf (nothingB f)) e89 rfl rfl SvsOK.rf w89O ⟨(lx rfl), (lx rfl), trivial⟩ r89O rfl rfl) ?_
      refine DRQ.v rfl rfl rfl (o_move rfl) ?_
      refine DRQ.v rfl rfl rfl (o_nilq rfl (lx rfl)) ?_
      refine DRQ.v rfl rfl rfl (o_fldq F100_0 rfl (lx rfl)) ?_
      refine DRQ.v rfl rfl rfl (o_flde F31_1 rfl (lx rfl)) ?_
      refine DRQ.x 11 rfl rfl rfl rfl (o_ldex S29 rfl (lx rfl) (strS rfl)) ?_
      refine DRQ.v rfl rfl rfl (o_lenq L29 rfl (lx rfl)) ?_
      refine DRQ.l 12 rfl rfl rfl rfl (o_bsl (E := EP.int) (l := [(f.nights.length : Int)]) R44 rfl rfl (.cons (rfl) rfl (eok_int) (.nil)) rfl rfl) ?_
      refine DRQ.u1 13 rfl rfl rfl (OpG.settle1 (.inl rfl) rfl (o_appo R44 EP.int_one rfl rfl rfl rfl (by have : f.wFails f.nothing = f.wFailsTo f.nothing f.nights.length := rfl; rw [this]; simp; omega) (by have : f.wFails f.nothing = f.wFailsTo f.nothing f.nights.length := rfl; rw [this]; simp; omega))) rfl ?_
      refine DRQ.cs rfl rfl rfl rfl (o_sig 14 (ren [(0, 13)]) (c94 ((f.wFails f.nothing) ++ [(f.nights.length : Int)]) (by simp) (by simp; have : f.wFails f.nothing = f.wFailsTo f.nothing f.nights.length := rfl; rw [this]; omega)) e94 rfl rfl rfl w94 ⟨(lx rfl), trivial⟩ r94) ?_
      refine DRQ.v rfl rfl rfl (o_assign rfl) ?_
      refine DRQ.v rfl rfl rfl (o_assign rfl) ?_
      refine DRQ.nil' ?_
      refine EX.then ?_
      refine WP.ret ?_
      have he : errW f.chk = 0 := by simp [errW, hf]
      rw [he, show f.wLastV = f.wLast from by simp [Fnd.wLastV, hf]]
      exact EX.fin id (.inl rfl) rfl (.tmp rfl (.tmp rfl .nil)) rfl (by simp [SV.res, El.res, At.res, keys]) trivial (by simp) (by simp)
  · skip
    refine Sig.intro Try.func28 rfl 2 [(0, .e (.g [ai (f.shop.pounds), ai (f.shop.tl), ai (f.shop.th), ai (f.shop.al), ai (f.shop.ah), ai (f.shop.room), ai (f.shop.tpl), ai (f.shop.tph), ai (f.shop.apl), ai (f.shop.aph), .q 0, .q 1]))] rfl w28 rfl rfl fun I w => ?_
    refine WP.seq ?_
    refine WP.region ?_
    refine WPl.l 2 3 rfl rfl rfl (o_boxg rfl) ?_
    refine WPl.v rfl (o_assign rfl) ?_
    refine WPl.v rfl (o_assign rfl) ?_
    refine WPl.nil ?_
    refine EX.then ?_
    refine WP.seq ?_
    refine WP.region ?_
    refine WPl.v rfl (o_ldpa G31 rfl rfl rfl) ?_
    refine WPl.cs 3 rfl rfl rfl rfl (o_sig 3 (ren [(0, 0), (1, 1)]) (c76NE f hf hl) e76 rfl rfl rfl w76NE ⟨(lx rfl), (lx rfl), trivial⟩ r76NE) ?_
    refine WPl.v rfl (o_move rfl) ?_
    refine WPl.v rfl (o_extract rfl rfl) ?_
    refine WPl.v rfl (o_extract rfl rfl) ?_
    refine WPl.v rfl (o_assign rfl) ?_
    refine WPl.v rfl (o_assign rfl) ?_
    refine WPl.nil ?_
    refine EX.then ?_
    refine WP.seq ?_
    refine WP.seq ?_
    refine WP.region ?_
    refine WPl.v rfl (o_move rfl) ?_
    refine WPl.v rfl (o_neq rfl rfl) ?_
    refine WPl.nil ?_
    refine EX.then ?_
    refine WP.cond rfl (fun hc1 => ?_) (fun hc1 => ?_)
    · try simp only [decide_eq_true_eq, decide_eq_false_iff_not, Bool.and_eq_true, Bool.or_eq_true, Bool.and_eq_false_iff, Bool.or_eq_false_iff, Bool.not_eq_true', Bool.not_eq_false', ne_eq, Decidable.not_not] at hc1
      refine WP.seq ?_
      refine WP.region ?_
      refine WPl.v rfl (o_move rfl) ?_
      refine WPl.v rfl (o_assign rfl) ?_
      refine WPl.v rfl (o_assign rfl) ?_
      refine WPl.nil ?_
      refine EX.then ?_
      refine WP.ret ?_
      refine EX.ret_then ?_
      have he : errW f.chk = 130 := by simp [errW, hf]
      rw [he, show f.wLastV = 0 from by simp [Fnd.wLastV, hf]]
      exact EX.fin id (.inl rfl) rfl (.tmp rfl (.tmp rfl .nil)) rfl (by simp [SV.res, El.res, At.res, keys]) trivial (by simp) (by simp)
    · try simp only [decide_eq_true_eq, decide_eq_false_iff_not, Bool.and_eq_true, Bool.or_eq_true, Bool.and_eq_false_iff, Bool.or_eq_false_iff, Bool.not_eq_true', Bool.not_eq_false', ne_eq, Decidable.not_not] at hc1
      simp at hc1
end Go.Flong
namespace Go.Flong
open Go Go.Eng Go.Proofs
theorem e162 : Enters' Try.prog 162 := Try.call162
theorem w162 {f : Fnd} {r : Option Nat} {p : Pt} {left : List Int} : ∀ x ∈ ([.e (.a (.q 0)), .e (.a (.q 1)), .e (.a (.q 2))] : List SV), x.res (keys (α := Pred) [(0, PP (EP.box (PP (EWk r) (f))) ()), (1, PP EPt (p)), (2, PP (EArr 4) (left))]) := by simp [SV.res, El.res, At.res, keys]
set_option maxHeartbeats 4000000 in
theorem c162 (f : Fnd) (r : Option Nat) (p : Pt) (left : List Int) (m : Int) (hf : f.chk = true) (hp : PtB p m) (hm : m ≤ 10000000) (hl : bnd4 left) : SigI Try.prog 162 [.e (.a (.q 0)), .e (.a (.q 1)), .e (.a (.q 2))] [(0, PP (EP.box (PP (EWk r) (f))) ()), (1, PP EPt (p)), (2, PP (EArr 4) (left))] (f.chItems p left) := by
  have hpg := Shop.pigsOK (Fnd.shopOK hf)
  have hp4 := hpg.2
  have h0b := chBox_pos hl hp4
  have hN0 : 0 < (f.chBox left).length := (List.getElem?_eq_some_iff.1 h0b).1
  refine SigI.intro Try.func162 rfl 4 3 w162 rfl rfl rfl fun I w l Y K F0 hround => ?_
  have hF : ∀ c, F0 c → F0 c := fun _ h => h
  refine WP.seq ?_
  refine WP.region ?_
  refine WPl.x 4 5 rfl rfl rfl (o_ldqx S95 rfl (lx rfl) boxx) ?_
  refine WPl.v rfl (o_nilq rfl (lx rfl)) ?_
  refine WPl.v rfl (o_fldq F100_0 rfl (lx rfl)) ?_
  refine WPl.v rfl (o_flde F31_0 rfl (lx rfl)) ?_
  refine WPl.v rfl (o_flde F28_4 rfl (lx rfl)) ?_
  refine WPl.x 5 6 rfl rfl rfl (o_ldex S26 rfl (lx rfl) (strS rfl)) ?_
  refine WPl.v rfl (o_lenq L26 rfl (lx rfl)) ?_
  refine WPl.u1 (k := 6) (m := 7) rfl rfl rfl (OpG.newer0 (o_make (z := 0) (E := EP.int) f.shop.pigs.length R44 (fun _ => rfl) rfl rfl (by first | omega | (simp; omega)) (by first | omega | (simp; omega)))) ?_
  refine WPl.v rfl (o_assign rfl) ?_
  refine WPl.nil ?_
  refine EX.then ?_
  refine WP.block ?_
  refine WP.loop (Gh := Nat × (Nat → Prop)) (fun (⟨i, F⟩ : Nat × (Nat → Prop)) => ⟨7, [(0, .e (.a (.v (yv l)))), (1, .e (.a (.q 0))), (2, .e (.a (.q 1))), (3, .e (.a (.q 2))), (5, .e (.a (.q 6)))], [(0, PP (EP.box (PP (EWk r) (f))) ()), (1, PP EPt (p)), (2, PP (EArr 4) (left)), (6, Pred.newer _)], [(3, .ext ((Y (f.chIdx p left i)).xp F)), (6, .own 3 EP.int.size ((nth (f.chBox left) (i : Int))).length (RP EP.int ((nth (f.chBox left) (i : Int)))))], [], []⟩) (fun (⟨i, F⟩ : Nat × (Nat → Prop)) => i < (f.chBox left).length ∧ ∀ c, F0 c → F c) (fun (⟨i, F⟩ : Nat × (Nat → Prop)) => (f.chBox left).length - i) ((0, F0)) id ?_ (LeR.of ⟨rfl, rfl, rfl, rfl, rfl, trivial⟩ ⟨(lx rfl), (lx rfl), (lx rfl), (lx rfl), trivial⟩ ⟨(congrArg (fun z => some (Ent.ext ((Y z).xp F0))) (show 0 = f.chIdx p left 0 from rfl)), (congrArg (fun z => some (Ent.own 3 EP.int.size (List.length z) (RP EP.int z))) (show (List.replicate f.shop.pigs.length 0) = ((fun (⟨i, F⟩ : Nat × (Nat → Prop)) => (nth (f.chBox left) (i : Int))) (0, F0)) from by dsimp only; rw [nthN hN0]; exact (List.getElem?_eq_some_iff.1 h0b).2.symm)), trivial⟩ rfl rfl rfl rfl rfl) ?_
  · exact ⟨hN0, fun _ h => h⟩
  rintro ⟨i, F⟩ hφ
  obtain ⟨hiN, hF⟩ : i < (f.chBox left).length ∧ ∀ c, F0 c → F c := hφ
  obtain ⟨hrl, hrb, hrm⟩ := chBox_row hl hp4 hiN
  refine WP.block ?_
  refine WP.seq ?_
  refine WP.seq ?_
  refine WP.region ?_
  refine WPl.x 7 8 rfl rfl rfl (o_ldqx S95 rfl (lx rfl) boxx) ?_
  refine WPl.v rfl (o_ldqg G105 rfl (lx rfl) (strG rfl) rfl rfl) ?_
  refine WPl.v rfl (o_move rfl) ?_
  have hnb : PtB (p.addL f.shop.pigs (nth (f.chBox left) (i : Int))) (m + 400000) := addTo_bnd hp hpg (by rw [hrl]; exact Nat.le_refl _) (bnd_mono hrb (by omega)) (Nat.le_refl _)
  refine WPl.cs 8 rfl rfl rfl rfl (o_sigbc 8 (ren [(0, 7), (1, 6)]) (Sig.free (c129 f r p (nth (f.chBox left) (i : Int)) m hp (by omega) hpg (by rw [hrl]; exact Nat.le_refl _) (bnd_mono hrb (by omega)))) e129 rfl rfl SvsOK.rf w129 ⟨.x (lx rfl), .own rfl rfl, trivial⟩ r129) ?_
  refine WPl.l 8 9 rfl rfl rfl (o_alloc Z105) ?_
  refine WPl.s1 (o_stag G105 rfl rfl rfl ⟨rfl, rfl, rfl, rfl, rfl, rfl, rfl, trivial⟩ rfl rfl) ?_
  refine WPl.nil ?_
  refine EX.then ?_
  refine WP.seq ?_
  refine WP.region ?_
  refine WPl.x 9 10 rfl rfl rfl (o_ldqx S95 rfl (lx rfl) boxx) ?_
  refine WPl.v rfl (o_ldpa G105 rfl rfl rfl) ?_
  refine WPl.cs 10 rfl rfl rfl rfl (o_sig 10 (ren [(0, 9)]) (c127 f r (p.addL f.shop.pigs (nth (f.chBox left) (i : Int))) (m + 400000) hnb (by omega)) e127 rfl rfl rfl w127 ⟨(lx rfl), trivial⟩ r127) ?_
  refine WPl.v rfl (o_move rfl) ?_
  refine WPl.bit 10 11 (f.fitsP (p.addL f.shop.pigs (nth (f.chBox left) (i : Int)))) rfl rfl ?_
  refine WPl.gx 10 11 12 rfl rfl rfl rfl (.plain rfl Iff.rfl rfl) (fun hb => o_ldqx S95 rfl (lx rfl) boxx) ?_
  refine WPl.gv 10 rfl rfl (.plain rfl Iff.rfl rfl) (fun hb => o_ldpa G105 rfl rfl rfl) ?_
  refine WPl.gc0 10 rfl rfl (.plain rfl Iff.rfl rfl) (fun hb => o_sig 12 (ren [(0, 11)]) (c135 f r (p.addL f.shop.pigs (nth (f.chBox left) (i : Int))) (m + 400000) hnb (by omega) (Fnd.shopOK hf)) e135 rfl rfl rfl w135 ⟨(lxi hb rfl), trivial⟩ r135) ?_
  refine WPl.v rfl (o_and rfl rfl rfl id) ?_
  refine WPl.v rfl (o_move rfl) ?_
  rcases Bool.eq_false_or_eq_true ((f.fitsP (p.addL f.shop.pigs (nth (f.chBox left) (i : Int)))) && (f.sureP (p.addL f.shop.pigs (nth (f.chBox left) (i : Int))))) with hs28 | hs28
  · refine WPl.imp (Imp.bitF 28 (b' := true) rfl hs28) ?_
    refine WPl.on rfl ⟨_, _, rfl, rfl, rfl⟩ (o_move rfl) ?_
    refine WPl.on rfl ⟨_, _, rfl, rfl, rfl⟩ (o_move rfl) ?_
    refine WPl.on rfl ⟨_, _, rfl, rfl, rfl⟩ (o_ldpa G105 rfl rfl rfl) ?_
    refine WPl.yield (Y' := Y (f.chIdx p left i + 1)) (K' := K) 3 rfl rfl ⟨_, _, rfl, rfl, rfl⟩ rfl rfl rfl (yieldH (ky := 3) (J := [0]) (it := ⟨[.e (.a (.q 0)), .e (.g [ai ((p.addL f.shop.pigs (nth (f.chBox left) (i : Int))).pounds), ai ((p.addL f.shop.pigs (nth (f.chBox left) (i : Int))).tl), ai ((p.addL f.shop.pigs (nth (f.chBox left) (i : Int))).th), ai ((p.addL f.shop.pigs (nth (f.chBox left) (i : Int))).al), ai ((p.addL f.shop.pigs (nth (f.chBox left) (i : Int))).ah), ai ((p.addL f.shop.pigs (nth (f.chBox left) (i : Int))).dl), ai ((p.addL f.shop.pigs (nth (f.chBox left) (i : Int))).dh)])], [], [(0, PL EP.int ((nth (f.chBox left) (i : Int))))]⟩) (ren [(0, 6)]) (hround (f.chIdx p left i) _ (chIdx_at hiN hs28)) rfl (hF) SvsOK.rf (by simp [SV.res, El.res, At.res, keys]) trivial ⟨.own rfl rfl (fun _ _ _ _ h => h), trivial⟩) fun by32 F1 hF1 => ?_
    have hF : ∀ c, F0 c → F1 c := fun c hc => hF1 c (hF c hc)
    cases by32
    · skip
      refine WPl.on rfl ⟨_, _, rfl, rfl, rfl⟩ (o_not rfl) ?_
      refine WPl.v rfl (o_pickT rfl rfl) ?_
      refine WPl.nil ?_
      refine EX.then ?_
      refine WP.cond rfl (fun _ => ?_) (fun h => by cases h)
      refine WP.ret ?_
      refine EX.ret_then ?_
      refine EX.ret_blk ?_
      refine EX.ret_then ?_
      refine EX.ret_blk ?_
      exact EX.finI (.inl rfl) rfl rfl (ky := 3) (Y := K) rfl (fun _ _ h => .inr h)
    · skip
      refine WPl.on rfl ⟨_, _, rfl, rfl, rfl⟩ (o_not rfl) ?_
      refine WPl.v rfl (o_pickT rfl rfl) ?_
      refine WPl.nil ?_
      refine EX.then ?_
      refine WP.cond rfl (fun h => by cases h) (fun _ => ?_)
      refine WP.skip ?_
      refine EX.then ?_
      refine WP.seq ?_
      refine WP.region ?_
      refine WPl.v rfl (o_move rfl) ?_
      refine WPl.v rfl (o_leno L44 rfl rfl) ?_
      refine WPl.v rfl (o_sub rfl rfl (by first | omega | (simp; omega)) (by first | omega | (simp; omega))) ?_
      refine WPl.v rfl (o_assign rfl) ?_
      refine WPl.nil ?_
      refine EX.then ?_
      refine WP.seq ?_
      refine WP.block ?_
      refine WP.loop (Gh := Nat) (fun j => ⟨12, [(0, .e (.a (.v (yv l)))), (1, .e (.a (.q 0))), (2, .e (.a (.q 1))), (3, .e (.a (.q 2))), (5, .e (.a (.q 6))), (16, .e (.a (.q 7))), (17, .e (.g [ai (p.pounds), ai (p.tl), ai (p.th), ai (p.al), ai (p.ah), ai (p.dl), ai (p.dh)])), (18, .e (.a (.q 6))), (19, .e (.g [ai ((p.addL f.shop.pigs (nth (f.chBox left) (i : Int))).pounds), ai ((p.addL f.shop.pigs (nth (f.chBox left) (i : Int))).tl), ai ((p.addL f.shop.pigs (nth (f.chBox left) (i : Int))).th), ai ((p.addL f.shop.pigs (nth (f.chBox left) (i : Int))).al), ai ((p.addL f.shop.pigs (nth (f.chBox left) (i : Int))).ah), ai ((p.addL f.shop.pigs (nth (f.chBox left) (i : Int))).dl), ai ((p.addL f.shop.pigs (nth (f.chBox left) (i : Int))).dh)])), (6, .e (.a (.p 8 (0)))), (20, .e (.a (.q 9))), (21, .e (.g [ai ((p.addL f.shop.pigs (nth (f.chBox left) (i : Int))).pounds), ai ((p.addL f.shop.pigs (nth (f.chBox left) (i : Int))).tl), ai ((p.addL f.shop.pigs (nth (f.chBox left) (i : Int))).th), ai ((p.addL f.shop.pigs (nth (f.chBox left) (i : Int))).al), ai ((p.addL f.shop.pigs (nth (f.chBox left) (i : Int))).ah), ai ((p.addL f.shop.pigs (nth (f.chBox left) (i : Int))).dl), ai ((p.addL f.shop.pigs (nth (f.chBox left) (i : Int))).dh)])), (22, .b (f.fitsP (p.addL f.shop.pigs (nth (f.chBox left) (i : Int))))), (23, .b (f.fitsP (p.addL f.shop.pigs (nth (f.chBox left) (i : Int))))), (27, .b ((f.fitsP (p.addL f.shop.pigs (nth (f.chBox left) (i : Int)))) && (f.sureP (p.addL f.shop.pigs (nth (f.chBox left) (i : Int)))))), (28, .b (true)), (29, .e (.a (.v (yv l)))), (30, .e (.a (.q 6))), (31, .e (.g [ai ((p.addL f.shop.pigs (nth (f.chBox left) (i : Int))).pounds), ai ((p.addL f.shop.pigs (nth (f.chBox left) (i : Int))).tl), ai ((p.addL f.shop.pigs (nth (f.chBox left) (i : Int))).th), ai ((p.addL f.shop.pigs (nth (f.chBox left) (i : Int))).al), ai ((p.addL f.shop.pigs (nth (f.chBox left) (i : Int))).ah), ai ((p.addL f.shop.pigs (nth (f.chBox left) (i : Int))).dl), ai ((p.addL f.shop.pigs (nth (f.chBox left) (i : Int))).dh)])), (32, .b (true)), (33, .b (false)), (34, .b (false)), (35, .e (.a (.q 6))), (36, .i (((nth (f.chBox left) (i : Int)).length : Int))), (37, .i (((nth (f.chBox left) (i : Int)).length : Int) - 1)), (7, .i ((f.shop.pigs.length : Int) - 1 - (j : Int)))], [(0, PP (EP.box (PP (EWk r) (f))) ()), (1, PP EPt (p)), (2, PP (EArr 4) (left)), (6, Pred.newer _), (7, PP (EWk r) (f)), (9, PP (EWk r) (f))], [(3, .ext ((Y (f.chIdx p left i + 1)).xp F1)), (6, .own 3 EP.int.size (zr (nth (f.chBox left) (i : Int)) j).length (RP EP.int (zr (nth (f.chBox left) (i : Int)) j))), (8, .blk [ai ((p.addL f.shop.pigs (nth (f.chBox left) (i : Int))).pounds), ai ((p.addL f.shop.pigs (nth (f.chBox left) (i : Int))).tl), ai ((p.addL f.shop.pigs (nth (f.chBox left) (i : Int))).th), ai ((p.addL f.shop.pigs (nth (f.chBox left) (i : Int))).al), ai ((p.addL f.shop.pigs (nth (f.chBox left) (i : Int))).ah), ai ((p.addL f.shop.pigs (nth (f.chBox left) (i : Int))).dl), ai ((p.addL f.shop.pigs (nth (f.chBox left) (i : Int))).dh)] 105)], [], []⟩) (fun j => j ≤ f.shop.pigs.length ∧ ∀ a : Nat, f.shop.pigs.length - j ≤ a → a < f.shop.pigs.length → nth (nth (f.chBox left) (i : Int)) a = nth left a) (fun j => f.shop.pigs.length - j) (0) id ?_ (LeR.of ⟨rfl, rfl, rfl, rfl, rfl, rfl, rfl, rfl, rfl, rfl, rfl, rfl, rfl, rfl, rfl, rfl, rfl, rfl, rfl, rfl, rfl, rfl, rfl, rfl, rfl, (congrArg (fun z => some (SV.i z)) (show (((nth (f.chBox left) (i : Int)).length : Int) - 1) = ((fun j => (f.shop.pigs.length : Int) - 1 - (j : Int)) 0) from by rw [hrl]; simp)), trivial⟩ ⟨(lx rfl), (lx rfl), (lx rfl), (lx rfl), (lx rfl), (lx rfl), trivial⟩ ⟨rfl, (congrArg (fun z => some (Ent.own 3 EP.int.size (List.length z) (RP EP.int z))) (show ((nth (f.chBox left) (i : Int))) = ((fun j => zr (nth (f.chBox left) (i : Int)) j) 0) from by simp [zr])), rfl, trivial⟩ rfl rfl rfl rfl rfl) ?_
      · exact ⟨by omega, fun a h1 h2 => by omega⟩
      intro j hφ
      obtain ⟨hj1, hj2⟩ := hφ
      have hzl : (zr (nth (f.chBox left) (i : Int)) j).length = f.shop.pigs.length := by rw [zr_len (by omega)]; exact hrl
      have hzn : j < f.shop.pigs.length → nth (zr (nth (f.chBox left) (i : Int)) j) ((f.shop.pigs.length : Int) - 1 - (j : Int)) = nth (nth (f.chBox left) (i : Int)) ((f.shop.pigs.length : Int) - 1 - (j : Int)) := fun h => by rw [← hrl]; exact zr_nth (by omega)
      refine WP.seq ?_
      refine WP.seq ?_
      refine WP.imp (Imp.bit 12 13 (decide (0 ≤ ((f.shop.pigs.length : Int) - 1 - (j : Int)))) rfl rfl) ?_
      refine WP.draw (nf := 13) [⟨[], [], [], [], []⟩, ⟨[], [], [], [], [0]⟩, ⟨[], [], [], [], [0, 1]⟩, ⟨[42, 45, 46, 47], [], [], [], [0, 1, 2]⟩, ⟨[41, 45, 46, 47], [], [], [], [0, 1, 2]⟩, ⟨[45, 46, 47], [], [], [], [0, 1, 2, 3, 4]⟩, ⟨[45, 46, 47], [], [], [], [0, 1, 2, 3, 4, 5]⟩, ⟨[41, 42, 43, 44], [], [], [], [0, 1, 2]⟩, ⟨[41, 42, 43, 44], [], [], [], [0, 1, 2, 7]⟩, ⟨[41, 42, 43, 44], [], [], [], [0, 1, 2, 7, 8]⟩, ⟨[], [], [], [], [0, 1, 2, 3, 4, 5, 6, 7, 8, 9]⟩, ⟨[], [], [], [], [0, 1, 2, 3, 4, 5, 6, 7, 8, 9, 10]⟩] (by kernel_rfl) (by kernel_rfl) ?_
      refine DRQ.v rfl rfl rfl (o_move rfl) ?_
      refine DRQ.v rfl rfl rfl (o_geq rfl rfl) ?_
      refine DRQ.v rfl rfl rfl (o_move rfl) ?_
      refine DRQ.gv 12 rfl rfl (.plain rfl Iff.rfl rfl) rfl (fun hb => o_move rfl) ?_
      refine DRQ.gv 12 rfl rfl (.plain rfl Iff.rfl rfl) rfl (fun hb => o_move rfl) ?_
      refine DRQ.gv 12 rfl rfl (.plain rfl Iff.rfl rfl) rfl (fun hb => have hb2 := of_decide_eq_true hb; o_idxo L44 rfl rfl rfl (by first | omega | (simp; omega)) (by first | omega | (simp; omega))) ?_
      refine DRQ.gv 12 rfl rfl (.plain rfl Iff.rfl rfl) rfl (fun hb => have hb2 := of_decide_eq_true hb; o_ldoi S3 rfl rfl rfl rfl (by first | omega | (simp; omega)) (by first | omega | (simp; omega))) ?_
      refine DRQ.gv 12 rfl rfl (.plain rfl Iff.rfl rfl) rfl (fun hb => o_move rfl) ?_
      refine DRQ.gv 12 rfl rfl (.plain rfl Iff.rfl rfl) rfl (fun hb => have hb2 := of_decide_eq_true hb; o_idxq A110 rfl (lx rfl) rfl (by first | omega | (simp; omega)) (by first | omega | (simp; omega))) ?_
      refine DRQ.gv 12 rfl rfl (.plain rfl Iff.rfl rfl) rfl (fun hb => have hb2 := of_decide_eq_true hb; o_lde S3 rfl (lx rfl) (arr_get (by first | omega | (simp; omega)) (by first | omega | (simp; omega)))) ?_
      refine DRQ.gv 12 rfl rfl (.plain rfl Iff.rfl rfl) rfl (fun hb => o_eql rfl rfl) ?_
      refine DRQ.v rfl rfl rfl (o_and rfl rfl rfl id) ?_
      refine DRQ.nil' ?_
      refine EX.then ?_
      refine WP.cond rfl (fun hc2 => ?_) (fun hc2 => ?_)
      · try simp only [decide_eq_true_eq, decide_eq_false_iff_not, Bool.and_eq_true, Bool.or_eq_true, Bool.and_eq_false_iff, Bool.or_eq_false_iff, Bool.not_eq_true', Bool.not_eq_false', ne_eq, Decidable.not_not] at hc2
        obtain ⟨hge, heq⟩ := hc2
        refine WP.skip ?_
        refine EX.then ?_
        refine WP.seq ?_
        refine WP.block ?_
        refine WP.region ?_
        refine WPl.v rfl (o_move rfl) ?_
        refine WPl.v rfl (o_move rfl) ?_
        refine WPl.v rfl (o_idxo L44 rfl rfl rfl (by first | omega | (simp; omega)) (by first | omega | (simp; omega))) ?_
        refine WPl.s1 (o_steE2 Try.sizeOf3 rfl rfl rfl rfl eok_int rfl rfl rfl (by first | omega | (simp; omega)) (by first | omega | (simp; omega))) ?_
        refine WPl.nil ?_
        refine EX.blk ?_
        refine EX.then ?_
        refine WP.region ?_
        refine WPl.v rfl (o_move rfl) ?_
        refine WPl.v rfl (o_sub rfl rfl (by first | omega | (simp; omega)) (by first | omega | (simp; omega))) ?_
        refine WPl.v rfl (o_assign rfl) ?_
        refine WPl.nil ?_
        refine EX.again (j + 1) id (by exact ⟨by omega, fun a h1 h2 => by by_cases h3 : f.shop.pigs.length - j ≤ a; exact hj2 a h3 h2; have h4 : (a : Int) = (f.shop.pigs.length : Int) - 1 - (j : Int) := (by omega); rw [h4, ← hzn (by omega)]; exact heq⟩) (by omega) (LeR.of ⟨rfl, rfl, rfl, rfl, rfl, rfl, rfl, rfl, rfl, rfl, rfl, rfl, rfl, rfl, rfl, rfl, rfl, rfl, rfl, rfl, rfl, rfl, rfl, rfl, rfl, (congrArg (fun z => some (SV.i z)) (show (((f.shop.pigs.length : Int) - 1 - (j : Int)) - 1) = ((fun j => (f.shop.pigs.length : Int) - 1 - (j : Int)) (j + 1)) from by show (f.shop.pigs.length : Int) - 1 - (j : Int) - 1 = (f.shop.pigs.length : Int) - 1 - ((j + 1 : Nat) : Int); omega)), trivial⟩ ⟨(lx rfl), (lx rfl), (lx rfl), (lx rfl), (lx rfl), (lx rfl), trivial⟩ ⟨rfl, (congrArg (fun z => some (Ent.own 3 EP.int.size (List.length z) (RP EP.int z))) (show (lset (zr (nth (f.chBox left) (i : Int)) j) ((f.shop.pigs.length : Int) - 1 - (j : Int)) 0) = ((fun j => zr (nth (f.chBox left) (i : Int)) j) (j + 1)) from by dsimp only; rw [← hrl]; exact zr_step (by omega))), rfl, trivial⟩ rfl rfl rfl rfl rfl)
      · try simp only [decide_eq_true_eq, decide_eq_false_iff_not, Bool.and_eq_true, Bool.or_eq_true, Bool.and_eq_false_iff, Bool.or_eq_false_iff, Bool.not_eq_true', Bool.not_eq_false', ne_eq, Decidable.not_not] at hc2
        refine WP.exit ?_
        refine EX.exit_then ?_
        refine EX.exit_then ?_
        refine EX.exit_blk ?_
        refine EX.then ?_
        refine WP.seq ?_
        refine WP.seq ?_
        refine WP.region ?_
        refine WPl.v rfl (o_move rfl) ?_
        refine WPl.v rfl (o_lss rfl rfl) ?_
        refine WPl.nil ?_
        refine EX.then ?_
        refine WP.cond rfl (fun hc3 => ?_) (fun hc3 => ?_)
        · try simp only [decide_eq_true_eq, decide_eq_false_iff_not, Bool.and_eq_true, Bool.or_eq_true, Bool.and_eq_false_iff, Bool.or_eq_false_iff, Bool.not_eq_true', Bool.not_eq_false', ne_eq, Decidable.not_not] at hc3
          refine WP.ret ?_
          refine EX.ret_then ?_
          refine EX.ret_blk ?_
          refine EX.ret_then ?_
          refine EX.ret_blk ?_
          have hend : f.chIdx p left i + 1 = (f.chItems p left).length := by rw [← chIdx_end, ← (ch_next hl hp4 hiN hj2).1 (by omega), chIdx_succ hiN, show f.chOK p (nth (f.chBox left) (i : Int)) = true from hs28]; rfl
          exact EX.finI (.inl rfl) rfl rfl (ky := 3) (Y := Y (f.chIdx p left i + 1)) rfl (fun _ _ h => .inl (by rw [hend] at h; exact h))
        · try simp only [decide_eq_true_eq, decide_eq_false_iff_not, Bool.and_eq_true, Bool.or_eq_true, Bool.and_eq_false_iff, Bool.or_eq_false_iff, Bool.not_eq_true', Bool.not_eq_false', ne_eq, Decidable.not_not] at hc3
          refine WP.skip ?_
          refine EX.then ?_
          refine WP.region ?_
          refine WPl.v rfl (o_move rfl) ?_
          refine WPl.v rfl (o_move rfl) ?_
          refine WPl.v rfl (o_idxo L44 rfl rfl rfl (by first | omega | (simp; omega)) (by first | omega | (simp; omega))) ?_
          refine WPl.v rfl (o_ldoi S3 rfl rfl rfl rfl (by first | omega | (simp; omega)) (by first | omega | (simp; omega))) ?_
          have hbb := hrb (f.shop.pigs.length - 1 - j) (by omega)
          rw [show ((f.shop.pigs.length - 1 - j : Nat) : Int) = (f.shop.pigs.length : Int) - 1 - (j : Int) by omega, ← hzn (by omega)] at hbb
          refine WPl.v rfl (o_add rfl rfl (by first | omega | (simp; omega)) (by first | omega | (simp; omega))) ?_
          refine WPl.v rfl (o_idxo L44 rfl rfl rfl (by first | omega | (simp; omega)) (by first | omega | (simp; omega))) ?_
          refine WPl.s1 (o_steE2 Try.sizeOf3 rfl rfl rfl rfl eok_int rfl rfl rfl (by first | omega | (simp; omega)) (by first | omega | (simp; omega))) ?_
          refine WPl.nil ?_
          refine EX.blk ?_
          have hne := hc2.resolve_left (by omega)
          rw [hzn (by omega)] at hne
          have hnx := (ch_next hl hp4 hiN hj2).2 (by omega) hne
          refine EX.again ((i + 1, F1)) id (by exact ⟨hnx.1, hF⟩) (by first | omega | (dsimp only; omega) | (simp only []; omega)) (LeR.of ⟨rfl, rfl, rfl, rfl, rfl, trivial⟩ ⟨(lx rfl), (lx rfl), (lx rfl), (lx rfl), trivial⟩ ⟨(congrArg (fun z => some (Ent.ext ((Y z).xp F1))) (show f.chIdx p left i + 1 = f.chIdx p left (i + 1) from by rw [chIdx_succ hiN, show f.chOK p (nth (f.chBox left) (i : Int)) = true from hs28]; rfl)), (congrArg (fun z => some (Ent.own 3 EP.int.size (List.length z) (RP EP.int z))) (show (lset (zr (nth (f.chBox left) (i : Int)) j) ((f.shop.pigs.length : Int) - 1 - (j : Int)) ((nth (zr (nth (f.chBox left) (i : Int)) j) ((f.shop.pigs.length : Int) - 1 - (j : Int))) + 1)) = ((fun (⟨i, F⟩ : Nat × (Nat → Prop)) => (nth (f.chBox left) (i : Int))) (i + 1, F1)) from hnx.2)), trivial⟩ rfl rfl rfl rfl rfl)
  · refine WPl.imp (Imp.bitF 28 (b' := false) rfl hs28) ?_
    refine WPl.off rfl ⟨_, _, rfl, rfl, rfl⟩ ?_
    refine WPl.off rfl ⟨_, _, rfl, rfl, rfl⟩ ?_
    refine WPl.off rfl ⟨_, _, rfl, rfl, rfl⟩ ?_
    refine WPl.off rfl ⟨_, _, rfl, rfl, rfl⟩ ?_
    refine WPl.off rfl ⟨_, _, rfl, rfl, rfl⟩ ?_
    refine WPl.v rfl (o_pickF rfl rfl) ?_
    refine WPl.nil ?_
    refine EX.then ?_
    refine WP.cond rfl (fun h => by cases h) (fun _ => ?_)
    refine WP.skip ?_
    refine EX.then ?_
    refine WP.seq ?_
    refine WP.region ?_
    refine WPl.v rfl (o_move rfl) ?_
    refine WPl.v rfl (o_leno L44 rfl rfl) ?_
    refine WPl.v rfl (o_sub rfl rfl (by first | omega | (simp; omega)) (by first | omega | (simp; omega))) ?_
    refine WPl.v rfl (o_assign rfl) ?_
    refine WPl.nil ?_
    refine EX.then ?_
    refine WP.seq ?_
    refine WP.block ?_
    refine WP.loop (Gh := Nat) (fun j => ⟨12, [(0, .e (.a (.v (yv l)))), (1, .e (.a (.q 0))), (2, .e (.a (.q 1))), (3, .e (.a (.q 2))), (5, .e (.a (.q 6))), (16, .e (.a (.q 7))), (17, .e (.g [ai (p.pounds), ai (p.tl), ai (p.th), ai (p.al), ai (p.ah), ai (p.dl), ai (p.dh)])), (18, .e (.a (.q 6))), (19, .e (.g [ai ((p.addL f.shop.pigs (nth (f.chBox left) (i : Int))).pounds), ai ((p.addL f.shop.pigs (nth (f.chBox left) (i : Int))).tl), ai ((p.addL f.shop.pigs (nth (f.chBox left) (i : Int))).th), ai ((p.addL f.shop.pigs (nth (f.chBox left) (i : Int))).al), ai ((p.addL f.shop.pigs (nth (f.chBox left) (i : Int))).ah), ai ((p.addL f.shop.pigs (nth (f.chBox left) (i : Int))).dl), ai ((p.addL f.shop.pigs (nth (f.chBox left) (i : Int))).dh)])), (6, .e (.a (.p 8 (0)))), (20, .e (.a (.q 9))), (21, .e (.g [ai ((p.addL f.shop.pigs (nth (f.chBox left) (i : Int))).pounds), ai ((p.addL f.shop.pigs (nth (f.chBox left) (i : Int))).tl), ai ((p.addL f.shop.pigs (nth (f.chBox left) (i : Int))).th), ai ((p.addL f.shop.pigs (nth (f.chBox left) (i : Int))).al), ai ((p.addL f.shop.pigs (nth (f.chBox left) (i : Int))).ah), ai ((p.addL f.shop.pigs (nth (f.chBox left) (i : Int))).dl), ai ((p.addL f.shop.pigs (nth (f.chBox left) (i : Int))).dh)])), (22, .b (f.fitsP (p.addL f.shop.pigs (nth (f.chBox left) (i : Int))))), (23, .b (f.fitsP (p.addL f.shop.pigs (nth (f.chBox left) (i : Int))))), (27, .b ((f.fitsP (p.addL f.shop.pigs (nth (f.chBox left) (i : Int)))) && (f.sureP (p.addL f.shop.pigs (nth (f.chBox left) (i : Int)))))), (28, .b (false)), (29, .e (.a (.v (undef)))), (30, .e (.a (.v (undef)))), (31, .e (.a (.v (undef)))), (32, .e (.a (.v (undef)))), (33, .e (.a (.v (undef)))), (34, .b (false)), (35, .e (.a (.q 6))), (36, .i (((nth (f.chBox left) (i : Int)).length : Int))), (37, .i (((nth (f.chBox left) (i : Int)).length : Int) - 1)), (7, .i ((f.shop.pigs.length : Int) - 1 - (j : Int)))], [(0, PP (EP.box (PP (EWk r) (f))) ()), (1, PP EPt (p)), (2, PP (EArr 4) (left)), (6, Pred.newer _), (7, PP (EWk r) (f)), (9, PP (EWk r) (f))], [(3, .ext ((Y (f.chIdx p left i)).xp F)), (6, .own 3 EP.int.size (zr (nth (f.chBox left) (i : Int)) j).length (RP EP.int (zr (nth (f.chBox left) (i : Int)) j))), (8, .blk [ai ((p.addL f.shop.pigs (nth (f.chBox left) (i : Int))).pounds), ai ((p.addL f.shop.pigs (nth (f.chBox left) (i : Int))).tl), ai ((p.addL f.shop.pigs (nth (f.chBox left) (i : Int))).th), ai ((p.addL f.shop.pigs (nth (f.chBox left) (i : Int))).al), ai ((p.addL f.shop.pigs (nth (f.chBox left) (i : Int))).ah), ai ((p.addL f.shop.pigs (nth (f.chBox left) (i : Int))).dl), ai ((p.addL f.shop.pigs (nth (f.chBox left) (i : Int))).dh)] 105)], [], []⟩) (fun j => j ≤ f.shop.pigs.length ∧ ∀ a : Nat, f.shop.pigs.length - j ≤ a → a < f.shop.pigs.length → nth (nth (f.chBox left) (i : Int)) a = nth left a) (fun j => f.shop.pigs.length - j) (0) id ?_ (LeR.of ⟨rfl, rfl, rfl, rfl, rfl, rfl, rfl, rfl, rfl, rfl, rfl, rfl, rfl, rfl, rfl, rfl, rfl, rfl, rfl, rfl, rfl, rfl, rfl, rfl, rfl, (congrArg (fun z => some (SV.i z)) (show (((nth (f.chBox left) (i : Int)).length : Int) - 1) = ((fun j => (f.shop.pigs.length : Int) - 1 - (j : Int)) 0) from by rw [hrl]; simp)), trivial⟩ ⟨(lx rfl), (lx rfl), (lx rfl), (lx rfl), (lx rfl), (lx rfl), trivial⟩ ⟨rfl, (congrArg (fun z => some (Ent.own 3 EP.int.size (List.length z) (RP EP.int z))) (show ((nth (f.chBox left) (i : Int))) = ((fun j => zr (nth (f.chBox left) (i : Int)) j) 0) from by simp [zr])), rfl, trivial⟩ rfl rfl rfl rfl rfl) ?_
    · exact ⟨by omega, fun a h1 h2 => by omega⟩
    intro j hφ
    obtain ⟨hj1, hj2⟩ := hφ
    have hzl : (zr (nth (f.chBox left) (i : Int)) j).length = f.shop.pigs.length := by rw [zr_len (by omega)]; exact hrl
    have hzn : j < f.shop.pigs.length → nth (zr (nth (f.chBox left) (i : Int)) j) ((f.shop.pigs.length : Int) - 1 - (j : Int)) = nth (nth (f.chBox left) (i : Int)) ((f.shop.pigs.length : Int) - 1 - (j : Int)) := fun h => by rw [← hrl]; exact zr_nth (by omega)
    refine WP.seq ?_
    refine WP.seq ?_
    refine WP.imp (Imp.bit 12 13 (decide (0 ≤ ((f.shop.pigs.length : Int) - 1 - (j : Int)))) rfl rfl) ?_
    refine WP.draw (nf := 13) [⟨[], [], [], [], []⟩, ⟨[], [], [], [], [0]⟩, ⟨[], [], [], [], [0, 1]⟩, ⟨[42, 45, 46, 47], [], [], [], [0, 1, 2]⟩, ⟨[41, 45, 46, 47], [], [], [], [0, 1, 2]⟩, ⟨[45, 46, 47], [], [], [], [0, 1, 2, 3, 4]⟩, ⟨[45, 46, 47], [], [], [], [0, 1, 2, 3, 4, 5]⟩, ⟨[41, 42, 43, 44], [], [], [], [0, 1, 2]⟩, ⟨[41, 42, 43, 44], [], [], [], [0, 1, 2, 7]⟩, ⟨[41, 42, 43, 44], [], [], [], [0, 1, 2, 7, 8]⟩, ⟨[], [], [], [], [0, 1, 2, 3, 4, 5, 6, 7, 8, 9]⟩, ⟨[], [], [], [], [0, 1, 2, 3, 4, 5, 6, 7, 8, 9, 10]⟩] (by kernel_rfl) (by kernel_rfl) ?_
    refine DRQ.v rfl rfl rfl (o_move rfl) ?_
    refine DRQ.v rfl rfl rfl (o_geq rfl rfl) ?_
    refine DRQ.v rfl rfl rfl (o_move rfl) ?_
    refine DRQ.gv 12 rfl rfl (.plain rfl Iff.rfl rfl) rfl (fun hb => o_move rfl) ?_
    refine DRQ.gv 12 rfl rfl (.plain rfl Iff.rfl rfl) rfl (fun hb => o_move rfl) ?_
    refine DRQ.gv 12 rfl rfl (.plain rfl Iff.rfl rfl) rfl (fun hb => have hb2 := of_decide_eq_true hb; o_idxo L44 rfl rfl rfl (by first | omega | (simp; omega)) (by first | omega | (simp; omega))) ?_
    refine DRQ.gv 12 rfl rfl (.plain rfl Iff.rfl rfl) rfl (fun hb => have hb2 := of_decide_eq_true hb; o_ldoi S3 rfl rfl rfl rfl (by first | omega | (simp; omega)) (by first | omega | (simp; omega))) ?_
    refine DRQ.gv 12 rfl rfl (.plain rfl Iff.rfl rfl) rfl (fun hb => o_move rfl) ?_
    refine DRQ.gv 12 rfl rfl (.plain rfl Iff.rfl rfl) rfl (fun hb => have hb2 := of_decide_eq_true hb; o_idxq A110 rfl (lx rfl) rfl (by first | omega | (simp; omega)) (by first | omega | (simp; omega))) ?_
    refine DRQ.gv 12 rfl rfl (.plain rfl Iff.rfl rfl) rfl (fun hb => have hb2 := of_decide_eq_true hb; o_lde S3 rfl (lx rfl) (arr_get (by first | omega | (simp; omega)) (by first | omega | (simp; omega)))) ?_
    refine DRQ.gv 12 rfl rfl (.plain rfl Iff.rfl rfl) rfl (fun hb => o_eql rfl rfl) ?_
    refine DRQ.v rfl rfl rfl (o_and rfl rfl rfl id) ?_
    refine DRQ.nil' ?_
    refine EX.then ?_
    refine WP.cond rfl (fun hc2 => ?_) (fun hc2 => ?_)
    · try simp only [decide_eq_true_eq, decide_eq_false_iff_not, Bool.and_eq_true, Bool.or_eq_true, Bool.and_eq_false_iff, Bool.or_eq_false_iff, Bool.not_eq_true', Bool.not_eq_false', ne_eq, Decidable.not_not] at hc2
      obtain ⟨hge, heq⟩ := hc2
      refine WP.skip ?_
      refine EX.then ?_
      refine WP.seq ?_
      refine WP.block ?_
      refine WP.region ?_
      refine WPl.v rfl (o_move rfl) ?_
      refine WPl.v rfl (o_move rfl) ?_
      refine WPl.v rfl (o_idxo L44 rfl rfl rfl (by first | omega | (simp; omega)) (by first | omega | (simp; omega))) ?_
      refine WPl.s1 (o_steE2 Try.sizeOf3 rfl rfl rfl rfl eok_int rfl rfl rfl (by first | omega | (simp; omega)) (by first | omega | (simp; omega))) ?_
      refine WPl.nil ?_
      refine EX.blk ?_
      refine EX.then ?_
      refine WP.region ?_
      refine WPl.v rfl (o_move rfl) ?_
      refine WPl.v rfl (o_sub rfl rfl (by first | omega | (simp; omega)) (by first | omega | (simp; omega))) ?_
      refine WPl.v rfl (o_assign rfl) ?_
      refine WPl.nil ?_
      refine EX.again (j + 1) id (by exact ⟨by omega, fun a h1 h2 => by by_cases h3 : f.shop.pigs.length - j ≤ a; exact hj2 a h3 h2; have h4 : (a : Int) = (f.shop.pigs.length : Int) - 1 - (j : Int) := (by omega); rw [h4, ← hzn (by omega)]; exact heq⟩) (by omega) (LeR.of ⟨rfl, rfl, rfl, rfl, rfl, rfl, rfl, rfl, rfl, rfl, rfl, rfl, rfl, rfl, rfl, rfl, rfl, rfl, rfl, rfl, rfl, rfl, rfl, rfl, rfl, (congrArg (fun z => some (SV.i z)) (show (((f.shop.pigs.length : Int) - 1 - (j : Int)) - 1) = ((fun j => (f.shop.pigs.length : Int) - 1 - (j : Int)) (j + 1)) from by show (f.shop.pigs.length : Int) - 1 - (j : Int) - 1 = (f.shop.pigs.length : Int) - 1 - ((j + 1 : Nat) : Int); omega)), trivial⟩ ⟨(lx rfl), (lx rfl), (lx rfl), (lx rfl), (lx rfl), (lx rfl), trivial⟩ ⟨rfl, (congrArg (fun z => some (Ent.own 3 EP.int.size (List.length z) (RP EP.int z))) (show (lset (zr (nth (f.chBox left) (i : Int)) j) ((f.shop.pigs.length : Int) - 1 - (j : Int)) 0) = ((fun j => zr (nth (f.chBox left) (i : Int)) j) (j + 1)) from by dsimp only; rw [← hrl]; exact zr_step (by omega))), rfl, trivial⟩ rfl rfl rfl rfl rfl)
    · try simp only [decide_eq_true_eq, decide_eq_false_iff_not, Bool.and_eq_true, Bool.or_eq_true, Bool.and_eq_false_iff, Bool.or_eq_false_iff, Bool.not_eq_true', Bool.not_eq_false', ne_eq, Decidable.not_not] at hc2
      refine WP.exit ?_
      refine EX.exit_then ?_
      refine EX.exit_then ?_
      refine EX.exit_blk ?_
      refine EX.then ?_
      refine WP.seq ?_
      refine WP.seq ?_
      refine WP.region ?_
      refine WPl.v rfl (o_move rfl) ?_
      refine WPl.v rfl (o_lss rfl rfl) ?_
      refine WPl.nil ?_
      refine EX.then ?_
      refine WP.cond rfl (fun hc3 => ?_) (fun hc3 => ?_)
      · try simp only [decide_eq_true_eq, decide_eq_false_iff_not, Bool.and_eq_true, Bool.or_eq_true, Bool.and_eq_false_iff, Bool.or_eq_false_iff, Bool.not_eq_true', Bool.not_eq_false', ne_eq, Decidable.not_not] at hc3
        refine WP.ret ?_
        refine EX.ret_then ?_
        refine EX.ret_blk ?_
        refine EX.ret_then ?_
        refine EX.ret_blk ?_
        have hend : f.chIdx p left i = (f.chItems p left).length := by rw [← chIdx_end, ← (ch_next hl hp4 hiN hj2).1 (by omega), chIdx_succ hiN, show f.chOK p (nth (f.chBox left) (i : Int)) = false from hs28]; rfl
        exact EX.finI (.inl rfl) rfl rfl (ky := 3) (Y := Y (f.chIdx p left i)) rfl (fun _ _ h => .inl (by rw [hend] at h; exact h))
      · try simp only [decide_eq_true_eq, decide_eq_false_iff_not, Bool.and_eq_true, Bool.or_eq_true, Bool.and_eq_false_iff, Bool.or_eq_false_iff, Bool.not_eq_true', Bool.not_eq_false', ne_eq, Decidable.not_not] at hc3
        refine WP.skip ?_
        refine EX.then ?_
        refine WP.region ?_
        refine WPl.v rfl (o_move rfl) ?_
        refine WPl.v rfl (o_move rfl) ?_
        refine WPl.v rfl (o_idxo L44 rfl rfl rfl (by first | omega | (simp; omega)) (by first | omega | (simp; omega))) ?_
        refine WPl.v rfl (o_ldoi S3 rfl rfl rfl rfl (by first | omega | (simp; omega)) (by first | omega | (simp; omega))) ?_
        have hbb := hrb (f.shop.pigs.length - 1 - j) (by omega)
        rw [show ((f.shop.pigs.length - 1 - j : Nat) : Int) = (f.shop.pigs.length : Int) - 1 - (j : Int) by omega, ← hzn (by omega)] at hbb
        refine WPl.v rfl (o_add rfl rfl (by first | omega | (simp; omega)) (by first | omega | (simp; omega))) ?_
        refine WPl.v rfl (o_idxo L44 rfl rfl rfl (by first | omega | (simp; omega)) (by first | omega | (simp; omega))) ?_
        refine WPl.s1 (o_steE2 Try.sizeOf3 rfl rfl rfl rfl eok_int rfl rfl rfl (by first | omega | (simp; omega)) (by first | omega | (simp; omega))) ?_
        refine WPl.nil ?_
        refine EX.blk ?_
        have hne := hc2.resolve_left (by omega)
        rw [hzn (by omega)] at hne
        have hnx := (ch_next hl hp4 hiN hj2).2 (by omega) hne
        refine EX.again ((i + 1, F)) id (by exact ⟨hnx.1, hF⟩) (by first | omega | (dsimp only; omega) | (simp only []; omega)) (LeR.of ⟨rfl, rfl, rfl, rfl, rfl, trivial⟩ ⟨(lx rfl), (lx rfl), (lx rfl), (lx rfl), trivial⟩ ⟨(congrArg (fun z => some (Ent.ext ((Y z).xp F))) (show f.chIdx p left i = f.chIdx p left (i + 1) from by rw [chIdx_succ hiN, show f.chOK p (nth (f.chBox left) (i : Int)) = false from hs28]; rfl)), (congrArg (fun z => some (Ent.own 3 EP.int.size (List.length z) (RP EP.int z))) (show (lset (zr (nth (f.chBox left) (i : Int)) j) ((f.shop.pigs.length : Int) - 1 - (j : Int)) ((nth (zr (nth (f.chBox left) (i : Int)) j) ((f.shop.pigs.length : Int) - 1 - (j : Int))) + 1)) = ((fun (⟨i, F⟩ : Nat × (Nat → Prop)) => (nth (f.chBox left) (i : Int))) (i + 1, F)) from hnx.2)), trivial⟩ rfl rfl rfl rfl rfl)
theorem w140 {f : Fnd} {r : Option Nat} {p : Pt} {left : List Int} : ∀ x ∈ ([.e (.a (.q 0)), .e (.g [ai (p.pounds), ai (p.tl), ai (p.th), ai (p.al), ai (p.ah), ai (p.dl), ai (p.dh)]), .e (.g [ai (nth left 0), ai (nth left 1), ai (nth left 2), ai (nth left 3)])] : List SV), x.res (keys (α := Pred) [(0, PP (EWk r) (f))]) := by simp [SV.res, El.res, At.res, keys]
theorem r140 {f : Fnd} {p : Pt} {left : List Int} : SV.res (keys (α := Pred) [(0, ItP Try.prog (f.chItems p left))]) (.e (.a (.q 0))) := by simp [SV.res, El.res, At.res, keys]
set_option maxHeartbeats 4000000 in
theorem c140 (f : Fnd) (r : Option Nat) (p : Pt) (left : List Int) (m : Int) (hf : f.chk = true) (hp : PtB p m) (hm : m ≤ 10000000) (hl : bnd4 left) : Sig Try.prog 140 [.e (.a (.q 0)), .e (.g [ai (p.pounds), ai (p.tl), ai (p.th), ai (p.al), ai (p.ah), ai (p.dl), ai (p.dh)]), .e (.g [ai (nth left 0), ai (nth left 1), ai (nth left 2), ai (nth left 3)])] [(0, PP (EWk r) (f))] (.e (.a (.q 0))) [(0, ItP Try.prog (f.chItems p left))] := by
  have hl4 := hl.1
  refine Sig.intro Try.func140 rfl 1 [(0, .e (.a (.q 0))), (1, .e (.g [ai (p.pounds), ai (p.tl), ai (p.th), ai (p.al), ai (p.ah), ai (p.dl), ai (p.dh)])), (2, .e (.g [ai (nth left 0), ai (nth left 1), ai (nth left 2), ai (nth left 3)]))] rfl w140 rfl rfl fun I w => ?_
  refine WP.seq ?_
  refine WP.region ?_
  refine WPl.l 1 2 rfl rfl rfl (o_boxa rfl (.inl ⟨_, (lx rfl), PP.one⟩)) ?_
  refine WPl.l 2 3 rfl rfl rfl (o_boxg rfl) ?_
  refine WPl.l 3 4 rfl rfl rfl (o_boxg rfl) ?_
  refine WPl.v rfl (o_assign rfl) ?_
  refine WPl.nil ?_
  refine EX.then ?_
  refine WP.seq ?_
  refine WP.region ?_
  refine WPl.imp (Imp.frzb (E := EP.box (PP (EWk r) (f))) (y := ()) 1 4 5 rfl rfl (bok_box (lx rfl)) rfl rfl rfl) ?_
  refine WPl.imp (Imp.frzb (E := EPt) (y := p) 2 5 6 rfl rfl (bok_str ⟨rfl, rfl, rfl, rfl, rfl, rfl, rfl, trivial⟩) rfl rfl rfl) ?_
  refine WPl.imp (Imp.frzb (E := (EArr 4)) (y := left) 3 6 7 rfl rfl (fun _ _ _ _ _ _ => rfl) rfl rfl rfl) ?_
  refine WPl.x 7 8 rfl rfl rfl (o_mkit 7 (ren [(0, 4), (1, 5), (2, 6)]) (c162 f r p left m hf hp hm hl) e162 rfl SvsOK.rf w162 ⟨(lx rfl), (lx rfl), (lx rfl), trivial⟩) ?_
  refine WPl.v rfl (o_assign rfl) ?_
  refine WPl.nil ?_
  refine EX.then ?_
  refine WP.ret ?_
  exact EX.fin (ren [(0, 7)]) (.inl rfl) rfl (.tmp rfl .nil) rfl r140 ⟨(lx rfl), trivial⟩ (by simp) (by simp)
theorem w141 {f : Fnd} {r : Option Nat} {left row : List Int} : ∀ x ∈ ([.e (.a (.q 0)), .e (.g [ai (nth left 0), ai (nth left 1), ai (nth left 2), ai (nth left 3)]), .e (.a (.q 1))] : List SV), x.res (keys (α := Pred) [(0, PP (EWk r) (f)), (1, PL EP.int (row))]) := by simp [SV.res, El.res, At.res, keys]
theorem r141 {f : Fnd} {left row : List Int} : SV.res (keys (α := Pred) []) (.t [.g [ai (nth (takeL left row) 0), ai (nth (takeL left row) 1), ai (nth (takeL left row) 2), ai (nth (takeL left row) 3)], .a (ai (sumOf Pig.pence f.shop.pigs row))]) := by simp [SV.res, El.res, At.res, keys]
set_option maxHeartbeats 4000000 in
theorem c141 (f : Fnd) (r : Option Nat) (left row : List Int) (hp : PigsOK f.shop.pigs) (hl : left.length = 4) (hb : bnd left 5) (hr : row.length = f.shop.pigs.length) (hrb : bnd row 5) : Sig Try.prog 141 [.e (.a (.q 0)), .e (.g [ai (nth left 0), ai (nth left 1), ai (nth left 2), ai (nth left 3)]), .e (.a (.q 1))] [(0, PP (EWk r) (f)), (1, PL EP.int (row))] (.t [.g [ai (nth (takeL left row) 0), ai (nth (takeL left row) 1), ai (nth (takeL left row) 2), ai (nth (takeL left row) 3)], .a (ai (sumOf Pig.pence f.shop.pigs row))]) [] := by
  have hp4 := hp.2
  have hsb := fun i hi => sumTo_bnd (f := Pig.pence) (pigs := f.shop.pigs) (bnd_mono hrb (show (5 : Int) ≤ 1000 by omega)) (fun j hj => by have := Pig.bnds (hp.at (show j < f.shop.pigs.length by omega)); omega) i hi
  refine Sig.intro Try.func141 rfl 2 [(0, .e (.a (.q 0))), (1, .e (.g [ai (nth left 0), ai (nth left 1), ai (nth left 2), ai (nth left 3)])), (2, .e (.a (.q 1)))] rfl w141 rfl rfl fun I w => ?_
  refine WP.seq ?_
  refine WP.region ?_
  refine WPl.l 2 3 rfl rfl rfl (o_boxg rfl) ?_
  refine WPl.l 3 4 rfl rfl rfl (o_alloc Z110) ?_
  refine WPl.v rfl (o_assign rfl) ?_
  refine WPl.nil ?_
  refine EX.then ?_
  refine WP.seq ?_
  refine WP.region ?_
  refine WPl.v rfl (o_assign rfl) ?_
  refine WPl.nil ?_
  refine EX.then ?_
  refine WP.seq ?_
  refine WP.seq ?_
  refine WP.region ?_
  refine WPl.v rfl (o_move rfl) ?_
  refine WPl.v rfl (o_lenq L44 rfl (lx rfl)) ?_
  refine WPl.v rfl (o_move rfl) ?_
  refine WPl.nil ?_
  refine EX.then ?_
  refine WP.block ?_
  refine WP.loop (Gh := Nat) (fun i => ⟨4, [(0, .e (.a (.q 0))), (4, .e (.a (.p 2 (0)))), (6, .e (.a (.p 3 (0)))), (7, .i (0)), (8, .i (sumTo Pig.pence f.shop.pigs row i)), (11, .e (.a (.q 1))), (12, .i ((row.length : Int))), (13, .i ((i : Int)))], [(0, PP (EWk r) (f)), (1, PL EP.int (row))], [(2, .blk [ai (nth (takeTo left row i) 0), ai (nth (takeTo left row i) 1), ai (nth (takeTo left row i) 2), ai (nth (takeTo left row i) 3)] 110), (3, .blk [ai (0), ai (0), ai (0), ai (0)] 110)], [], []⟩) (fun i => i ≤ row.length) (fun i => row.length - i) (0) id ?_ (LeR.of ⟨rfl, rfl, rfl, rfl, rfl, rfl, rfl, rfl, trivial⟩ ⟨(lx rfl), (lx rfl), trivial⟩ ⟨rfl, rfl, trivial⟩ rfl rfl rfl rfl rfl) ?_
  · first | trivial | omega | (constructor <;> omega) | simp
  intro i hφ
  have hi : i ≤ row.length := hφ
  refine WP.seq ?_
  refine WP.region ?_
  refine WPl.v rfl (o_lss rfl rfl) ?_
  refine WPl.nil ?_
  refine EX.then ?_
  refine WP.seq ?_
  refine WP.cond rfl (fun hc1 => ?_) (fun hc1 => ?_)
  · try simp only [decide_eq_true_eq, decide_eq_false_iff_not, Bool.and_eq_true, Bool.or_eq_true, Bool.and_eq_false_iff, Bool.or_eq_false_iff, Bool.not_eq_true', Bool.not_eq_false', ne_eq, Decidable.not_not] at hc1
    refine WP.skip ?_
    refine EX.then ?_
    refine WP.seq ?_
    refine WP.block ?_
    refine WP.seq ?_
    refine WP.region ?_
    refine WPl.v rfl (o_move rfl) ?_
    refine WPl.x 4 5 rfl rfl rfl (o_idx L44 rfl (lx rfl) rfl (by first | omega | (simp; omega)) (by first | omega | (simp; omega))) ?_
    refine WPl.v rfl (o_ldq S3 rfl (lx rfl) intc) ?_
    refine WPl.v rfl (o_assign rfl) ?_
    refine WPl.v rfl (o_assign rfl) ?_
    refine WPl.nil ?_
    refine EX.then ?_
    refine WP.seq ?_
    refine WP.region ?_
    refine WPl.v rfl (o_move rfl) ?_
    refine WPl.v rfl (o_idxp A110 rfl rfl (by first | omega | (simp; omega)) (by first | omega | (simp; omega))) ?_
    refine WPl.v rfl (o_ldpn (n := 4) (l := takeTo left row i) S3 rfl rfl rfl (by first | omega | (simp; omega)) (by first | omega | (simp; omega))) ?_
    refine WPl.v rfl (o_move rfl) ?_
    have h1 := takeTo_other left row hl i i (Nat.le_refl _) (by omega)
    have h2 := hb i (by omega)
    have h3 := hrb i (by omega)
    refine WPl.v rfl (o_sub rfl rfl (by first | omega | (simp; omega)) (by first | omega | (simp; omega))) ?_
    refine WPl.v rfl (o_idxp A110 rfl rfl (by first | omega | (simp; omega)) (by first | omega | (simp; omega))) ?_
    refine WPl.s1 (o_stpn (n := 4) (l := takeTo left row i) (cs' := [ai (nth (lset (takeTo left row i) (i : Int) ((nth (takeTo left row i) (i : Int)) - (nth row (i : Int)))) 0), ai (nth (lset (takeTo left row i) (i : Int) ((nth (takeTo left row i) (i : Int)) - (nth row (i : Int)))) 1), ai (nth (lset (takeTo left row i) (i : Int) ((nth (takeTo left row i) (i : Int)) - (nth row (i : Int)))) 2), ai (nth (lset (takeTo left row i) (i : Int) ((nth (takeTo left row i) (i : Int)) - (nth row (i : Int)))) 3)]) S3 rfl rfl rfl rfl rfl (by rw [takeTo_len]; exact hl) (by first | omega | (simp; omega)) (by first | omega | (simp; omega))) ?_
    refine WPl.nil ?_
    refine EX.then ?_
    refine WP.region ?_
    refine WPl.v rfl (o_move rfl) ?_
    refine WPl.v rfl (o_move rfl) ?_
    refine WPl.v rfl (o_move rfl) ?_
    refine WPl.v rfl (o_nilq rfl (lx rfl)) ?_
    refine WPl.v rfl (o_fldq F100_0 rfl (lx rfl)) ?_
    refine WPl.v rfl (o_flde F31_0 rfl (lx rfl)) ?_
    refine WPl.v rfl (o_flde F28_4 rfl (lx rfl)) ?_
    refine WPl.x 5 6 rfl rfl rfl (o_ldex S26 rfl (lx rfl) (strS rfl)) ?_
    refine WPl.v rfl (o_move rfl) ?_
    refine WPl.x 6 7 rfl rfl rfl (o_idx L26 rfl (lx rfl) rfl (by first | omega | (simp; omega)) (by first | omega | (simp; omega))) ?_
    refine WPl.v rfl (o_fldq F78_3 rfl (lx rfl)) ?_
    refine WPl.v rfl (o_lde S3 rfl (lx rfl) (strI rfl)) ?_
    have h4 := Pig.bnds (hp.at (show i < f.shop.pigs.length by omega))
    have h5 := hsb i (by omega)
    have h6 := mulb (A := 5) (B := 99) h3.1 h3.2 h4.2.2.2.2.2.2.1 h4.2.2.2.2.2.2.2.1
    refine WPl.v rfl (o_mul rfl rfl (by first | omega | (simp; omega)) (by first | omega | (simp; omega))) ?_
    refine WPl.v rfl (o_add rfl rfl (by first | omega | (simp; omega)) (by first | omega | (simp; omega))) ?_
    refine WPl.v rfl (o_assign rfl) ?_
    refine WPl.nil ?_
    refine EX.blk ?_
    refine EX.then ?_
    refine WP.region ?_
    refine WPl.v rfl (o_add rfl rfl (by first | omega | (simp; omega)) (by first | omega | (simp; omega))) ?_
    refine WPl.v rfl (o_move rfl) ?_
    refine WPl.nil ?_
    refine EX.again (i + 1) id (by first | omega | (constructor <;> omega)) (by omega) (LeR.of ⟨rfl, rfl, rfl, rfl, rfl, rfl, rfl, rfl, trivial⟩ ⟨(lx rfl), (lx rfl), trivial⟩ ⟨rfl, rfl, trivial⟩ rfl rfl rfl rfl rfl)
  · try simp only [decide_eq_true_eq, decide_eq_false_iff_not, Bool.and_eq_true, Bool.or_eq_true, Bool.and_eq_false_iff, Bool.or_eq_false_iff, Bool.not_eq_true', Bool.not_eq_false', ne_eq, Decidable.not_not] at hc1
    refine WP.exit ?_
    refine EX.exit_then ?_
    refine EX.exit_then ?_
    refine EX.exit_blk ?_
    refine EX.then ?_
    refine WP.seq ?_
    refine WP.region ?_
    refine WPl.v rfl (o_ldpa G110 rfl rfl rfl) ?_
    refine WPl.v rfl (o_move rfl) ?_
    refine WPl.s1 (o_stag G110 rfl rfl rfl ⟨rfl, rfl, rfl, rfl, trivial⟩ rfl rfl) ?_
    refine WPl.v rfl (o_assign rfl) ?_
    refine WPl.nil ?_
    refine EX.then ?_
    refine WP.ret ?_
    have he : i = row.length := by omega
    subst he
    exact EX.fin id (.inl rfl) rfl (.cellg G110 rfl rfl rfl (.tmp rfl .nil)) rfl (by simp [SV.res, El.res, At.res, keys]) trivial (by simp) (by simp)
end Go.Flong
