/- Walks (printed by gen.py off the specs). -/
import Derived.Test.YtglbnodjcngefaaHW4
import Derived.Test.YtglbnodjcngefaaBase3
import Derived.Test.YtglbnodjcngefaaProg
set_option linter.unusedSimpArgs false
set_option linter.unusedVariables false
namespace Go.Flong
open Go Go.Eng Go.Proofs
theorem e84 : Enters' Try.prog 84 := Try.call84
theorem e79 : Enters' Try.prog 79 := Try.call79
theorem Z105 : Zero Try.prog 105 [ai (0), ai (0), ai (0), ai (0), ai (0), ai (0), ai (0)] := .mk Try.zeroValue105 rfl rfl
theorem Z110 : Zero Try.prog 110 [ai (0), ai (0), ai (0), ai (0)] := .mk Try.zeroValue110 rfl rfl
theorem F100_0 : Fld Try.prog 100 0 0 := .mk Try.underlying100 rfl rfl rfl Try.sizeOf31 rfl
theorem A110 : IsArr Try.prog 110 3 4 := ⟨Try.underlying110, Try.sizeOf3⟩
theorem B105 : BldT Try.prog 105 [(0, 1), (1, 2), (3, 2), (5, 2)] [.int .i64 0, .int .i64 0, .int .i64 0, .int .i64 0, .int .i64 0, .int .i64 0, .int .i64 0] := BldT.mk (ns := [1, 2, 2, 2]) Try.underlying105 ⟨Try.sizeOf3, Try.sizeOf23, Try.sizeOf23, Try.sizeOf23, trivial⟩ rfl Try.zeroValue105 rfl
theorem G110 : TyG Try.prog 110 4 := ⟨Try.isAgg110, Try.sizeOf110⟩
theorem G105 : TyG Try.prog 105 7 := ⟨Try.isAgg105, Try.sizeOf105⟩
theorem F105_0 : Fld Try.prog 105 0 0 := .mk Try.underlying105 rfl rfl rfl Try.sizeOf3 rfl
theorem F105_1 : Fld Try.prog 105 1 1 := .mk Try.underlying105 rfl rfl rfl Try.sizeOf23 rfl
theorem e137 : Enters' Try.prog 137 := Try.call137
theorem F105_2 : Fld Try.prog 105 2 3 := .mk Try.underlying105 rfl rfl rfl Try.sizeOf23 rfl
theorem F105_3 : Fld Try.prog 105 3 5 := .mk Try.underlying105 rfl rfl rfl Try.sizeOf23 rfl
theorem S95 : TyS Try.prog 95 := ⟨Try.isAgg95, Try.sizeOf95⟩
theorem e88 : Enters' Try.prog 88 := Try.call88
theorem S32 : TyS Try.prog 32 := ⟨Try.isAgg32, Try.sizeOf32⟩
theorem e129 : Enters' Try.prog 129 := Try.call129
theorem e130 : Enters' Try.prog 130 := Try.call130
theorem e128 : Enters' Try.prog 128 := Try.call128
theorem w137 {a b n : Int} : ∀ x ∈ ([.e (.g [ai (a), ai (b)]), .i (n)] : List SV), x.res (keys (α := Pred) []) := by simp [SV.res, El.res, At.res, keys]
theorem r137 {a b n : Int} : SV.res (keys (α := Pred) []) (.e (.g [ai (a + n), ai (b + n)])) := by simp [SV.res, El.res, At.res, keys]
set_option maxHeartbeats 4000000 in
theorem c137 (a b n : Int) (h1 : -1000000000 ≤ a ∧ a ≤ 1000000000) (h2 : -1000000000 ≤ b ∧ b ≤ 1000000000) (h3 : -1000000000 ≤ n ∧ n ≤ 1000000000) : Sig Try.prog 137 [.e (.g [ai (a), ai (b)]), .i (n)] [] (.e (.g [ai (a + n), ai (b + n)])) [] := by
  refine Sig.intro Try.func137 rfl 0 [(0, .e (.g [ai (a), ai (b)])), (1, .i (n))] rfl w137 rfl rfl fun I w => ?_
  refine WP.seq ?_
  refine WP.region ?_
  refine WPl.l 0 1 rfl rfl rfl (o_boxg rfl) ?_
  refine WPl.l 1 2 rfl rfl rfl (o_alloc Z23) ?_
  refine WPl.nil ?_
  refine EX.then ?_
  refine WP.seq ?_
  refine WP.region ?_
  refine WPl.v rfl (o_fldp F23_0 rfl) ?_
  refine WPl.v rfl (o_ldp S3 rfl rfl rfl) ?_
  refine WPl.v rfl (o_move rfl) ?_
  refine WPl.v rfl (o_add rfl rfl (by first | omega | (simp; omega)) (by first | omega | (simp; omega))) ?_
  refine WPl.v rfl (o_fldp F23_1 rfl) ?_
  refine WPl.v rfl (o_ldp S3 rfl rfl rfl) ?_
  refine WPl.v rfl (o_move rfl) ?_
  refine WPl.v rfl (o_add rfl rfl (by first | omega | (simp; omega)) (by first | omega | (simp; omega))) ?_
  refine WPl.v rfl (o_build B23 rfl ⟨rfl, rfl, trivial⟩ rfl rfl) ?_
  refine WPl.s1 (o_stag G23 rfl rfl rfl ⟨rfl, rfl, trivial⟩ rfl rfl) ?_
  refine WPl.nil ?_
  refine EX.then ?_
  refine WP.ret ?_
  exact EX.fin id (.inl rfl) rfl (.cellg G23 rfl rfl rfl (.nil)) rfl r137 trivial (by simp) (by simp)
theorem w21 {f : Fnd} : ∀ x ∈ ([.e (.g [ai (f.shop.pounds), ai (f.shop.tl), ai (f.shop.th), ai (f.shop.al), ai (f.shop.ah), ai (f.shop.room), ai (f.shop.tpl), ai (f.shop.tph), ai (f.shop.apl), ai (f.shop.aph), .q 0, .q 1])] : List SV), x.res (keys (α := Pred) [(0, PL EPig (f.shop.pigs)), (1, PL ENight (f.nights))]) := by simp [SV.res, El.res, At.res, keys]
theorem r21 {f : Fnd} : SV.res (keys (α := Pred) []) (.i (errW f.chk)) := by simp [SV.res, El.res, At.res, keys]
set_option maxHeartbeats 4000000 in
theorem c21 (f : Fnd) (hl : f.shop.pigs.length ≤ 40) : Sig Try.prog 21 [.e (.g [ai (f.shop.pounds), ai (f.shop.tl), ai (f.shop.th), ai (f.shop.al), ai (f.shop.ah), ai (f.shop.room), ai (f.shop.tpl), ai (f.shop.tph), ai (f.shop.apl), ai (f.shop.aph), .q 0, .q 1])] [(0, PL EPig (f.shop.pigs)), (1, PL ENight (f.nights))] (.i (errW f.chk)) [] := by
  refine Sig.intro Try.func21 rfl 2 [(0, .e (.g [ai (f.shop.pounds), ai (f.shop.tl), ai (f.shop.th), ai (f.shop.al), ai (f.shop.ah), ai (f.shop.room), ai (f.shop.tpl), ai (f.shop.tph), ai (f.shop.apl), ai (f.shop.aph), .q 0, .q 1]))] rfl w21 rfl rfl fun I w => ?_
  refine WP.seq ?_
  refine WP.region ?_
  refine WPl.l 2 3 rfl rfl rfl (o_boxg rfl) ?_
  refine WPl.v rfl (o_assign rfl) ?_
  refine WPl.nil ?_
  refine EX.then ?_
  refine WP.seq ?_
  refine WP.seq ?_
  refine WP.region ?_
  refine WPl.v rfl (o_fldp F31_0 rfl) ?_
  refine WPl.v rfl (o_ldpg G28 rfl rfl rfl) ?_
  refine WPl.cs 3 rfl rfl rfl rfl (o_sig 3 (ren [(0, 0)]) (c84 f.shop hl) e84 rfl rfl rfl w84 ⟨(lx rfl), trivial⟩ r84) ?_
  refine WPl.v rfl (o_neq rfl rfl) ?_
  refine WPl.v rfl (o_move rfl) ?_
  refine WPl.bit 3 4 (!(decide ((errM f.shop.chk) ≠ 0))) rfl rfl ?_
  refine WPl.gv 3 rfl rfl (.plain rfl (by simp) rfl) (fun hb => o_fldp F31_1 rfl) ?_
  refine WPl.gv 3 rfl rfl (.plain rfl (by simp) rfl) (fun hb => o_ldp S29 rfl rfl rfl) ?_
  refine WPl.gv 3 rfl rfl (.plain rfl (by simp) rfl) (fun hb => o_lenq L29 rfl (lx rfl)) ?_
  refine WPl.gv 3 rfl rfl (.plain rfl (by simp) rfl) (fun hb => o_gtr rfl rfl) ?_
  refine WPl.v rfl (o_or rfl rfl rfl (by first | (simp; done) | simp_all)) ?_
  refine WPl.nil ?_
  refine EX.then ?_
  refine WP.cond rfl (fun hc1 => ?_) (fun hc1 => ?_)
  · try simp only [decide_eq_true_eq, decide_eq_false_iff_not, Bool.and_eq_true, Bool.or_eq_true, Bool.and_eq_false_iff, Bool.or_eq_false_iff, Bool.not_eq_true', Bool.not_eq_false', ne_eq, Decidable.not_not] at hc1
    refine WP.seq ?_
    refine WP.region ?_
    refine WPl.v rfl (o_assign rfl) ?_
    refine WPl.nil ?_
    refine EX.then ?_
    refine WP.ret ?_
    refine EX.ret_then ?_
    rw [show errW f.chk = 130 from by simp [errM_eq] at hc1; simp only [errW, Fnd.chk]; rcases hc1 with h | h; simp [h]; simp [show ¬ ((f.nights.length : Int) ≤ 4) by omega]]
    exact EX.fin id (.inl rfl) rfl (.tmp rfl .nil) rfl (by simp [SV.res, El.res, At.res, keys]) trivial (by simp) (by simp)
  · try simp only [decide_eq_true_eq, decide_eq_false_iff_not, Bool.and_eq_true, Bool.or_eq_true, Bool.and_eq_false_iff, Bool.or_eq_false_iff, Bool.not_eq_true', Bool.not_eq_false', ne_eq, Decidable.not_not] at hc1
    refine WP.skip ?_
    refine EX.then ?_
    refine WP.seq ?_
    refine WP.region ?_
    refine WPl.v rfl (o_assign rfl) ?_
    refine WPl.nil ?_
    refine EX.then ?_
    refine WP.seq ?_
    refine WP.seq ?_
    refine WP.region ?_
    refine WPl.v rfl (o_fldp F31_1 rfl) ?_
    refine WPl.v rfl (o_ldp S29 rfl rfl rfl) ?_
    refine WPl.v rfl (o_lenq L29 rfl (lx rfl)) ?_
    refine WPl.v rfl (o_move rfl) ?_
    refine WPl.nil ?_
    refine EX.then ?_
    refine WP.block ?_
    refine WP.loop (Gh := Nat) (fun i => ⟨4, [(1, .e (.a (.p 2 (0)))), (2, .i (0)), (3, .i (hiTo f.nights i)), (17, .e (.a (.q 1))), (18, .i ((f.nights.length : Int))), (19, .i ((i : Int)))], [(0, PL EPig (f.shop.pigs)), (1, PL ENight (f.nights))], [(2, .blk [ai (f.shop.pounds), ai (f.shop.tl), ai (f.shop.th), ai (f.shop.al), ai (f.shop.ah), ai (f.shop.room), ai (f.shop.tpl), ai (f.shop.tph), ai (f.shop.apl), ai (f.shop.aph), .q 0, .q 1] 31)], [], []⟩) (fun i => i ≤ f.nights.length ∧ allTo Night.chk f.nights i = true) (fun i => f.nights.length - i) (0) id ?_ (LeR.of ⟨rfl, rfl, rfl, rfl, rfl, rfl, trivial⟩ ⟨(lx rfl), (lx rfl), trivial⟩ ⟨rfl, trivial⟩ rfl rfl rfl rfl rfl) ?_
    · exact ⟨by omega, rfl⟩
    intro i hφ
    obtain ⟨hi, hall⟩ := hφ; have hb := hiTo_bnd hall; have hok : f.shop.chk = true ∧ (f.nights.length : Int) ≤ 4 := by (simp [errM_eq] at hc1); exact hc1
    refine WP.seq ?_
    refine WP.region ?_
    refine WPl.v rfl (o_lss rfl rfl) ?_
    refine WPl.nil ?_
    refine EX.then ?_
    refine WP.seq ?_
    refine WP.cond rfl (fun hc2 => ?_) (fun hc2 => ?_)
    · try simp only [decide_eq_true_eq, decide_eq_false_iff_not, Bool.and_eq_true, Bool.or_eq_true, Bool.and_eq_false_iff, Bool.or_eq_false_iff, Bool.not_eq_true', Bool.not_eq_false', ne_eq, Decidable.not_not] at hc2
      refine WP.skip ?_
      refine EX.then ?_
      refine WP.seq ?_
      refine WP.block ?_
      refine WP.seq ?_
      refine WP.region ?_
      refine WPl.x 4 5 rfl rfl rfl (o_idx L29 rfl (lx rfl) rfl (by first | omega | (simp; omega)) (by first | omega | (simp; omega))) ?_
      refine WPl.v rfl (o_ldqg G75 rfl (lx rfl) (strG rfl) rfl rfl) ?_
      refine WPl.l 5 6 rfl rfl rfl (o_alloc Z75) ?_
      refine WPl.s1 (o_stag G75 rfl rfl rfl ⟨rfl, rfl, rfl, trivial⟩ rfl rfl) ?_
      refine WPl.nil ?_
      refine EX.then ?_
      refine WP.seq ?_
      refine WP.seq ?_
      refine WP.region ?_
      refine WPl.v rfl (o_fldp F75_0 rfl) ?_
      refine WPl.v rfl (o_fldp F23_1 rfl) ?_
      refine WPl.v rfl (o_ldp S3 rfl rfl rfl) ?_
      refine WPl.cs 6 rfl rfl rfl rfl (o_sig 6 id (c79 ((nth f.nights (i : Int)).hi) 0 9) e79 rfl rfl rfl w79 trivial r79) ?_
      refine WPl.v rfl (o_not rfl) ?_
      refine WPl.v rfl (o_move rfl) ?_
      refine WPl.bit 6 7 (!(!(within ((nth f.nights (i : Int)).hi) 0 9))) rfl rfl ?_
      refine WPl.gv 6 rfl rfl (.plain rfl (by simp) rfl) (fun hb => o_fldp F75_0 rfl) ?_
      refine WPl.gv 6 rfl rfl (.plain rfl (by simp) rfl) (fun hb => o_fldp F23_0 rfl) ?_
      refine WPl.gv 6 rfl rfl (.plain rfl (by simp) rfl) (fun hb => o_ldp S3 rfl rfl rfl) ?_
      refine WPl.gv 6 rfl rfl (.plain rfl (by simp) rfl) (fun hb => o_fldp F75_0 rfl) ?_
      refine WPl.gv 6 rfl rfl (.plain rfl (by simp) rfl) (fun hb => o_fldp F23_1 rfl) ?_
      refine WPl.gv 6 rfl rfl (.plain rfl (by simp) rfl) (fun hb => o_ldp S3 rfl rfl rfl) ?_
      refine WPl.gc0 6 rfl rfl (.plain rfl (by simp) rfl) (fun hb => o_sig 7 id (c79 ((nth f.nights (i : Int)).lo) 0 ((nth f.nights (i : Int)).hi)) e79 rfl rfl rfl w79 trivial r79) ?_
      refine WPl.gv 6 rfl rfl (.plain rfl (by simp) rfl) (fun hb => o_not rfl) ?_
      refine WPl.v rfl (o_or rfl rfl rfl (by first | (simp; done) | simp_all)) ?_
      refine WPl.v rfl (o_move rfl) ?_
      refine WPl.bit 7 8 (!((!(within ((nth f.nights (i : Int)).hi) 0 9)) || (!(within ((nth f.nights (i : Int)).lo) 0 ((nth f.nights (i : Int)).hi))))) rfl rfl ?_
      refine WPl.gv 7 rfl rfl (.plain rfl (by simp) rfl) (fun hb => o_fldp F75_1 rfl) ?_
      refine WPl.gv 7 rfl rfl (.plain rfl (by simp) rfl) (fun hb => o_ldp S3 rfl rfl rfl) ?_
      refine WPl.gc0 7 rfl rfl (.plain rfl (by simp) rfl) (fun hb => o_sig 8 id (c79 ((nth f.nights (i : Int)).test) 0 1) e79 rfl rfl rfl w79 trivial r79) ?_
      refine WPl.gv 7 rfl rfl (.plain rfl (by simp) rfl) (fun hb => o_not rfl) ?_
      refine WPl.v rfl (o_or rfl rfl rfl (by first | (simp; done) | simp_all)) ?_
      refine WPl.nil ?_
      refine EX.then ?_
      refine WP.cond rfl (fun hc3 => ?_) (fun hc3 => ?_)
      · try simp only [decide_eq_true_eq, decide_eq_false_iff_not, Bool.and_eq_true, Bool.or_eq_true, Bool.and_eq_false_iff, Bool.or_eq_false_iff, Bool.not_eq_true', Bool.not_eq_false', ne_eq, Decidable.not_not] at hc3
        refine WP.seq ?_
        refine WP.region ?_
        refine WPl.v rfl (o_assign rfl) ?_
        refine WPl.nil ?_
        refine EX.then ?_
        refine WP.ret ?_
        refine EX.ret_then ?_
        refine EX.ret_blk ?_
        refine EX.ret_then ?_
        refine EX.ret_then ?_
        refine EX.ret_blk ?_
        refine EX.ret_then ?_
        have hn : (nth f.nights i).chk = false := by simp [Night.chk, isSpan]; (try simp at hc3); grind
        rw [show errW f.chk = 130 from by simp [errW, Fnd.chk, not_all (show i < f.nights.length by omega) hn]]
        exact EX.fin id (.inl rfl) rfl (.tmp rfl .nil) rfl (by simp [SV.res, El.res, At.res, keys]) trivial (by simp) (by simp)
      · try simp only [decide_eq_true_eq, decide_eq_false_iff_not, Bool.and_eq_true, Bool.or_eq_true, Bool.and_eq_false_iff, Bool.or_eq_false_iff, Bool.not_eq_true', Bool.not_eq_false', ne_eq, Decidable.not_not] at hc3
        refine WP.skip ?_
        refine EX.then ?_
        refine WP.region ?_
        refine WPl.v rfl (o_move rfl) ?_
        refine WPl.v rfl (o_fldp F75_0 rfl) ?_
        refine WPl.v rfl (o_fldp F23_1 rfl) ?_
        refine WPl.v rfl (o_ldp S3 rfl rfl rfl) ?_
        have hn : (nth f.nights i).chk = true := by simp [Night.chk, isSpan]; simpa using hc3
        have hnb := Night.bnds hn
        refine WPl.v rfl (o_add rfl rfl (by first | omega | (simp; omega)) (by first | omega | (simp; omega))) ?_
        refine WPl.v rfl (o_assign rfl) ?_
        refine WPl.nil ?_
        refine EX.blk ?_
        refine EX.then ?_
        refine WP.region ?_
        refine WPl.v rfl (o_add rfl rfl (by first | omega | (simp; omega)) (by first | omega | (simp; omega))) ?_
        refine WPl.v rfl (o_move rfl) ?_
        refine WPl.nil ?_
        have hn : (nth f.nights i).chk = true := by simp [Night.chk, isSpan]; simpa using hc3
        refine EX.again (i + 1) id (by exact ⟨by omega, by simp [allTo, hall, hn]⟩) (by omega) (LeR.of ⟨rfl, rfl, rfl, rfl, rfl, rfl, trivial⟩ ⟨(lx rfl), (lx rfl), trivial⟩ ⟨rfl, trivial⟩ rfl rfl rfl rfl rfl)
    · try simp only [decide_eq_true_eq, decide_eq_false_iff_not, Bool.and_eq_true, Bool.or_eq_true, Bool.and_eq_false_iff, Bool.or_eq_false_iff, Bool.not_eq_true', Bool.not_eq_false', ne_eq, Decidable.not_not] at hc2
      refine WP.exit ?_
      refine EX.exit_then ?_
      refine EX.exit_then ?_
      refine EX.exit_blk ?_
      refine EX.then ?_
      refine WP.seq ?_
      refine WP.seq ?_
      refine WP.region ?_
      refine WPl.v rfl (o_move rfl) ?_
      refine WPl.v rfl (o_fldp F31_0 rfl) ?_
      refine WPl.v rfl (o_fldp F28_0 rfl) ?_
      refine WPl.v rfl (o_fldp F25_1 rfl) ?_
      refine WPl.v rfl (o_fldp F23_0 rfl) ?_
      refine WPl.v rfl (o_ldp S3 rfl rfl rfl) ?_
      refine WPl.v rfl (o_gtr rfl rfl) ?_
      refine WPl.nil ?_
      refine EX.then ?_
      refine WP.cond rfl (fun hc4 => ?_) (fun hc4 => ?_)
      · try simp only [decide_eq_true_eq, decide_eq_false_iff_not, Bool.and_eq_true, Bool.or_eq_true, Bool.and_eq_false_iff, Bool.or_eq_false_iff, Bool.not_eq_true', Bool.not_eq_false', ne_eq, Decidable.not_not] at hc4
        refine WP.seq ?_
        refine WP.region ?_
        refine WPl.v rfl (o_assign rfl) ?_
        refine WPl.nil ?_
        refine EX.then ?_
        refine WP.ret ?_
        refine EX.ret_then ?_
        have hi2 : i = f.nights.length := by omega
        subst hi2
        rw [show errW f.chk = 130 from by simp only [errW, Fnd.chk]; simp [show ¬ (hiTo f.nights f.nights.length ≤ f.shop.tl) by omega]]
        exact EX.fin id (.inl rfl) rfl (.tmp rfl .nil) rfl (by simp [SV.res, El.res, At.res, keys]) trivial (by simp) (by simp)
      · try simp only [decide_eq_true_eq, decide_eq_false_iff_not, Bool.and_eq_true, Bool.or_eq_true, Bool.and_eq_false_iff, Bool.or_eq_false_iff, Bool.not_eq_true', Bool.not_eq_false', ne_eq, Decidable.not_not] at hc4
        refine WP.skip ?_
        refine EX.then ?_
        refine WP.seq ?_
        refine WP.region ?_
        refine WPl.v rfl (o_assign rfl) ?_
        refine WPl.nil ?_
        refine EX.then ?_
        refine WP.ret ?_
        have hi2 : i = f.nights.length := by omega
        subst hi2
        rw [allTo_len] at hall
        rw [show errW f.chk = 0 from by simp only [errW, Fnd.chk]; simp [hok, hall, show hiTo f.nights f.nights.length ≤ f.shop.tl by omega]]
        exact EX.fin id (.inl rfl) rfl (.tmp rfl .nil) rfl (by simp [SV.res, El.res, At.res, keys]) trivial (by simp) (by simp)
theorem w88 {f : Fnd} {r : Option Nat} : ∀ x ∈ ([.e (.a (.q 0))] : List SV), x.res (keys (α := Pred) [(0, PP (EWk r) (f))]) := by simp [SV.res, El.res, At.res, keys]
theorem r88 {f : Fnd} : SV.res (keys (α := Pred) []) (.t [.g [ai (f.pt0.pounds), ai (f.pt0.tl), ai (f.pt0.th), ai (f.pt0.al), ai (f.pt0.ah), ai (f.pt0.dl), ai (f.pt0.dh)], .g [ai (nth (left0 f.shop.pigs) 0), ai (nth (left0 f.shop.pigs) 1), ai (nth (left0 f.shop.pigs) 2), ai (nth (left0 f.shop.pigs) 3)]]) := by simp [SV.res, El.res, At.res, keys]
set_option maxHeartbeats 4000000 in
theorem c88 (f : Fnd) (r : Option Nat) (hl : f.shop.pigs.length ≤ 4) : Sig Try.prog 88 [.e (.a (.q 0))] [(0, PP (EWk r) (f))] (.t [.g [ai (f.pt0.pounds), ai (f.pt0.tl), ai (f.pt0.th), ai (f.pt0.al), ai (f.pt0.ah), ai (f.pt0.dl), ai (f.pt0.dh)], .g [ai (nth (left0 f.shop.pigs) 0), ai (nth (left0 f.shop.pigs) 1), ai (nth (left0 f.shop.pigs) 2), ai (nth (left0 f.shop.pigs) 3)]]) [] := by
  have hll := leftTo_len f.shop.pigs
  refine Sig.intro Try.func88 rfl 1 [(0, .e (.a (.q 0)))] rfl w88 rfl rfl fun I w => ?_
  refine WP.seq ?_
  refine WP.region ?_
  refine WPl.l 1 2 rfl rfl rfl (o_alloc Z105) ?_
  refine WPl.l 2 3 rfl rfl rfl (o_alloc Z110) ?_
  refine WPl.nil ?_
  refine EX.then ?_
  refine WP.seq ?_
  refine WP.seq ?_
  refine WP.region ?_
  refine WPl.v rfl (o_move rfl) ?_
  refine WPl.v rfl (o_nilq rfl (lx rfl)) ?_
  refine WPl.v rfl (o_fldq F100_0 rfl (lx rfl)) ?_
  refine WPl.v rfl (o_flde F31_0 rfl (lx rfl)) ?_
  refine WPl.v rfl (o_flde F28_4 rfl (lx rfl)) ?_
  refine WPl.x 3 4 rfl rfl rfl (o_ldex S26 rfl (lx rfl) (strS rfl)) ?_
  refine WPl.v rfl (o_lenq L26 rfl (lx rfl)) ?_
  refine WPl.v rfl (o_move rfl) ?_
  refine WPl.nil ?_
  refine EX.then ?_
  refine WP.block ?_
  refine WP.loop (Gh := Nat) (fun i => ⟨4, [(0, .e (.a (.q 0))), (2, .e (.a (.p 1 (0)))), (3, .e (.a (.p 2 (0)))), (11, .e (.a (.q 3))), (12, .i ((f.shop.pigs.length : Int))), (13, .i ((i : Int)))], [(0, PP (EWk r) (f)), (3, PL EPig (f.shop.pigs))], [(1, .blk [ai (0), ai (0), ai (0), ai (0), ai (0), ai (0), ai (0)] 105), (2, .blk [ai (nth (leftTo f.shop.pigs i) 0), ai (nth (leftTo f.shop.pigs i) 1), ai (nth (leftTo f.shop.pigs i) 2), ai (nth (leftTo f.shop.pigs i) 3)] 110)], [], []⟩) (fun i => i ≤ f.shop.pigs.length) (fun i => f.shop.pigs.length - i) (0) id ?_ (LeR.of ⟨rfl, rfl, rfl, rfl, rfl, rfl, trivial⟩ ⟨(lx rfl), (lx rfl), trivial⟩ ⟨rfl, rfl, trivial⟩ rfl rfl rfl rfl rfl) ?_
  · first | trivial | omega | (constructor <;> omega) | simp
  intro i hφ
  have hi : i ≤ f.shop.pigs.length := hφ
  refine WP.seq ?_
  refine WP.region ?_
  refine WPl.v rfl (o_lss rfl rfl) ?_
  refine WPl.nil ?_
  refine EX.then ?_
  refine WP.seq ?_
  refine WP.cond rfl (fun hc1 => ?_) (fun hc1 => ?_)
  · try simp only [decide_eq_true_eq, decide_eq_false_iff_not, Bool.and_eq_true, Bool.or_eq_true, Bool.and_eq_false_iff, Bool.or_eq_false_iff, Bool.not_eq_true', Bool.not_eq_false', ne_eq, Decidable.not_not] at hc1
    refine WP.skip ?_
    refine EX.then ?_
    refine WP.seq ?_
    refine WP.block ?_
    refine WP.seq ?_
    refine WP.region ?_
    refine WPl.v rfl (o_move rfl) ?_
    refine WPl.x 4 5 rfl rfl rfl (o_idx L26 rfl (lx rfl) rfl (by first | omega | (simp; omega)) (by first | omega | (simp; omega))) ?_
    refine WPl.v rfl (o_ldqg G78 rfl (lx rfl) (strG rfl) rfl rfl) ?_
    refine WPl.l 5 6 rfl rfl rfl (o_alloc Z78) ?_
    refine WPl.v rfl (o_assign rfl) ?_
    refine WPl.s1 (o_stag G78 rfl rfl rfl ⟨rfl, rfl, rfl, rfl, rfl, trivial⟩ rfl rfl) ?_
    refine WPl.nil ?_
    refine EX.then ?_
    refine WP.region ?_
    refine WPl.v rfl (o_move rfl) ?_
    refine WPl.v rfl (o_fldp F78_4 rfl) ?_
    refine WPl.v rfl (o_ldp S3 rfl rfl rfl) ?_
    refine WPl.v rfl (o_idxp A110 rfl rfl (by first | omega | (simp; omega)) (by first | omega | (simp; omega))) ?_
    refine WPl.s1 (o_stpn (n := 4) (l := leftTo f.shop.pigs i) (cs' := [ai (nth (lset (leftTo f.shop.pigs i) (i : Int) ((nth f.shop.pigs (i : Int)).many)) 0), ai (nth (lset (leftTo f.shop.pigs i) (i : Int) ((nth f.shop.pigs (i : Int)).many)) 1), ai (nth (lset (leftTo f.shop.pigs i) (i : Int) ((nth f.shop.pigs (i : Int)).many)) 2), ai (nth (lset (leftTo f.shop.pigs i) (i : Int) ((nth f.shop.pigs (i : Int)).many)) 3)]) S3 rfl rfl rfl rfl rfl (hll i) (by first | omega | (simp; omega)) (by first | omega | (simp; omega))) ?_
    refine WPl.nil ?_
    refine EX.blk ?_
    refine EX.then ?_
    refine WP.region ?_
    refine WPl.v rfl (o_add rfl rfl (by first | omega | (simp; omega)) (by first | omega | (simp; omega))) ?_
    refine WPl.v rfl (o_move rfl) ?_
    refine WPl.nil ?_
    refine EX.again (i + 1) id (by first | omega | (constructor <;> omega)) (by omega) (LeR.of ⟨rfl, rfl, rfl, rfl, rfl, rfl, trivial⟩ ⟨(lx rfl), (lx rfl), trivial⟩ ⟨rfl, rfl, trivial⟩ rfl rfl rfl rfl rfl)
  · try simp only [decide_eq_true_eq, decide_eq_false_iff_not, Bool.and_eq_true, Bool.or_eq_true, Bool.and_eq_false_iff, Bool.or_eq_false_iff, Bool.not_eq_true', Bool.not_eq_false', ne_eq, Decidable.not_not] at hc1
    refine WP.exit ?_
    refine EX.exit_then ?_
    refine EX.exit_then ?_
    refine EX.exit_blk ?_
    refine EX.then ?_
    refine WP.seq ?_
    refine WP.draw (nf := 4) [⟨[30, 31, 32, 33, 34, 35, 36, 37, 38, 39, 40, 41, 42, 43, 45], [], [], [], []⟩, ⟨[30, 31, 32, 33, 34, 35, 36, 37, 38, 39, 40, 41, 42, 43, 45], [], [], [], [0]⟩, ⟨[30, 31, 32, 33, 34, 35, 36, 37, 38, 39, 40, 41, 42, 43, 45], [], [], [], [0, 1]⟩, ⟨[30, 31, 32, 33, 34, 35, 36, 37, 38, 39, 40, 41, 42, 43, 45], [], [], [], [0, 1, 2]⟩, ⟨[30, 31, 32, 33, 34, 35, 36, 37, 38, 39, 40, 41, 42, 43, 45], [], [], [], [0, 1, 2, 3]⟩, ⟨[30, 31, 32, 33, 34, 35, 36, 37, 38, 39, 40, 41, 42, 43, 45], [], [], [], [0, 1, 2, 3, 4]⟩, ⟨[30, 31, 32, 33, 34, 35, 36, 37, 38, 39, 40, 41, 42, 43, 45], [], [], [], [0, 1, 2, 3, 4, 5]⟩, ⟨[23, 24, 25, 26, 27, 28, 29, 37, 38, 39, 40, 41, 42, 43, 45], [], [], [], []⟩, ⟨[23, 24, 25, 26, 27, 28, 29, 37, 38, 39, 40, 41, 42, 43, 45], [], [], [], [7]⟩, ⟨[23, 24, 25, 26, 27, 28, 29, 37, 38, 39, 40, 41, 42, 43, 45], [], [], [], [7, 8]⟩, ⟨[23, 24, 25, 26, 27, 28, 29, 37, 38, 39, 40, 41, 42, 43, 45], [], [], [], [7, 8, 9]⟩, ⟨[23, 24, 25, 26, 27, 28, 29, 37, 38, 39, 40, 41, 42, 43, 45], [], [], [], [7, 8, 9, 10]⟩, ⟨[23, 24, 25, 26, 27, 28, 29, 37, 38, 39, 40, 41, 42, 43, 45], [], [], [], [7, 8, 9, 10, 11]⟩, ⟨[23, 24, 25, 26, 27, 28, 29, 37, 38, 39, 40, 41, 42, 43, 45], [], [], [], [7, 8, 9, 10, 11, 12]⟩, ⟨[23, 24, 25, 26, 27, 28, 29, 30, 31, 32, 33, 34, 35, 36, 45], [], [], [], []⟩, ⟨[23, 24, 25, 26, 27, 28, 29, 30, 31, 32, 33, 34, 35, 36, 45], [], [], [], [14]⟩, ⟨[23, 24, 25, 26, 27, 28, 29, 30, 31, 32, 33, 34, 35, 36, 45], [], [], [], [14, 15]⟩, ⟨[23, 24, 25, 26, 27, 28, 29, 30, 31, 32, 33, 34, 35, 36, 45], [], [], [], [14, 15, 16]⟩, ⟨[23, 24, 25, 26, 27, 28, 29, 30, 31, 32, 33, 34, 35, 36, 45], [], [], [], [14, 15, 16, 17]⟩, ⟨[23, 24, 25, 26, 27, 28, 29, 30, 31, 32, 33, 34, 35, 36, 45], [], [], [], [14, 15, 16, 17, 18]⟩, ⟨[23, 24, 25, 26, 27, 28, 29, 30, 31, 32, 33, 34, 35, 36, 45], [], [], [], [14, 15, 16, 17, 18, 19]⟩, ⟨[45], [], [], [], [0, 1, 2, 3, 4, 5, 6, 7, 8, 9, 10, 11, 12, 13, 14, 15, 16, 17, 18, 19, 20]⟩, ⟨[23, 24, 25, 26, 27, 28, 29, 30, 31, 32, 33, 34, 35, 36, 37, 38, 39, 40, 41, 42, 43, 44], [1], [], [], []⟩, ⟨[45], [], [], [1], [0, 1, 2, 3, 4, 5, 6, 7, 8, 9, 10, 11, 12, 13, 14, 15, 16, 17, 18, 19, 20, 21]⟩, ⟨[], [], [], [2], [0, 1, 2, 3, 4, 5, 6, 7, 8, 9, 10, 11, 12, 13, 14, 15, 16, 17, 18, 19, 20, 21, 22, 23]⟩] (by kernel_rfl) (by kernel_rfl) ?_
    refine DRQ.v rfl rfl rfl (o_move rfl) ?_
    refine DRQ.v rfl rfl rfl (o_nilq rfl (lx rfl)) ?_
    refine DRQ.v rfl rfl rfl (o_fldq F100_0 rfl (lx rfl)) ?_
    refine DRQ.v rfl rfl rfl (o_flde F31_0 rfl (lx rfl)) ?_
    refine DRQ.v rfl rfl rfl (o_flde F28_0 rfl (lx rfl)) ?_
    refine DRQ.v rfl rfl rfl (o_flde F25_0 rfl (lx rfl)) ?_
    refine DRQ.v rfl rfl rfl (o_lde S3 rfl (lx rfl) (strI rfl)) ?_
    refine DRQ.v rfl rfl rfl (o_move rfl) ?_
    refine DRQ.v rfl rfl rfl (o_nilq rfl (lx rfl)) ?_
    refine DRQ.v rfl rfl rfl (o_fldq F100_0 rfl (lx rfl)) ?_
    refine DRQ.v rfl rfl rfl (o_flde F31_0 rfl (lx rfl)) ?_
    refine DRQ.v rfl rfl rfl (o_flde F28_0 rfl (lx rfl)) ?_
    refine DRQ.v rfl rfl rfl (o_flde F25_1 rfl (lx rfl)) ?_
    refine DRQ.v rfl rfl rfl (o_ldeg G23 rfl (lx rfl) (strG rfl) rfl rfl) ?_
    refine DRQ.v rfl rfl rfl (o_move rfl) ?_
    refine DRQ.v rfl rfl rfl (o_nilq rfl (lx rfl)) ?_
    refine DRQ.v rfl rfl rfl (o_fldq F100_0 rfl (lx rfl)) ?_
    refine DRQ.v rfl rfl rfl (o_flde F31_0 rfl (lx rfl)) ?_
    refine DRQ.v rfl rfl rfl (o_flde F28_0 rfl (lx rfl)) ?_
    refine DRQ.v rfl rfl rfl (o_flde F25_2 rfl (lx rfl)) ?_
    refine DRQ.v rfl rfl rfl (o_ldeg G23 rfl (lx rfl) (strG rfl) rfl rfl) ?_
    refine DRQ.v rfl rfl rfl (o_build B105 rfl ⟨rfl, trivial⟩ rfl rfl) ?_
    refine DRQ.v rfl rfl rfl (o_ldpa G110 rfl rfl rfl) ?_
    refine DRQ.s 1 rfl rfl rfl (o_stag G105 rfl rfl rfl ⟨rfl, rfl, rfl, rfl, rfl, rfl, rfl, trivial⟩ rfl rfl) ?_
    refine DRQ.s 2 rfl rfl rfl (o_stag G110 rfl rfl rfl ⟨rfl, rfl, rfl, rfl, trivial⟩ rfl rfl) ?_
    refine DRQ.nil' ?_
    refine EX.then ?_
    refine WP.ret ?_
    have he : i = f.shop.pigs.length := by omega
    subst he
    exact EX.fin id (.inl rfl) rfl (.cellg G105 rfl rfl rfl (.cellg G110 rfl rfl rfl (.nil))) rfl (by simp [SV.res, El.res, At.res, keys]) trivial (by simp) (by simp)
theorem w129 {f : Fnd} {r : Option Nat} {p : Pt} {l : List Int} : ∀ x ∈ ([.e (.a (.q 0)), .e (.g [ai (p.pounds), ai (p.tl), ai (p.th), ai (p.al), ai (p.ah), ai (p.dl), ai (p.dh)]), .e (.a (.q 1))] : List SV), x.res (keys (α := Pred) [(0, PP (EWk r) (f)), (1, PL EP.int (l))]) := by simp [SV.res, El.res, At.res, keys]
theorem r129 {f : Fnd} {p : Pt} {l : List Int} : SV.res (keys (α := Pred) []) (.e (.g [ai ((p.addL f.shop.pigs l).pounds), ai ((p.addL f.shop.pigs l).tl), ai ((p.addL f.shop.pigs l).th), ai ((p.addL f.shop.pigs l).al), ai ((p.addL f.shop.pigs l).ah), ai ((p.addL f.shop.pigs l).dl), ai ((p.addL f.shop.pigs l).dh)])) := by simp [SV.res, El.res, At.res, keys]
set_option maxHeartbeats 4000000 in
theorem c129 (f : Fnd) (r : Option Nat) (p : Pt) (l : List Int) (m : Int) (hp : PtB p m) (hm : m ≤ 100000000) (hg : PigsOK f.shop.pigs) (hl : l.length ≤ f.shop.pigs.length) (hb : bnd l 1000) : Sig Try.prog 129 [.e (.a (.q 0)), .e (.g [ai (p.pounds), ai (p.tl), ai (p.th), ai (p.al), ai (p.ah), ai (p.dl), ai (p.dh)]), .e (.a (.q 1))] [(0, PP (EWk r) (f)), (1, PL EP.int (l))] (.e (.g [ai ((p.addL f.shop.pigs l).pounds), ai ((p.addL f.shop.pigs l).tl), ai ((p.addL f.shop.pigs l).th), ai ((p.addL f.shop.pigs l).al), ai ((p.addL f.shop.pigs l).ah), ai ((p.addL f.shop.pigs l).dl), ai ((p.addL f.shop.pigs l).dh)])) [] := by
  have hab := fun i hi => addTo_bnd hp hg hl hb (i := i) hi
  have hg4 := hg.2
  have hp0 := hp
  unfold PtB at hp0
  refine Sig.intro Try.func129 rfl 2 [(0, .e (.a (.q 0))), (1, .e (.g [ai (p.pounds), ai (p.tl), ai (p.th), ai (p.al), ai (p.ah), ai (p.dl), ai (p.dh)])), (2, .e (.a (.q 1)))] rfl w129 rfl rfl fun I w => ?_
  refine WP.seq ?_
  refine WP.region ?_
  refine WPl.l 2 3 rfl rfl rfl (o_boxg rfl) ?_
  refine WPl.l 3 4 rfl rfl rfl (o_alloc Z105) ?_
  refine WPl.nil ?_
  refine EX.then ?_
  refine WP.seq ?_
  refine WP.seq ?_
  refine WP.region ?_
  refine WPl.v rfl (o_move rfl) ?_
  refine WPl.v rfl (o_lenq L44 rfl (lx rfl)) ?_
  refine WPl.v rfl (o_move rfl) ?_
  refine WPl.nil ?_
  refine EX.then ?_
  refine WP.block ?_
  refine WP.loop (Gh := Nat) (fun i => ⟨4, [(0, .e (.a (.q 0))), (4, .e (.a (.p 2 (0)))), (6, .e (.a (.p 3 (0)))), (10, .e (.a (.q 1))), (11, .i ((l.length : Int))), (12, .i ((i : Int)))], [(0, PP (EWk r) (f)), (1, PL EP.int (l))], [(2, .blk [ai ((p.addTo f.shop.pigs l i).pounds), ai ((p.addTo f.shop.pigs l i).tl), ai ((p.addTo f.shop.pigs l i).th), ai ((p.addTo f.shop.pigs l i).al), ai ((p.addTo f.shop.pigs l i).ah), ai ((p.addTo f.shop.pigs l i).dl), ai ((p.addTo f.shop.pigs l i).dh)] 105), (3, .blk [ai (0), ai (0), ai (0), ai (0), ai (0), ai (0), ai (0)] 105)], [], []⟩) (fun i => i ≤ l.length) (fun i => l.length - i) (0) id ?_ (LeR.of ⟨rfl, rfl, rfl, rfl, rfl, rfl, trivial⟩ ⟨(lx rfl), (lx rfl), trivial⟩ ⟨(congrArg (fun z => some (Ent.blk z 105)) (List.cons_eq_cons.2 ⟨(congrArg (fun z => ai z) (show (p.pounds) = ((fun i => (p.addTo f.shop.pigs l i).pounds) 0) from by simp [Pt.addTo, sumTo])), (List.cons_eq_cons.2 ⟨(congrArg (fun z => ai z) (show (p.tl) = ((fun i => (p.addTo f.shop.pigs l i).tl) 0) from by simp [Pt.addTo, sumTo])), (List.cons_eq_cons.2 ⟨(congrArg (fun z => ai z) (show (p.th) = ((fun i => (p.addTo f.shop.pigs l i).th) 0) from by simp [Pt.addTo, sumTo])), (List.cons_eq_cons.2 ⟨(congrArg (fun z => ai z) (show (p.al) = ((fun i => (p.addTo f.shop.pigs l i).al) 0) from by simp [Pt.addTo, sumTo])), (List.cons_eq_cons.2 ⟨(congrArg (fun z => ai z) (show (p.ah) = ((fun i => (p.addTo f.shop.pigs l i).ah) 0) from by simp [Pt.addTo, sumTo])), (List.cons_eq_cons.2 ⟨(Eq.refl (ai (p.dl))), (List.cons_eq_cons.2 ⟨(Eq.refl (ai (p.dh))), (Eq.refl [])⟩)⟩)⟩)⟩)⟩)⟩)⟩)), rfl, trivial⟩ rfl rfl rfl rfl rfl) ?_
  · first | trivial | omega | (constructor <;> omega) | simp
  intro i hφ
  have hi : i ≤ l.length := hφ
  refine WP.seq ?_
  refine WP.region ?_
  refine WPl.v rfl (o_lss rfl rfl) ?_
  refine WPl.nil ?_
  refine EX.then ?_
  refine WP.seq ?_
  refine WP.cond rfl (fun hc1 => ?_) (fun hc1 => ?_)
  · try simp only [decide_eq_true_eq, decide_eq_false_iff_not, Bool.and_eq_true, Bool.or_eq_true, Bool.and_eq_false_iff, Bool.or_eq_false_iff, Bool.not_eq_true', Bool.not_eq_false', ne_eq, Decidable.not_not] at hc1
    refine WP.skip ?_
    refine EX.then ?_
    refine WP.seq ?_
    refine WP.block ?_
    refine WP.seq ?_
    refine WP.region ?_
    refine WPl.v rfl (o_move rfl) ?_
    refine WPl.x 4 5 rfl rfl rfl (o_idx L44 rfl (lx rfl) rfl (by first | omega | (simp; omega)) (by first | omega | (simp; omega))) ?_
    have h0 := hab i (by omega)
    unfold PtB at h0
    have h1 := hb i (by omega)
    have h2 := Pig.bnds (hg.at (show i < f.shop.pigs.length by omega))
    have h3 := mulb (A := 1000) (B := 40) h1.1 h1.2 (show 0 ≤ (nth f.shop.pigs i).pounds by omega) (by omega)
    have h4 := mulb (A := 1000) (B := 40) h1.1 h1.2 (show 0 ≤ (nth f.shop.pigs i).tin by omega) (by omega)
    have h5 := mulb (A := 1000) (B := 40) h1.1 h1.2 (show 0 ≤ (nth f.shop.pigs i).ant by omega) (by omega)
    refine WPl.v rfl (o_ldq S3 rfl (lx rfl) intc) ?_
    refine WPl.v rfl (o_assign rfl) ?_
    refine WPl.v rfl (o_assign rfl) ?_
    refine WPl.nil ?_
    refine EX.then ?_
    refine WP.seq ?_
    refine WP.region ?_
    refine WPl.v rfl (o_move rfl) ?_
    refine WPl.v rfl (o_nilq rfl (lx rfl)) ?_
    refine WPl.v rfl (o_fldq F100_0 rfl (lx rfl)) ?_
    refine WPl.v rfl (o_flde F31_0 rfl (lx rfl)) ?_
    refine WPl.v rfl (o_flde F28_4 rfl (lx rfl)) ?_
    refine WPl.x 5 6 rfl rfl rfl (o_ldex S26 rfl (lx rfl) (strS rfl)) ?_
    refine WPl.v rfl (o_move rfl) ?_
    refine WPl.x 6 7 rfl rfl rfl (o_idx L26 rfl (lx rfl) rfl (by first | omega | (simp; omega)) (by first | omega | (simp; omega))) ?_
    refine WPl.v rfl (o_ldqg G78 rfl (lx rfl) (strG rfl) rfl rfl) ?_
    refine WPl.l 7 8 rfl rfl rfl (o_alloc Z78) ?_
    refine WPl.s1 (o_stag G78 rfl rfl rfl ⟨rfl, rfl, rfl, rfl, rfl, trivial⟩ rfl rfl) ?_
    refine WPl.nil ?_
    refine EX.then ?_
    refine WP.seq ?_
    refine WP.region ?_
    refine WPl.v rfl (o_fldp F105_0 rfl) ?_
    refine WPl.v rfl (o_ldp S3 rfl rfl rfl) ?_
    refine WPl.v rfl (o_move rfl) ?_
    refine WPl.v rfl (o_fldp F78_0 rfl) ?_
    refine WPl.v rfl (o_ldp S3 rfl rfl rfl) ?_
    refine WPl.v rfl (o_mul rfl rfl (by first | omega | (simp; omega)) (by first | omega | (simp; omega))) ?_
    refine WPl.v rfl (o_add rfl rfl (by first | omega | (simp; omega)) (by first | omega | (simp; omega))) ?_
    refine WPl.v rfl (o_fldp F105_0 rfl) ?_
    refine WPl.s1 (o_sta S3 rfl rfl rfl rfl rfl) ?_
    refine WPl.nil ?_
    refine EX.then ?_
    refine WP.seq ?_
    refine WP.region ?_
    refine WPl.v rfl (o_fldp F105_1 rfl) ?_
    refine WPl.v rfl (o_ldpg G23 rfl rfl rfl) ?_
    refine WPl.v rfl (o_move rfl) ?_
    refine WPl.v rfl (o_fldp F78_1 rfl) ?_
    refine WPl.v rfl (o_ldp S3 rfl rfl rfl) ?_
    refine WPl.v rfl (o_mul rfl rfl (by first | omega | (simp; omega)) (by first | omega | (simp; omega))) ?_
    refine WPl.cs 8 rfl rfl rfl rfl (o_sig 8 id (c137 ((p.addTo f.shop.pigs l i).tl) ((p.addTo f.shop.pigs l i).th) ((nth l (i : Int)) * ((nth f.shop.pigs (i : Int)).tin)) (by omega) (by omega) (by omega)) e137 rfl rfl rfl w137 trivial r137) ?_
    refine WPl.v rfl (o_fldp F105_1 rfl) ?_
    refine WPl.s1 (o_stag G23 rfl rfl rfl ⟨rfl, rfl, trivial⟩ rfl rfl) ?_
    refine WPl.nil ?_
    refine EX.then ?_
    refine WP.region ?_
    refine WPl.v rfl (o_fldp F105_2 rfl) ?_
    refine WPl.v rfl (o_ldpg G23 rfl rfl rfl) ?_
    refine WPl.v rfl (o_move rfl) ?_
    refine WPl.v rfl (o_fldp F78_2 rfl) ?_
    refine WPl.v rfl (o_ldp S3 rfl rfl rfl) ?_
    refine WPl.v rfl (o_mul rfl rfl (by first | omega | (simp; omega)) (by first | omega | (simp; omega))) ?_
    refine WPl.cs 8 rfl rfl rfl rfl (o_sig 8 id (c137 ((p.addTo f.shop.pigs l i).al) ((p.addTo f.shop.pigs l i).ah) ((nth l (i : Int)) * ((nth f.shop.pigs (i : Int)).ant)) (by omega) (by omega) (by omega)) e137 rfl rfl rfl w137 trivial r137) ?_
    refine WPl.v rfl (o_fldp F105_2 rfl) ?_
    refine WPl.s1 (o_stag G23 rfl rfl rfl ⟨rfl, rfl, trivial⟩ rfl rfl) ?_
    refine WPl.nil ?_
    refine EX.blk ?_
    refine EX.then ?_
    refine WP.region ?_
    refine WPl.v rfl (o_add rfl rfl (by first | omega | (simp; omega)) (by first | omega | (simp; omega))) ?_
    refine WPl.v rfl (o_move rfl) ?_
    refine WPl.nil ?_
    refine EX.again (i + 1) id (by first | omega | (constructor <;> omega)) (by omega) (LeR.of ⟨rfl, rfl, rfl, rfl, rfl, rfl, trivial⟩ ⟨(lx rfl), (lx rfl), trivial⟩ ⟨(congrArg (fun z => some (Ent.blk z 105)) (List.cons_eq_cons.2 ⟨(congrArg (fun z => ai z) (show (((p.addTo f.shop.pigs l i).pounds) + ((nth l (i : Int)) * ((nth f.shop.pigs (i : Int)).pounds))) = ((fun i => (p.addTo f.shop.pigs l i).pounds) (i + 1)) from by simp only [Pt.addTo, sumTo]; omega)), (List.cons_eq_cons.2 ⟨(congrArg (fun z => ai z) (show (((p.addTo f.shop.pigs l i).tl) + ((nth l (i : Int)) * ((nth f.shop.pigs (i : Int)).tin))) = ((fun i => (p.addTo f.shop.pigs l i).tl) (i + 1)) from by simp only [Pt.addTo, sumTo]; omega)), (List.cons_eq_cons.2 ⟨(congrArg (fun z => ai z) (show (((p.addTo f.shop.pigs l i).th) + ((nth l (i : Int)) * ((nth f.shop.pigs (i : Int)).tin))) = ((fun i => (p.addTo f.shop.pigs l i).th) (i + 1)) from by simp only [Pt.addTo, sumTo]; omega)), (List.cons_eq_cons.2 ⟨(congrArg (fun z => ai z) (show (((p.addTo f.shop.pigs l i).al) + ((nth l (i : Int)) * ((nth f.shop.pigs (i : Int)).ant))) = ((fun i => (p.addTo f.shop.pigs l i).al) (i + 1)) from by simp only [Pt.addTo, sumTo]; omega)), (List.cons_eq_cons.2 ⟨(congrArg (fun z => ai z) (show (((p.addTo f.shop.pigs l i).ah) + ((nth l (i : Int)) * ((nth f.shop.pigs (i : Int)).ant))) = ((fun i => (p.addTo f.shop.pigs l i).ah) (i + 1)) from by simp only [Pt.addTo, sumTo]; omega)), (List.cons_eq_cons.2 ⟨(Eq.refl (ai ((p.addTo f.shop.pigs l i).dl))), (List.cons_eq_cons.2 ⟨(Eq.refl (ai ((p.addTo f.shop.pigs l i).dh))), (Eq.refl [])⟩)⟩)⟩)⟩)⟩)⟩)⟩)), rfl, trivial⟩ rfl rfl rfl rfl rfl)
  · try simp only [decide_eq_true_eq, decide_eq_false_iff_not, Bool.and_eq_true, Bool.or_eq_true, Bool.and_eq_false_iff, Bool.or_eq_false_iff, Bool.not_eq_true', Bool.not_eq_false', ne_eq, Decidable.not_not] at hc1
    refine WP.exit ?_
    refine EX.exit_then ?_
    refine EX.exit_then ?_
    refine EX.exit_blk ?_
    refine EX.then ?_
    refine WP.seq ?_
    refine WP.region ?_
    refine WPl.v rfl (o_ldpa G105 rfl rfl rfl) ?_
    refine WPl.s1 (o_stag G105 rfl rfl rfl ⟨rfl, rfl, rfl, rfl, rfl, rfl, rfl, trivial⟩ rfl rfl) ?_
    refine WPl.nil ?_
    refine EX.then ?_
    refine WP.ret ?_
    have he : i = l.length := by omega
    subst he
    exact EX.fin id (.inl rfl) rfl (.cellg G105 rfl rfl rfl (.nil)) rfl (by simp [SV.res, El.res, At.res, keys]) trivial (by simp) (by simp)
theorem w130 {p : Pt} {n : Night} : ∀ x ∈ ([.e (.g [ai (p.pounds), ai (p.tl), ai (p.th), ai (p.al), ai (p.ah), ai (p.dl), ai (p.dh)]), .e (.g [ai (n.lo), ai (n.hi), ai (n.test)])] : List SV), x.res (keys (α := Pred) []) := by simp [SV.res, El.res, At.res, keys]
theorem r130 {p : Pt} {n : Night} : SV.res (keys (α := Pred) []) (.e (.g [ai ((p.lose n).pounds), ai ((p.lose n).tl), ai ((p.lose n).th), ai ((p.lose n).al), ai ((p.lose n).ah), ai ((p.lose n).dl), ai ((p.lose n).dh)])) := by simp [SV.res, El.res, At.res, keys]
set_option maxHeartbeats 4000000 in
theorem c130 (p : Pt) (n : Night) (m : Int) (hp : PtB p m) (hm : m ≤ 100000000) (hn : n.chk = true) : Sig Try.prog 130 [.e (.g [ai (p.pounds), ai (p.tl), ai (p.th), ai (p.al), ai (p.ah), ai (p.dl), ai (p.dh)]), .e (.g [ai (n.lo), ai (n.hi), ai (n.test)])] [] (.e (.g [ai ((p.lose n).pounds), ai ((p.lose n).tl), ai ((p.lose n).th), ai ((p.lose n).al), ai ((p.lose n).ah), ai ((p.lose n).dl), ai ((p.lose n).dh)])) [] := by
  unfold PtB at hp
  have hnb := Night.bnds hn
  refine Sig.intro Try.func130 rfl 0 [(0, .e (.g [ai (p.pounds), ai (p.tl), ai (p.th), ai (p.al), ai (p.ah), ai (p.dl), ai (p.dh)])), (1, .e (.g [ai (n.lo), ai (n.hi), ai (n.test)]))] rfl w130 rfl rfl fun I w => ?_
  refine WP.seq ?_
  refine WP.region ?_
  refine WPl.l 0 1 rfl rfl rfl (o_boxg rfl) ?_
  refine WPl.l 1 2 rfl rfl rfl (o_boxg rfl) ?_
  refine WPl.l 2 3 rfl rfl rfl (o_alloc Z105) ?_
  refine WPl.nil ?_
  refine EX.then ?_
  refine WP.seq ?_
  refine WP.region ?_
  refine WPl.v rfl (o_fldp F105_3 rfl) ?_
  refine WPl.v rfl (o_fldp F23_0 rfl) ?_
  refine WPl.v rfl (o_ldp S3 rfl rfl rfl) ?_
  refine WPl.v rfl (o_fldp F75_0 rfl) ?_
  refine WPl.v rfl (o_fldp F23_0 rfl) ?_
  refine WPl.v rfl (o_ldp S3 rfl rfl rfl) ?_
  refine WPl.v rfl (o_add rfl rfl (by first | omega | (simp; omega)) (by first | omega | (simp; omega))) ?_
  refine WPl.v rfl (o_fldp F105_3 rfl) ?_
  refine WPl.v rfl (o_fldp F23_1 rfl) ?_
  refine WPl.v rfl (o_ldp S3 rfl rfl rfl) ?_
  refine WPl.v rfl (o_fldp F75_0 rfl) ?_
  refine WPl.v rfl (o_fldp F23_1 rfl) ?_
  refine WPl.v rfl (o_ldp S3 rfl rfl rfl) ?_
  refine WPl.v rfl (o_add rfl rfl (by first | omega | (simp; omega)) (by first | omega | (simp; omega))) ?_
  refine WPl.v rfl (o_build B23 rfl ⟨rfl, rfl, trivial⟩ rfl rfl) ?_
  refine WPl.v rfl (o_fldp F105_3 rfl) ?_
  refine WPl.s1 (o_stag G23 rfl rfl rfl ⟨rfl, rfl, trivial⟩ rfl rfl) ?_
  refine WPl.nil ?_
  refine EX.then ?_
  refine WP.seq ?_
  refine WP.region ?_
  refine WPl.v rfl (o_ldpa G105 rfl rfl rfl) ?_
  refine WPl.s1 (o_stag G105 rfl rfl rfl ⟨rfl, rfl, rfl, rfl, rfl, rfl, rfl, trivial⟩ rfl rfl) ?_
  refine WPl.nil ?_
  refine EX.then ?_
  refine WP.ret ?_
  exact EX.fin id (.inl rfl) rfl (.cellg G105 rfl rfl rfl (.nil)) rfl r130 trivial (by simp) (by simp)
theorem w127 {f : Fnd} {r : Option Nat} {p : Pt} : ∀ x ∈ ([.e (.a (.q 0)), .e (.g [ai (p.pounds), ai (p.tl), ai (p.th), ai (p.al), ai (p.ah), ai (p.dl), ai (p.dh)])] : List SV), x.res (keys (α := Pred) [(0, PP (EWk r) (f))]) := by simp [SV.res, El.res, At.res, keys]
theorem r127 {f : Fnd} {p : Pt} : SV.res (keys (α := Pred) []) (.b (f.fitsP p)) := by simp [SV.res, El.res, At.res, keys]
set_option maxHeartbeats 4000000 in
theorem c127 (f : Fnd) (r : Option Nat) (p : Pt) (m : Int) (hp : PtB p m) (hm : m ≤ 100000000) : Sig Try.prog 127 [.e (.a (.q 0)), .e (.g [ai (p.pounds), ai (p.tl), ai (p.th), ai (p.al), ai (p.ah), ai (p.dl), ai (p.dh)])] [(0, PP (EWk r) (f))] (.b (f.fitsP p)) [] := by
  unfold PtB at hp
  refine Sig.intro Try.func127 rfl 1 [(0, .e (.a (.q 0))), (1, .e (.g [ai (p.pounds), ai (p.tl), ai (p.th), ai (p.al), ai (p.ah), ai (p.dl), ai (p.dh)]))] rfl w127 rfl rfl fun I w => ?_
  refine WP.seq ?_
  refine WP.region ?_
  refine WPl.l 1 2 rfl rfl rfl (o_boxg rfl) ?_
  refine WPl.v rfl (o_assign rfl) ?_
  refine WPl.nil ?_
  refine EX.then ?_
  refine WP.seq ?_
  refine WP.draw (nf := 2) [⟨[7, 8, 9, 11, 12, 13, 14, 15, 16], [], [], [], []⟩, ⟨[7, 8, 9, 11, 12, 13, 14, 15, 16], [], [], [], [0]⟩, ⟨[5, 6, 11, 12, 13, 14, 15, 16], [], [], [], []⟩, ⟨[5, 6, 11, 12, 13, 14, 15, 16], [], [], [], [2]⟩, ⟨[5, 6, 11, 12, 13, 14, 15, 16], [], [], [], [2, 3]⟩, ⟨[11, 12, 13, 14, 15, 16], [], [], [], [0, 1, 2, 3, 4]⟩, ⟨[5, 6, 7, 8, 9, 10], [], [], [], []⟩, ⟨[5, 6, 7, 8, 9, 10], [], [], [], [6]⟩, ⟨[5, 6, 7, 8, 9, 10], [], [], [], [6, 7]⟩, ⟨[5, 6, 7, 8, 9, 10], [], [], [], [6, 7, 8]⟩, ⟨[5, 6, 7, 8, 9, 10], [], [], [], [6, 7, 8, 9]⟩, ⟨[5, 6, 7, 8, 9, 10], [], [], [], [6, 7, 8, 9, 10]⟩, ⟨[], [], [], [], [0, 1, 2, 3, 4, 5, 6, 7, 8, 9, 10, 11]⟩, ⟨[], [], [], [], [0, 1, 2, 3, 4, 5, 6, 7, 8, 9, 10, 11, 12]⟩] (by kernel_rfl) (by kernel_rfl) ?_
  refine DRQ.v rfl rfl rfl (o_fldp F105_0 rfl) ?_
  refine DRQ.v rfl rfl rfl (o_ldp S3 rfl rfl rfl) ?_
  refine DRQ.v rfl rfl rfl (o_fldp F105_3 rfl) ?_
  refine DRQ.v rfl rfl rfl (o_fldp F23_0 rfl) ?_
  refine DRQ.v rfl rfl rfl (o_ldp S3 rfl rfl rfl) ?_
  refine DRQ.v rfl rfl rfl (o_sub rfl rfl (by first | omega | (simp; omega)) (by first | omega | (simp; omega))) ?_
  refine DRQ.v rfl rfl rfl (o_move rfl) ?_
  refine DRQ.v rfl rfl rfl (o_nilq rfl (lx rfl)) ?_
  refine DRQ.v rfl rfl rfl (o_fldq F100_0 rfl (lx rfl)) ?_
  refine DRQ.v rfl rfl rfl (o_flde F31_0 rfl (lx rfl)) ?_
  refine DRQ.v rfl rfl rfl (o_flde F28_1 rfl (lx rfl)) ?_
  refine DRQ.v rfl rfl rfl (o_lde S3 rfl (lx rfl) (strI rfl)) ?_
  refine DRQ.v rfl rfl rfl (o_leq rfl rfl) ?_
  refine DRQ.v rfl rfl rfl (o_assign rfl) ?_
  refine DRQ.nil' ?_
  refine EX.then ?_
  refine WP.ret ?_
  exact EX.fin id (.inl rfl) rfl (.tmp rfl .nil) rfl r127 trivial (by simp) (by simp)
theorem w135 {f : Fnd} {r : Option Nat} {p : Pt} : ∀ x ∈ ([.e (.a (.q 0)), .e (.g [ai (p.pounds), ai (p.tl), ai (p.th), ai (p.al), ai (p.ah), ai (p.dl), ai (p.dh)])] : List SV), x.res (keys (α := Pred) [(0, PP (EWk r) (f))]) := by simp [SV.res, El.res, At.res, keys]
theorem r135 {f : Fnd} {p : Pt} : SV.res (keys (α := Pred) []) (.b (f.sureP p)) := by simp [SV.res, El.res, At.res, keys]
set_option maxHeartbeats 4000000 in
theorem c135 (f : Fnd) (r : Option Nat) (p : Pt) (m : Int) (hp : PtB p m) (hm : m ≤ 100000000) (hs : f.shop.chk = true) : Sig Try.prog 135 [.e (.a (.q 0)), .e (.g [ai (p.pounds), ai (p.tl), ai (p.th), ai (p.al), ai (p.ah), ai (p.dl), ai (p.dh)])] [(0, PP (EWk r) (f))] (.b (f.sureP p)) [] := by
  unfold PtB at hp
  have htb := tl_bnd hs
  have m0 := mulB (a := p.pounds - p.dh) (A := 200000000) (b := f.shop.tpl) (B := 1000) (by omega) (by omega) (by omega) (by omega) (by omega)
  have m1 := mulB (a := p.pounds - p.dl) (A := 200000000) (b := f.shop.tph) (B := 1000) (by omega) (by omega) (by omega) (by omega) (by omega)
  have m2 := mulB (a := p.pounds - p.dl) (A := 200000000) (b := f.shop.apl) (B := 1000) (by omega) (by omega) (by omega) (by omega) (by omega)
  have m3 := mulB (a := p.pounds - p.dh) (A := 200000000) (b := f.shop.aph) (B := 1000) (by omega) (by omega) (by omega) (by omega) (by omega)
  refine Sig.intro Try.func135 rfl 1 [(0, .e (.a (.q 0))), (1, .e (.g [ai (p.pounds), ai (p.tl), ai (p.th), ai (p.al), ai (p.ah), ai (p.dl), ai (p.dh)]))] rfl w135 rfl rfl fun I w => ?_
  refine WP.seq ?_
  refine WP.region ?_
  refine WPl.l 1 2 rfl rfl rfl (o_boxg rfl) ?_
  refine WPl.v rfl (o_assign rfl) ?_
  refine WPl.nil ?_
  refine EX.then ?_
  refine WP.seq ?_
  refine WP.draw (nf := 4) [⟨[15, 16, 17, 18, 19, 20, 5, 6], [2, 3], [], [], []⟩, ⟨[15, 16, 17, 18, 19, 20, 5, 6], [2, 3], [], [], [0]⟩, ⟨[15, 16, 17, 18, 19, 20, 5, 6], [2, 3], [], [], [0, 1]⟩, ⟨[15, 16, 17, 18, 19, 20, 5, 6], [2, 3], [], [], [0, 1, 2]⟩, ⟨[15, 16, 17, 18, 19, 20, 5, 6], [2, 3], [], [], [0, 1, 2, 3]⟩, ⟨[15, 16, 17, 18, 19, 20, 5, 6], [2, 3], [], [], [0, 1, 2, 3, 4]⟩, ⟨[9, 10, 11, 12, 13, 14, 5, 6], [2, 3], [], [], []⟩, ⟨[9, 10, 11, 12, 13, 14, 5, 6], [2, 3], [], [], [6]⟩, ⟨[9, 10, 11, 12, 13, 14, 5, 6], [2, 3], [], [], [6, 7]⟩, ⟨[9, 10, 11, 12, 13, 14, 5, 6], [2, 3], [], [], [6, 7, 8]⟩, ⟨[9, 10, 11, 12, 13, 14, 5, 6], [2, 3], [], [], [6, 7, 8, 9]⟩, ⟨[9, 10, 11, 12, 13, 14, 5, 6], [2, 3], [], [], [6, 7, 8, 9, 10]⟩, ⟨[9, 10, 11, 12, 13, 14, 15, 16, 17, 18, 19, 20, 6], [3], [2], [2], []⟩, ⟨[9, 10, 11, 12, 13, 14, 15, 16, 17, 18, 19, 20, 5], [2], [3], [3], []⟩, ⟨[15, 16, 17, 18, 19, 20], [], [], [2], [0, 1, 2, 3, 4, 5, 12, 13]⟩, ⟨[], [], [], [3], [0, 1, 2, 3, 4, 5, 6, 7, 8, 9, 10, 11, 12, 13, 14]⟩] (by kernel_rfl) (by kernel_rfl) ?_
  refine DRQ.v rfl rfl rfl (o_move rfl) ?_
  refine DRQ.v rfl rfl rfl (o_nilq rfl (lx rfl)) ?_
  refine DRQ.v rfl rfl rfl (o_fldq F100_0 rfl (lx rfl)) ?_
  refine DRQ.v rfl rfl rfl (o_flde F31_0 rfl (lx rfl)) ?_
  refine DRQ.v rfl rfl rfl (o_flde F28_2 rfl (lx rfl)) ?_
  refine DRQ.v rfl rfl rfl (o_ldeg G23 rfl (lx rfl) (strG rfl) rfl rfl) ?_
  refine DRQ.v rfl rfl rfl (o_move rfl) ?_
  refine DRQ.v rfl rfl rfl (o_nilq rfl (lx rfl)) ?_
  refine DRQ.v rfl rfl rfl (o_fldq F100_0 rfl (lx rfl)) ?_
  refine DRQ.v rfl rfl rfl (o_flde F31_0 rfl (lx rfl)) ?_
  refine DRQ.v rfl rfl rfl (o_flde F28_3 rfl (lx rfl)) ?_
  refine DRQ.v rfl rfl rfl (o_ldeg G23 rfl (lx rfl) (strG rfl) rfl rfl) ?_
  refine DRQ.l 2 rfl rfl rfl rfl (o_alloc Z23) ?_
  refine DRQ.l 3 rfl rfl rfl rfl (o_alloc Z23) ?_
  refine DRQ.s 2 rfl rfl rfl (o_stag G23 rfl rfl rfl ⟨rfl, rfl, trivial⟩ rfl rfl) ?_
  refine DRQ.s 3 rfl rfl rfl (o_stag G23 rfl rfl rfl ⟨rfl, rfl, trivial⟩ rfl rfl) ?_
  refine DRQ.nil' ?_
  refine EX.then ?_
  refine WP.seq ?_
  refine WP.draw (nf := 4) [⟨[23, 24, 25, 27, 28, 29, 30, 31, 32], [], [], [], []⟩, ⟨[23, 24, 25, 27, 28, 29, 30, 31, 32], [], [], [], [0]⟩, ⟨[21, 22, 27, 28, 29, 30, 31, 32], [], [], [], []⟩, ⟨[21, 22, 27, 28, 29, 30, 31, 32], [], [], [], [2]⟩, ⟨[21, 22, 27, 28, 29, 30, 31, 32], [], [], [], [2, 3]⟩, ⟨[27, 28, 29, 30, 31, 32], [], [], [], [0, 1, 2, 3, 4]⟩, ⟨[21, 22, 23, 24, 25, 26, 29, 30, 31, 7], [], [], [], []⟩, ⟨[21, 22, 23, 24, 25, 26, 29, 30, 31, 7], [], [], [], [6]⟩, ⟨[21, 22, 23, 24, 25, 26, 27, 28, 7], [], [], [], []⟩, ⟨[21, 22, 23, 24, 25, 26, 27, 28, 7], [], [], [], [8]⟩, ⟨[21, 22, 23, 24, 25, 26, 27, 28, 7], [], [], [], [8, 9]⟩, ⟨[21, 22, 23, 24, 25, 26, 7], [], [], [], [6, 7, 8, 9, 10]⟩, ⟨[27, 28, 29, 30, 31, 32], [], [], [], [0, 1, 2, 3, 4, 5]⟩, ⟨[], [], [], [], [0, 1, 2, 3, 4, 5, 6, 7, 8, 9, 10, 11, 12]⟩] (by kernel_rfl) (by kernel_rfl) ?_
  refine DRQ.v rfl rfl rfl (o_fldp F105_0 rfl) ?_
  refine DRQ.v rfl rfl rfl (o_ldp S3 rfl rfl rfl) ?_
  refine DRQ.v rfl rfl rfl (o_fldp F105_3 rfl) ?_
  refine DRQ.v rfl rfl rfl (o_fldp F23_0 rfl) ?_
  refine DRQ.v rfl rfl rfl (o_ldp S3 rfl rfl rfl) ?_
  refine DRQ.v rfl rfl rfl (o_sub rfl rfl (by first | omega | (simp; omega)) (by first | omega | (simp; omega))) ?_
  refine DRQ.v rfl rfl rfl (o_fldp F105_0 rfl) ?_
  refine DRQ.v rfl rfl rfl (o_ldp S3 rfl rfl rfl) ?_
  refine DRQ.v rfl rfl rfl (o_fldp F105_3 rfl) ?_
  refine DRQ.v rfl rfl rfl (o_fldp F23_1 rfl) ?_
  refine DRQ.v rfl rfl rfl (o_ldp S3 rfl rfl rfl) ?_
  refine DRQ.v rfl rfl rfl (o_sub rfl rfl (by first | omega | (simp; omega)) (by first | omega | (simp; omega))) ?_
  refine DRQ.v rfl rfl rfl (o_assign rfl) ?_
  refine DRQ.v rfl rfl rfl (o_assign rfl) ?_
  refine DRQ.nil' ?_
  refine EX.then ?_
  refine WP.seq ?_
  refine WP.region ?_
  refine WPl.v rfl (o_fldp F105_1 rfl) ?_
  refine WPl.v rfl (o_fldp F23_0 rfl) ?_
  refine WPl.v rfl (o_ldp S3 rfl rfl rfl) ?_
  refine WPl.v rfl (o_fldp F105_3 rfl) ?_
  refine WPl.v rfl (o_fldp F23_1 rfl) ?_
  refine WPl.v rfl (o_ldp S3 rfl rfl rfl) ?_
  refine WPl.v rfl (o_sub rfl rfl (by first | omega | (simp; omega)) (by first | omega | (simp; omega))) ?_
  refine WPl.v rfl (o_mul rfl rfl (by first | omega | (simp; omega)) (by first | omega | (simp; omega))) ?_
  refine WPl.v rfl (o_move rfl) ?_
  refine WPl.v rfl (o_fldp F23_0 rfl) ?_
  refine WPl.v rfl (o_ldp S3 rfl rfl rfl) ?_
  refine WPl.v rfl (o_mul rfl rfl (by first | omega | (simp; omega)) (by first | omega | (simp; omega))) ?_
  refine WPl.v rfl (o_geq rfl rfl) ?_
  refine WPl.v rfl (o_move rfl) ?_
  refine WPl.bit 4 5 (decide (((p.pounds - p.dh) * f.shop.tpl) ≤ (1000 * (p.tl - p.dh)))) rfl rfl ?_
  refine WPl.gv 4 rfl rfl (.plain rfl Iff.rfl rfl) (fun hb => o_fldp F105_1 rfl) ?_
  refine WPl.gv 4 rfl rfl (.plain rfl Iff.rfl rfl) (fun hb => o_fldp F23_1 rfl) ?_
  refine WPl.gv 4 rfl rfl (.plain rfl Iff.rfl rfl) (fun hb => o_ldp S3 rfl rfl rfl) ?_
  refine WPl.gv 4 rfl rfl (.plain rfl Iff.rfl rfl) (fun hb => o_fldp F105_3 rfl) ?_
  refine WPl.gv 4 rfl rfl (.plain rfl Iff.rfl rfl) (fun hb => o_fldp F23_0 rfl) ?_
  refine WPl.gv 4 rfl rfl (.plain rfl Iff.rfl rfl) (fun hb => o_ldp S3 rfl rfl rfl) ?_
  refine WPl.gv 4 rfl rfl (.plain rfl Iff.rfl rfl) (fun hb => o_sub rfl rfl (by first | omega | (simp; omega)) (by first | omega | (simp; omega))) ?_
  refine WPl.gv 4 rfl rfl (.plain rfl Iff.rfl rfl) (fun hb => o_mul rfl rfl (by first | omega | (simp; omega)) (by first | omega | (simp; omega))) ?_
  refine WPl.gv 4 rfl rfl (.plain rfl Iff.rfl rfl) (fun hb => o_move rfl) ?_
  refine WPl.gv 4 rfl rfl (.plain rfl Iff.rfl rfl) (fun hb => o_fldp F23_1 rfl) ?_
  refine WPl.gv 4 rfl rfl (.plain rfl Iff.rfl rfl) (fun hb => o_ldp S3 rfl rfl rfl) ?_
  refine WPl.gv 4 rfl rfl (.plain rfl Iff.rfl rfl) (fun hb => o_mul rfl rfl (by first | omega | (simp; omega)) (by first | omega | (simp; omega))) ?_
  refine WPl.gv 4 rfl rfl (.plain rfl Iff.rfl rfl) (fun hb => o_leq rfl rfl) ?_
  refine WPl.v rfl (o_and rfl rfl rfl id) ?_
  refine WPl.v rfl (o_move rfl) ?_
  refine WPl.bit 5 6 ((decide (((p.pounds - p.dh) * f.shop.tpl) ≤ (1000 * (p.tl - p.dh)))) && (decide ((1000 * (p.th - p.dl)) ≤ ((p.pounds - p.dl) * f.shop.tph)))) rfl rfl ?_
  refine WPl.gv 5 rfl rfl (.plain rfl Iff.rfl rfl) (fun hb => o_fldp F105_2 rfl) ?_
  refine WPl.gv 5 rfl rfl (.plain rfl Iff.rfl rfl) (fun hb => o_fldp F23_0 rfl) ?_
  refine WPl.gv 5 rfl rfl (.plain rfl Iff.rfl rfl) (fun hb => o_ldp S3 rfl rfl rfl) ?_
  refine WPl.gv 5 rfl rfl (.plain rfl Iff.rfl rfl) (fun hb => o_mul rfl rfl (by first | omega | (simp; omega)) (by first | omega | (simp; omega))) ?_
  refine WPl.gv 5 rfl rfl (.plain rfl Iff.rfl rfl) (fun hb => o_move rfl) ?_
  refine WPl.gv 5 rfl rfl (.plain rfl Iff.rfl rfl) (fun hb => o_fldp F23_0 rfl) ?_
  refine WPl.gv 5 rfl rfl (.plain rfl Iff.rfl rfl) (fun hb => o_ldp S3 rfl rfl rfl) ?_
  refine WPl.gv 5 rfl rfl (.plain rfl Iff.rfl rfl) (fun hb => o_mul rfl rfl (by first | omega | (simp; omega)) (by first | omega | (simp; omega))) ?_
  refine WPl.gv 5 rfl rfl (.plain rfl Iff.rfl rfl) (fun hb => o_geq rfl rfl) ?_
  refine WPl.v rfl (o_and rfl rfl rfl id) ?_
  refine WPl.v rfl (o_move rfl) ?_
  refine WPl.bit 6 7 (((decide (((p.pounds - p.dh) * f.shop.tpl) ≤ (1000 * (p.tl - p.dh)))) && (decide ((1000 * (p.th - p.dl)) ≤ ((p.pounds - p.dl) * f.shop.tph)))) && (decide (((p.pounds - p.dl) * f.shop.apl) ≤ (1000 * p.al)))) rfl rfl ?_
  refine WPl.gv 6 rfl rfl (.plain rfl Iff.rfl rfl) (fun hb => o_fldp F105_2 rfl) ?_
  refine WPl.gv 6 rfl rfl (.plain rfl Iff.rfl rfl) (fun hb => o_fldp F23_1 rfl) ?_
  refine WPl.gv 6 rfl rfl (.plain rfl Iff.rfl rfl) (fun hb => o_ldp S3 rfl rfl rfl) ?_
  refine WPl.gv 6 rfl rfl (.plain rfl Iff.rfl rfl) (fun hb => o_mul rfl rfl (by first | omega | (simp; omega)) (by first | omega | (simp; omega))) ?_
  refine WPl.gv 6 rfl rfl (.plain rfl Iff.rfl rfl) (fun hb => o_move rfl) ?_
  refine WPl.gv 6 rfl rfl (.plain rfl Iff.rfl rfl) (fun hb => o_fldp F23_1 rfl) ?_
  refine WPl.gv 6 rfl rfl (.plain rfl Iff.rfl rfl) (fun hb => o_ldp S3 rfl rfl rfl) ?_
  refine WPl.gv 6 rfl rfl (.plain rfl Iff.rfl rfl) (fun hb => o_mul rfl rfl (by first | omega | (simp; omega)) (by first | omega | (simp; omega))) ?_
  refine WPl.gv 6 rfl rfl (.plain rfl Iff.rfl rfl) (fun hb => o_leq rfl rfl) ?_
  refine WPl.v rfl (o_and rfl rfl rfl id) ?_
  refine WPl.v rfl (o_assign rfl) ?_
  refine WPl.nil ?_
  refine EX.then ?_
  refine WP.ret ?_
  exact EX.fin id (.inl rfl) rfl (.tmp rfl .nil) rfl r135 trivial (by simp) (by simp)
theorem w128 {f : Fnd} {r : Option Nat} {plan : List (List Int)} : ∀ x ∈ ([.e (.a (.q 0)), .e (.a (.q 1))] : List SV), x.res (keys (α := Pred) [(0, PP (EP.box (PP (EWk r) (f))) ()), (1, PP (EP.box (PL (EP.sl EP.int) (plan))) ())]) := by simp [SV.res, El.res, At.res, keys]
set_option maxHeartbeats 4000000 in
theorem c128 (f : Fnd) (r : Option Nat) (plan : List (List Int)) (hf : f.chk = true) (hp : PlanB f plan) : SigI Try.prog 128 [.e (.a (.q 0)), .e (.a (.q 1))] [(0, PP (EP.box (PP (EWk r) (f))) ()), (1, PP (EP.box (PL (EP.sl EP.int) (plan))) ())] (nightItems f plan) := by
  have hcb := Fnd.chkB hf
  have hpg := Shop.pigsOK (Fnd.shopOK hf)
  have hn := Fnd.nightsOK hf
  obtain ⟨hpl, hpr⟩ := id hp
  refine SigI.intro Try.func128 rfl 3 2 w128 rfl rfl rfl fun I w l Y K F0 hround => ?_
  have hF : ∀ c, F0 c → F0 c := fun _ h => h
  refine WP.seq ?_
  refine WP.region ?_
  refine WPl.x 3 4 rfl rfl rfl (o_ldqx S95 rfl (lx rfl) boxx) ?_
  refine WPl.cs 4 rfl rfl rfl rfl (o_sig 4 (ren [(0, 3)]) (c88 f r (by omega)) e88 rfl rfl rfl w88 ⟨(lx rfl), trivial⟩ r88) ?_
  refine WPl.v rfl (o_move rfl) ?_
  refine WPl.v rfl (o_extract rfl rfl) ?_
  refine WPl.v rfl (o_extract rfl rfl) ?_
  refine WPl.l 4 5 rfl rfl rfl (o_alloc Z105) ?_
  refine WPl.l 5 6 rfl rfl rfl (o_alloc Z110) ?_
  refine WPl.s1 (o_stag G105 rfl rfl rfl ⟨rfl, rfl, rfl, rfl, rfl, rfl, rfl, trivial⟩ rfl rfl) ?_
  refine WPl.s1 (o_stag G110 rfl rfl rfl ⟨rfl, rfl, rfl, rfl, trivial⟩ rfl rfl) ?_
  refine WPl.nil ?_
  refine EX.then ?_
  refine WP.seq ?_
  refine WP.region ?_
  refine WPl.x 6 7 rfl rfl rfl (o_ldqx S95 rfl (lx rfl) boxx) ?_
  refine WPl.v rfl (o_nilq rfl (lx rfl)) ?_
  refine WPl.v rfl (o_fldq F100_0 rfl (lx rfl)) ?_
  refine WPl.v rfl (o_flde F31_1 rfl (lx rfl)) ?_
  refine WPl.x 7 8 rfl rfl rfl (o_ldex S29 rfl (lx rfl) (strS rfl)) ?_
  refine WPl.v rfl (o_lenq L29 rfl (lx rfl)) ?_
  refine WPl.v rfl (o_move rfl) ?_
  refine WPl.nil ?_
  refine EX.then ?_
  refine WP.block ?_
  refine WP.loop (Gh := Nat × (Nat → Prop)) (fun (⟨i, F⟩ : Nat × (Nat → Prop)) => ⟨8, [(0, .e (.a (.v (yv l)))), (1, .e (.a (.q 0))), (2, .e (.a (.q 1))), (4, .e (.a (.p 4 (0)))), (17, .e (.a (.q 7))), (18, .i ((f.nights.length : Int))), (19, .i ((i : Int)))], [(0, PP (EP.box (PP (EWk r) (f))) ()), (1, PP (EP.box (PL (EP.sl EP.int) (plan))) ()), (7, PL ENight (f.nights))], [(2, .ext ((Y i).xp F)), (4, .blk [ai ((f.pre plan i).pounds), ai ((f.pre plan i).tl), ai ((f.pre plan i).th), ai ((f.pre plan i).al), ai ((f.pre plan i).ah), ai ((f.pre plan i).dl), ai ((f.pre plan i).dh)] 105)], [], []⟩) (fun (⟨i, F⟩ : Nat × (Nat → Prop)) => i ≤ f.nights.length ∧ ∀ c, F0 c → F c) (fun (⟨i, F⟩ : Nat × (Nat → Prop)) => f.nights.length - i) ((0, F0)) id ?_ (LeR.of ⟨rfl, rfl, rfl, rfl, rfl, rfl, rfl, trivial⟩ ⟨(lx rfl), (lx rfl), (lx rfl), trivial⟩ ⟨rfl, rfl, trivial⟩ rfl rfl rfl rfl rfl) ?_
  · exact ⟨by omega, fun _ h => h⟩
  rintro ⟨i, F⟩ hφ
  obtain ⟨hi, hF⟩ : i ≤ f.nights.length ∧ ∀ c, F0 c → F c := hφ
  refine WP.seq ?_
  refine WP.region ?_
  refine WPl.v rfl (o_lss rfl rfl) ?_
  refine WPl.nil ?_
  refine EX.then ?_
  refine WP.seq ?_
  refine WP.cond rfl (fun hc1 => ?_) (fun hc1 => ?_)
  · try simp only [decide_eq_true_eq, decide_eq_false_iff_not, Bool.and_eq_true, Bool.or_eq_true, Bool.and_eq_false_iff, Bool.or_eq_false_iff, Bool.not_eq_true', Bool.not_eq_false', ne_eq, Decidable.not_not] at hc1
    refine WP.skip ?_
    refine EX.then ?_
    refine WP.seq ?_
    refine WP.block ?_
    refine WP.seq ?_
    refine WP.region ?_
    refine WPl.v rfl (o_move rfl) ?_
    refine WPl.x 8 9 rfl rfl rfl (o_idx L29 rfl (lx rfl) rfl (by first | omega | (simp; omega)) (by first | omega | (simp; omega))) ?_
    refine WPl.v rfl (o_ldqg G75 rfl (lx rfl) (strG rfl) rfl rfl) ?_
    refine WPl.l 9 10 rfl rfl rfl (o_alloc Z75) ?_
    refine WPl.v rfl (o_assign rfl) ?_
    refine WPl.s1 (o_stag G75 rfl rfl rfl ⟨rfl, rfl, rfl, trivial⟩ rfl rfl) ?_
    refine WPl.nil ?_
    refine EX.then ?_
    refine WP.seq ?_
    refine WP.draw (nf := 14) [⟨[25, 26, 27, 28, 29], [11, 12, 13], [10], [10], []⟩, ⟨[24, 26, 27, 28, 29], [10, 11, 12, 13], [], [], []⟩, ⟨[24, 25, 27], [10], [11], [11], []⟩, ⟨[24, 25, 26], [10, 11], [], [], []⟩, ⟨[24, 25], [10], [12], [12], [2, 3]⟩, ⟨[24, 25], [10], [13], [13], [2, 3, 4]⟩, ⟨[], [], [], [], [0, 1, 2, 3, 4, 5]⟩, ⟨[], [], [], [4], [0, 1, 2, 3, 4, 5, 6]⟩] (by kernel_rfl) (by kernel_rfl) ?_
    refine DRQ.x 10 rfl rfl rfl rfl (o_ldqx S95 rfl (lx rfl) boxx) ?_
    refine DRQ.v rfl rfl rfl (o_ldpa G105 rfl rfl rfl) ?_
    refine DRQ.x 11 rfl rfl rfl rfl (o_ldqx S32 rfl (lx rfl) boxx) ?_
    refine DRQ.v rfl rfl rfl (o_move rfl) ?_
    refine DRQ.x 12 rfl rfl rfl rfl (o_idx L32 rfl (lx rfl) rfl (by first | omega | (simp; omega)) (by first | omega | (simp; omega))) ?_
    refine DRQ.x 13 rfl rfl rfl rfl (o_ldqx S44 rfl (lx rfl) slx) ?_
    refine DRQ.cs rfl rfl rfl rfl (o_sig 14 (ren [(0, 10), (1, 13)]) (c129 f r (f.pre plan i) (nth plan (i : Int)) (1000 + 400009 * (i : Int)) (pre_bnd hf hp i (by omega)) (by omega) hpg (by rw [(hpr i (by omega)).1]; exact Nat.le_refl _) (bnd_mono (hpr i (by omega)).2 (by omega))) e129 rfl rfl rfl w129 ⟨(lx rfl), (lx rfl), trivial⟩ r129) ?_
    refine DRQ.s 4 rfl rfl rfl (o_stag G105 rfl rfl rfl ⟨rfl, rfl, rfl, rfl, rfl, rfl, rfl, trivial⟩ rfl rfl) ?_
    refine DRQ.nil' ?_
    refine EX.then ?_
    refine WP.seq ?_
    refine WP.seq ?_
    refine WP.region ?_
    refine WPl.v rfl (o_move rfl) ?_
    refine WPl.v rfl (o_move rfl) ?_
    refine WPl.v rfl (o_ldpa G105 rfl rfl rfl) ?_
    refine WPl.yield (Y' := Y (i + 1)) (K' := K) 2 rfl rfl rfl rfl rfl rfl (yieldH (ky := 2) (J := []) (it := ⟨[.i ((i : Int)), .e (.g [ai ((f.at plan i).pounds), ai ((f.at plan i).tl), ai ((f.at plan i).th), ai ((f.at plan i).al), ai ((f.at plan i).ah), ai ((f.at plan i).dl), ai ((f.at plan i).dh)])], [], []⟩) id (hround (i) _ (range_at (by omega))) rfl (hF) SvsOK.rf (by simp [SV.res, El.res, At.res, keys]) trivial trivial) fun by34 F1 hF1 => ?_
    have hF : ∀ c, F0 c → F1 c := fun c hc => hF1 c (hF c hc)
    cases by34
    · skip
      refine WPl.v rfl (o_not rfl) ?_
      refine WPl.nil ?_
      refine EX.then ?_
      refine WP.cond rfl (fun _ => ?_) (fun h => by cases h)
      refine WP.ret ?_
      refine EX.ret_then ?_
      refine EX.ret_blk ?_
      refine EX.ret_then ?_
      refine EX.ret_then ?_
      refine EX.ret_blk ?_
      exact EX.finI (.inl rfl) rfl rfl (ky := 2) (Y := K) rfl (fun _ _ h => .inr h)
    · skip
      refine WPl.v rfl (o_not rfl) ?_
      refine WPl.nil ?_
      refine EX.then ?_
      refine WP.cond rfl (fun h => by cases h) (fun _ => ?_)
      refine WP.skip ?_
      refine EX.then ?_
      refine WP.region ?_
      refine WPl.v rfl (o_ldpa G105 rfl rfl rfl) ?_
      refine WPl.v rfl (o_ldpa G75 rfl rfl rfl) ?_
      refine WPl.cs 14 rfl rfl rfl rfl (o_sig 14 id (c130 (f.at plan i) (nth f.nights (i : Int)) 2100000 (at_bnd hf hp (by omega)) (by omega) (hn.at (by omega))) e130 rfl rfl rfl w130 trivial r130) ?_
      refine WPl.s1 (o_stag G105 rfl rfl rfl ⟨rfl, rfl, rfl, rfl, rfl, rfl, rfl, trivial⟩ rfl rfl) ?_
      refine WPl.nil ?_
      refine EX.blk ?_
      refine EX.then ?_
      refine WP.region ?_
      refine WPl.v rfl (o_add rfl rfl (by first | omega | (simp; omega)) (by first | omega | (simp; omega))) ?_
      refine WPl.v rfl (o_move rfl) ?_
      refine WPl.nil ?_
      refine EX.again ((i + 1, F1)) id (by exact ⟨by omega, hF⟩) (by first | omega | (dsimp only; omega) | (simp only []; omega)) (LeR.of ⟨rfl, rfl, rfl, rfl, rfl, rfl, rfl, trivial⟩ ⟨(lx rfl), (lx rfl), (lx rfl), trivial⟩ ⟨rfl, rfl, trivial⟩ rfl rfl rfl rfl rfl)
  · try simp only [decide_eq_true_eq, decide_eq_false_iff_not, Bool.and_eq_true, Bool.or_eq_true, Bool.and_eq_false_iff, Bool.or_eq_false_iff, Bool.not_eq_true', Bool.not_eq_false', ne_eq, Decidable.not_not] at hc1
    refine WP.exit ?_
    refine EX.exit_then ?_
    refine EX.exit_then ?_
    refine EX.exit_blk ?_
    have hend : i = (nightItems f plan).length := by simp [nightItems]; omega
    exact EX.finI (.inr rfl) rfl rfl (ky := 2) (Y := Y (i)) rfl (fun _ _ h => .inl (by rw [hend] at h; exact h))
theorem w80 {f : Fnd} {r : Option Nat} {plan : List (List Int)} : ∀ x ∈ ([.e (.a (.q 0)), .e (.a (.q 1))] : List SV), x.res (keys (α := Pred) [(0, PP (EWk r) (f)), (1, PL (EP.sl EP.int) (plan))]) := by simp [SV.res, El.res, At.res, keys]
theorem r80 {f : Fnd} {plan : List (List Int)} : SV.res (keys (α := Pred) [(0, ItP Try.prog (nightItems f plan))]) (.e (.a (.q 0))) := by simp [SV.res, El.res, At.res, keys]
set_option maxHeartbeats 4000000 in
theorem c80 (f : Fnd) (r : Option Nat) (plan : List (List Int)) (hf : f.chk = true) (hp : PlanB f plan) : Sig Try.prog 80 [.e (.a (.q 0)), .e (.a (.q 1))] [(0, PP (EWk r) (f)), (1, PL (EP.sl EP.int) (plan))] (.e (.a (.q 0))) [(0, ItP Try.prog (nightItems f plan))] := by
  refine Sig.intro Try.func80 rfl 2 [(0, .e (.a (.q 0))), (1, .e (.a (.q 1)))] rfl w80 rfl rfl fun I w => ?_
  refine WP.seq ?_
  refine WP.region ?_
  refine WPl.l 2 3 rfl rfl rfl (o_boxa rfl (.inl ⟨_, (lx rfl), PP.one⟩)) ?_
  refine WPl.l 3 4 rfl rfl rfl (o_boxa rfl (.inl ⟨_, (lx rfl), PL.one⟩)) ?_
  refine WPl.v rfl (o_assign rfl) ?_
  refine WPl.nil ?_
  refine EX.then ?_
  refine WP.seq ?_
  refine WP.region ?_
  refine WPl.imp (Imp.frzb (E := EP.box (PP (EWk r) (f))) (y := ()) 2 4 5 rfl rfl (bok_box (lx rfl)) rfl rfl rfl) ?_
  refine WPl.imp (Imp.frzb (E := EP.box (PL (EP.sl EP.int) (plan))) (y := ()) 3 5 6 rfl rfl (bok_box (lx rfl)) rfl rfl rfl) ?_
  refine WPl.x 6 7 rfl rfl rfl (o_mkit 6 (ren [(0, 4), (1, 5)]) (c128 f r plan hf hp) e128 rfl SvsOK.rf w128 ⟨(lx rfl), (lx rfl), trivial⟩) ?_
  refine WPl.v rfl (o_assign rfl) ?_
  refine WPl.nil ?_
  refine EX.then ?_
  refine WP.ret ?_
  exact EX.fin (ren [(0, 6)]) (.inl rfl) rfl (.tmp rfl .nil) rfl r80 ⟨(lx rfl), trivial⟩ (by simp) (by simp)
end Go.Flong
