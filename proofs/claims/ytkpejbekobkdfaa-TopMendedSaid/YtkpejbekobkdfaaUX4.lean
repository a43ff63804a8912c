/- Part 4 of the texts behind the claim: KTP1 KTP2 KTP3 KTP5 EngZe EngTl KTP6 KTP7. -/
import Derived.Test.YtkpejbekobkdfaaUX3
set_option linter.unusedSimpArgs false
set_option linter.unusedVariables false
namespace Go.Flong
open Go Go.Eng Go.Proofs
theorem Z23 : Zero Try.prog 23 [ai (0), ai (0)] := .mk Try.zeroValue23 rfl rfl
theorem B23 : BldT Try.prog 23 [(0, 1), (1, 1)] [.int .i64 0, .int .i64 0] := BldT.mk (ns := [1, 1]) Try.underlying23 ⟨Try.sizeOf3, Try.sizeOf3, trivial⟩ rfl Try.zeroValue23 rfl
theorem e53 : Enters' Try.prog 53 := Try.call53
theorem e59 : Enters' Try.prog 59 := Try.call59
theorem Z84 : Zero Try.prog 84 [ai (0), ai (0), ai (0), ai (0), ai (0), ai (0), ai (0)] := .mk Try.zeroValue84 rfl rfl
theorem Z86 : Zero Try.prog 86 [ai (0), ai (0), ai (0), ai (0)] := .mk Try.zeroValue86 rfl rfl
theorem F103_0 : Fld Try.prog 103 0 0 := .mk Try.underlying103 rfl rfl rfl Try.sizeOf31 rfl
theorem A86 : IsArr Try.prog 86 3 4 := ⟨Try.underlying86, Try.sizeOf3⟩
theorem B84 : BldT Try.prog 84 [(0, 1), (1, 2), (3, 2), (5, 2)] [.int .i64 0, .int .i64 0, .int .i64 0, .int .i64 0, .int .i64 0, .int .i64 0, .int .i64 0] := BldT.mk (ns := [1, 2, 2, 2]) Try.underlying84 ⟨Try.sizeOf3, Try.sizeOf23, Try.sizeOf23, Try.sizeOf23, trivial⟩ rfl Try.zeroValue84 rfl
theorem G86 : TyG Try.prog 86 4 := ⟨Try.isAgg86, Try.sizeOf86⟩
theorem G84 : TyG Try.prog 84 7 := ⟨Try.isAgg84, Try.sizeOf84⟩
theorem F84_0 : Fld Try.prog 84 0 0 := .mk Try.underlying84 rfl rfl rfl Try.sizeOf3 rfl
theorem F84_1 : Fld Try.prog 84 1 1 := .mk Try.underlying84 rfl rfl rfl Try.sizeOf23 rfl
theorem e65 : Enters' Try.prog 65 := Try.call65
theorem F84_2 : Fld Try.prog 84 2 3 := .mk Try.underlying84 rfl rfl rfl Try.sizeOf23 rfl
theorem F84_3 : Fld Try.prog 84 3 5 := .mk Try.underlying84 rfl rfl rfl Try.sizeOf23 rfl
theorem S78 : TyS Try.prog 78 := ⟨Try.isAgg78, Try.sizeOf78⟩
theorem e37 : Enters' Try.prog 37 := Try.call37
theorem S45 : TyS Try.prog 45 := ⟨Try.isAgg45, Try.sizeOf45⟩
theorem e63 : Enters' Try.prog 63 := Try.call63
theorem e76 : Enters' Try.prog 76 := Try.call76
theorem e75 : Enters' Try.prog 75 := Try.call75
theorem w65 {a b n : Int} : ∀ x ∈ ([.e (.g [ai (a), ai (b)]), .i (n)] : List SV), x.res (keys (α := Pred) []) := by simp [SV.res, El.res, At.res, keys]
theorem r65 {a b n : Int} : SV.res (keys (α := Pred) []) (.e (.g [ai (a + n), ai (b + n)])) := by simp [SV.res, El.res, At.res, keys]
set_option maxHeartbeats 4000000 in
theorem c65 (a b n : Int) (h1 : -1000000000 ≤ a ∧ a ≤ 1000000000) (h2 : -1000000000 ≤ b ∧ b ≤ 1000000000) (h3 : -1000000000 ≤ n ∧ n ≤ 1000000000) : Sig Try.prog 65 [.e (.g [ai (a), ai (b)]), .i (n)] [] (.e (.g [ai (a + n), ai (b + n)])) [] := by
  refine Sig.intro Try.func65 rfl 0 [(0, .e (.g [ai (a), ai (b)])), (1, .i (n))] rfl w65 rfl rfl fun I w => ?_
  refine WP.seq (WP.region ?_)
  refine WPl.l 0 1 rfl rfl rfl (o_boxg rfl) ?_
  refine WPl.l 1 2 rfl rfl rfl (o_alloc Z23) ?_
  refine WPl.nil (EX.then (WP.seq (WP.region ?_)))
  refine WPl.v rfl (o_fldp F23_0 rfl) ?_
  refine WPl.v rfl (o_ldp S3 rfl rfl rfl) ?_
  refine WPl.v rfl (o_move rfl) ?_
  refine WPl.v rfl (o_add rfl rfl (by first | omega | (simp; omega)) (by first | omega | (simp; omega))) ?_
  refine WPl.v rfl (o_fldp F23_1 rfl) ?_
  refine WPl.v rfl (o_ldp S3 rfl rfl rfl) ?_
  refine WPl.v rfl (o_move rfl) ?_
  refine WPl.v rfl (o_add rfl rfl (by first | omega | (simp; omega)) (by first | omega | (simp; omega))) ?_
  refine WPl.v rfl (o_build B23 rfl ⟨rfl, rfl, trivial⟩ rfl rfl) ?_
  refine WPl.s1 (o_stag G23 rfl rfl rfl ⟨rfl, rfl, trivial⟩ rfl rfl) ?_
  refine WPl.nil (EX.then (WP.ret ?_))
  exact EX.fin id (.inl rfl) rfl (.cellg G23 rfl rfl rfl (.nil)) rfl r65 trivial (by simp) (by simp)
theorem w58 {f : Fnd} : ∀ x ∈ ([.e (.g [ai (f.shop.pounds), ai (f.shop.tl), ai (f.shop.th), ai (f.shop.al), ai (f.shop.ah), ai (f.shop.room), ai (f.shop.tpl), ai (f.shop.tph), ai (f.shop.apl), ai (f.shop.aph), .q 0, .q 1])] : List SV), x.res (keys (α := Pred) [(0, PL EPig (f.shop.pigs)), (1, PL ENight (f.nights))]) := by simp [SV.res, El.res, At.res, keys]
theorem r58 {f : Fnd} : SV.res (keys (α := Pred) []) (.i (errW f.chk)) := by simp [SV.res, El.res, At.res, keys]
set_option maxHeartbeats 4000000 in
theorem c58 (f : Fnd) (hl : f.shop.pigs.length ≤ 40) : Sig Try.prog 58 [.e (.g [ai (f.shop.pounds), ai (f.shop.tl), ai (f.shop.th), ai (f.shop.al), ai (f.shop.ah), ai (f.shop.room), ai (f.shop.tpl), ai (f.shop.tph), ai (f.shop.apl), ai (f.shop.aph), .q 0, .q 1])] [(0, PL EPig (f.shop.pigs)), (1, PL ENight (f.nights))] (.i (errW f.chk)) [] := by
  refine Sig.intro Try.func58 rfl 2 [(0, .e (.g [ai (f.shop.pounds), ai (f.shop.tl), ai (f.shop.th), ai (f.shop.al), ai (f.shop.ah), ai (f.shop.room), ai (f.shop.tpl), ai (f.shop.tph), ai (f.shop.apl), ai (f.shop.aph), .q 0, .q 1]))] rfl w58 rfl rfl fun I w => ?_
  refine WP.seq (WP.region ?_)
  refine WPl.l 2 3 rfl rfl rfl (o_boxg rfl) ?_
  refine WPl.v rfl (o_assign rfl) ?_
  refine WPl.nil (EX.then (WP.seq (WP.seq (WP.region ?_))))
  refine WPl.v rfl (o_fldp F31_0 rfl) ?_
  refine WPl.v rfl (o_ldpg G28 rfl rfl rfl) ?_
  refine WPl.cs 3 rfl rfl rfl rfl (o_sig 3 (ren [(0, 0)]) (c53 f.shop hl) e53 rfl rfl rfl w53 ⟨(lx rfl), trivial⟩ r53) ?_
  refine WPl.v rfl (o_neq rfl rfl) ?_
  refine WPl.v rfl (o_move rfl) ?_
  refine WPl.bit 3 4 (!(decide ((errM f.shop.chk) ≠ 0))) rfl rfl ?_
  refine WPl.gv 3 rfl rfl (.plain rfl (by simp) rfl) (fun hb => o_fldp F31_1 rfl) ?_
  refine WPl.gv 3 rfl rfl (.plain rfl (by simp) rfl) (fun hb => o_ldp S29 rfl rfl rfl) ?_
  refine WPl.gv 3 rfl rfl (.plain rfl (by simp) rfl) (fun hb => o_lenq L29 rfl (lx rfl)) ?_
  refine WPl.gv 3 rfl rfl (.plain rfl (by simp) rfl) (fun hb => o_gtr rfl rfl) ?_
  refine WPl.v rfl (o_or rfl rfl rfl (by first | (simp; done) | simp_all)) ?_
  refine WPl.nil (EX.then ?_)
  refine WP.cond rfl (fun hc1 => ?_) (fun hc1 => ?_)
  · try simp only [cnd] at hc1
    refine WP.seq (WP.region ?_)
    refine WPl.v rfl (o_assign rfl) ?_
    refine WPl.nil (EX.then (WP.ret (EX.ret_then ?_)))
    rw [show errW f.chk = 130 from by simp [errM_eq] at hc1; simp only [errW, Fnd.chk]; rcases hc1 with h | h; simp [h]; simp [show ¬ ((f.nights.length : Int) ≤ 4) by omega]]
    exact EX.fin id (.inl rfl) rfl (.tmp rfl .nil) rfl (by simp [SV.res, El.res, At.res, keys]) trivial (by simp) (by simp)
  · try simp only [cnd] at hc1
    refine WP.skip (EX.then (WP.seq (WP.region ?_)))
    refine WPl.v rfl (o_assign rfl) ?_
    refine WPl.nil (EX.then (WP.seq (WP.seq (WP.region ?_))))
    refine WPl.v rfl (o_fldp F31_1 rfl) ?_
    refine WPl.v rfl (o_ldp S29 rfl rfl rfl) ?_
    refine WPl.v rfl (o_lenq L29 rfl (lx rfl)) ?_
    refine WPl.v rfl (o_move rfl) ?_
    refine WPl.nil (EX.then (WP.block ?_))
    refine WP.loop (Gh := Nat) (fun i => ⟨4, [(1, .e (.a (.p 2 (0)))), (2, .i (0)), (3, .i (hiTo f.nights i)), (17, .e (.a (.q 1))), (18, .i ((f.nights.length : Int))), (19, .i ((i : Int)))], [(0, PL EPig (f.shop.pigs)), (1, PL ENight (f.nights))], [(2, .blk [ai (f.shop.pounds), ai (f.shop.tl), ai (f.shop.th), ai (f.shop.al), ai (f.shop.ah), ai (f.shop.room), ai (f.shop.tpl), ai (f.shop.tph), ai (f.shop.apl), ai (f.shop.aph), .q 0, .q 1] 31)], [], []⟩) (fun i => i ≤ f.nights.length ∧ allTo Night.chk f.nights i = true) (fun i => f.nights.length - i) (0) id ?_ (LeR.of ⟨rfl, rfl, rfl, rfl, rfl, rfl, trivial⟩ ⟨(lx rfl), (lx rfl), trivial⟩ ⟨rfl, trivial⟩ rfl rfl rfl rfl rfl) ?_
    · exact ⟨by omega, rfl⟩
    intro i hφ
    obtain ⟨hi, hall⟩ := hφ; have hb := hiTo_bnd hall; have hok : f.shop.chk = true ∧ (f.nights.length : Int) ≤ 4 := by (simp [errM_eq] at hc1); exact hc1
    refine WP.seq (WP.region ?_)
    refine WPl.v rfl (o_lss rfl rfl) ?_
    refine WPl.nil (EX.then (WP.seq ?_))
    refine WP.cond rfl (fun hc2 => ?_) (fun hc2 => ?_)
    · try simp only [cnd] at hc2
      refine WP.skip (EX.then (WP.seq (WP.block (WP.seq (WP.region ?_)))))
      refine WPl.x 4 5 rfl rfl rfl (o_idx L29 rfl (lx rfl) rfl (by first | omega | (simp; omega)) (by first | omega | (simp; omega))) ?_
      refine WPl.v rfl (o_ldqg G43 rfl (lx rfl) (strG rfl) rfl rfl) ?_
      refine WPl.l 5 6 rfl rfl rfl (o_alloc Z43) ?_
      refine WPl.s1 (o_stag G43 rfl rfl rfl ⟨rfl, rfl, rfl, trivial⟩ rfl rfl) ?_
      refine WPl.nil (EX.then (WP.seq (WP.seq (WP.region ?_))))
      refine WPl.v rfl (o_fldp F43_0 rfl) ?_
      refine WPl.v rfl (o_fldp F23_1 rfl) ?_
      refine WPl.v rfl (o_ldp S3 rfl rfl rfl) ?_
      refine WPl.cs 6 rfl rfl rfl rfl (o_sig 6 id (c59 ((nth f.nights (i : Int)).hi) 0 9) e59 rfl rfl rfl w59 trivial r59) ?_
      refine WPl.v rfl (o_not rfl) ?_
      refine WPl.v rfl (o_move rfl) ?_
      refine WPl.bit 6 7 (!(!(within ((nth f.nights (i : Int)).hi) 0 9))) rfl rfl ?_
      refine WPl.gv 6 rfl rfl (.plain rfl (by simp) rfl) (fun hb => o_fldp F43_0 rfl) ?_
      refine WPl.gv 6 rfl rfl (.plain rfl (by simp) rfl) (fun hb => o_fldp F23_0 rfl) ?_
      refine WPl.gv 6 rfl rfl (.plain rfl (by simp) rfl) (fun hb => o_ldp S3 rfl rfl rfl) ?_
      refine WPl.gv 6 rfl rfl (.plain rfl (by simp) rfl) (fun hb => o_fldp F43_0 rfl) ?_
      refine WPl.gv 6 rfl rfl (.plain rfl (by simp) rfl) (fun hb => o_fldp F23_1 rfl) ?_
      refine WPl.gv 6 rfl rfl (.plain rfl (by simp) rfl) (fun hb => o_ldp S3 rfl rfl rfl) ?_
      refine WPl.gc0 6 rfl rfl (.plain rfl (by simp) rfl) (fun hb => o_sig 7 id (c59 ((nth f.nights (i : Int)).lo) 0 ((nth f.nights (i : Int)).hi)) e59 rfl rfl rfl w59 trivial r59) ?_
      refine WPl.gv 6 rfl rfl (.plain rfl (by simp) rfl) (fun hb => o_not rfl) ?_
      refine WPl.v rfl (o_or rfl rfl rfl (by first | (simp; done) | simp_all)) ?_
      refine WPl.v rfl (o_move rfl) ?_
      refine WPl.bit 7 8 (!((!(within ((nth f.nights (i : Int)).hi) 0 9)) || (!(within ((nth f.nights (i : Int)).lo) 0 ((nth f.nights (i : Int)).hi))))) rfl rfl ?_
      refine WPl.gv 7 rfl rfl (.plain rfl (by simp) rfl) (fun hb => o_fldp F43_1 rfl) ?_
      refine WPl.gv 7 rfl rfl (.plain rfl (by simp) rfl) (fun hb => o_ldp S3 rfl rfl rfl) ?_
      refine WPl.gc0 7 rfl rfl (.plain rfl (by simp) rfl) (fun hb => o_sig 8 id (c59 ((nth f.nights (i : Int)).test) 0 1) e59 rfl rfl rfl w59 trivial r59) ?_
      refine WPl.gv 7 rfl rfl (.plain rfl (by simp) rfl) (fun hb => o_not rfl) ?_
      refine WPl.v rfl (o_or rfl rfl rfl (by first | (simp; done) | simp_all)) ?_
      refine WPl.nil (EX.then ?_)
      refine WP.cond rfl (fun hc3 => ?_) (fun hc3 => ?_)
      · try simp only [cnd] at hc3
        refine WP.seq (WP.region ?_)
        refine WPl.v rfl (o_assign rfl) ?_
        refine WPl.nil (EX.then (WP.ret (EX.ret_then (EX.ret_blk (EX.ret_then (EX.ret_then (EX.ret_blk (EX.ret_then ?_))))))))
        have hn : (nth f.nights i).chk = false := by simp [Night.chk, isSpan]; (try simp at hc3); grind
        rw [show errW f.chk = 130 from by simp [errW, Fnd.chk, not_all (show i < f.nights.length by omega) hn]]
        exact EX.fin id (.inl rfl) rfl (.tmp rfl .nil) rfl (by simp [SV.res, El.res, At.res, keys]) trivial (by simp) (by simp)
      · try simp only [cnd] at hc3
        refine WP.skip (EX.then (WP.region ?_))
        refine WPl.v rfl (o_move rfl) ?_
        refine WPl.v rfl (o_fldp F43_0 rfl) ?_
        refine WPl.v rfl (o_fldp F23_1 rfl) ?_
        refine WPl.v rfl (o_ldp S3 rfl rfl rfl) ?_
        have hn : (nth f.nights i).chk = true := by simp [Night.chk, isSpan]; simpa using hc3
        have hnb := Night.bnds hn
        refine WPl.v rfl (o_add rfl rfl (by first | omega | (simp; omega)) (by first | omega | (simp; omega))) ?_
        refine WPl.v rfl (o_assign rfl) ?_
        refine WPl.nil (EX.blk (EX.then (WP.region ?_)))
        refine WPl.v rfl (o_add rfl rfl (by first | omega | (simp; omega)) (by first | omega | (simp; omega))) ?_
        refine WPl.v rfl (o_move rfl) ?_
        refine WPl.nil ?_
        have hn : (nth f.nights i).chk = true := by simp [Night.chk, isSpan]; simpa using hc3
        refine EX.again (i + 1) id (by exact ⟨by omega, by simp [allTo, hall, hn]⟩) (by omega) (LeR.of ⟨rfl, rfl, rfl, rfl, rfl, rfl, trivial⟩ ⟨(lx rfl), (lx rfl), trivial⟩ ⟨rfl, trivial⟩ rfl rfl rfl rfl rfl)
    · try simp only [cnd] at hc2
      refine WP.exit (EX.exit_then (EX.exit_then (EX.exit_blk (EX.then (WP.seq (WP.seq (WP.region ?_)))))))
      refine WPl.v rfl (o_move rfl) ?_
      refine WPl.v rfl (o_fldp F31_0 rfl) ?_
      refine WPl.v rfl (o_fldp F28_0 rfl) ?_
      refine WPl.v rfl (o_fldp F25_1 rfl) ?_
      refine WPl.v rfl (o_fldp F23_0 rfl) ?_
      refine WPl.v rfl (o_ldp S3 rfl rfl rfl) ?_
      refine WPl.v rfl (o_gtr rfl rfl) ?_
      refine WPl.nil (EX.then ?_)
      refine WP.cond rfl (fun hc4 => ?_) (fun hc4 => ?_)
      · try simp only [cnd] at hc4
        refine WP.seq (WP.region ?_)
        refine WPl.v rfl (o_assign rfl) ?_
        refine WPl.nil (EX.then (WP.ret (EX.ret_then ?_)))
        have hi2 : i = f.nights.length := by omega
        subst hi2
        rw [show errW f.chk = 130 from by simp only [errW, Fnd.chk]; simp [show ¬ (hiTo f.nights f.nights.length ≤ f.shop.tl) by omega]]
        exact EX.fin id (.inl rfl) rfl (.tmp rfl .nil) rfl (by simp [SV.res, El.res, At.res, keys]) trivial (by simp) (by simp)
      · try simp only [cnd] at hc4
        refine WP.skip (EX.then (WP.seq (WP.region ?_)))
        refine WPl.v rfl (o_assign rfl) ?_
        refine WPl.nil (EX.then (WP.ret ?_))
        have hi2 : i = f.nights.length := by omega
        subst hi2
        rw [allTo_len] at hall
        rw [show errW f.chk = 0 from by simp only [errW, Fnd.chk]; simp [hok, hall, show hiTo f.nights f.nights.length ≤ f.shop.tl by omega]]
        exact EX.fin id (.inl rfl) rfl (.tmp rfl .nil) rfl (by simp [SV.res, El.res, At.res, keys]) trivial (by simp) (by simp)
theorem w37 {f : Fnd} {r : Option Nat} : ∀ x ∈ ([.e (.a (.q 0))] : List SV), x.res (keys (α := Pred) [(0, PP (EWk r) (f))]) := by simp [SV.res, El.res, At.res, keys]
theorem r37 {f : Fnd} : SV.res (keys (α := Pred) []) (.t [.g [ai (f.pt0.pounds), ai (f.pt0.tl), ai (f.pt0.th), ai (f.pt0.al), ai (f.pt0.ah), ai (f.pt0.dl), ai (f.pt0.dh)], .g [ai (nth (left0 f.shop.pigs) 0), ai (nth (left0 f.shop.pigs) 1), ai (nth (left0 f.shop.pigs) 2), ai (nth (left0 f.shop.pigs) 3)]]) := by simp [SV.res, El.res, At.res, keys]
set_option maxHeartbeats 4000000 in
theorem c37 (f : Fnd) (r : Option Nat) (hl : f.shop.pigs.length ≤ 4) : Sig Try.prog 37 [.e (.a (.q 0))] [(0, PP (EWk r) (f))] (.t [.g [ai (f.pt0.pounds), ai (f.pt0.tl), ai (f.pt0.th), ai (f.pt0.al), ai (f.pt0.ah), ai (f.pt0.dl), ai (f.pt0.dh)], .g [ai (nth (left0 f.shop.pigs) 0), ai (nth (left0 f.shop.pigs) 1), ai (nth (left0 f.shop.pigs) 2), ai (nth (left0 f.shop.pigs) 3)]]) [] := by
  have hll := leftTo_len f.shop.pigs
  refine Sig.intro Try.func37 rfl 1 [(0, .e (.a (.q 0)))] rfl w37 rfl rfl fun I w => ?_
  refine WP.seq (WP.region ?_)
  refine WPl.l 1 2 rfl rfl rfl (o_alloc Z84) ?_
  refine WPl.l 2 3 rfl rfl rfl (o_alloc Z86) ?_
  refine WPl.nil (EX.then (WP.seq (WP.seq (WP.region ?_))))
  refine WPl.v rfl (o_move rfl) ?_
  refine WPl.v rfl (o_nilq rfl (lx rfl)) ?_
  refine WPl.v rfl (o_fldq F103_0 rfl (lx rfl)) ?_
  refine WPl.v rfl (o_flde F31_0 rfl (lx rfl)) ?_
  refine WPl.v rfl (o_flde F28_4 rfl (lx rfl)) ?_
  refine WPl.x 3 4 rfl rfl rfl (o_ldex S26 rfl (lx rfl) (strS rfl)) ?_
  refine WPl.v rfl (o_lenq L26 rfl (lx rfl)) ?_
  refine WPl.v rfl (o_move rfl) ?_
  refine WPl.nil (EX.then (WP.block ?_))
  refine WP.loop (Gh := Nat) (fun i => ⟨4, [(0, .e (.a (.q 0))), (2, .e (.a (.p 1 (0)))), (3, .e (.a (.p 2 (0)))), (11, .e (.a (.q 3))), (12, .i ((f.shop.pigs.length : Int))), (13, .i ((i : Int)))], [(0, PP (EWk r) (f)), (3, PL EPig (f.shop.pigs))], [(1, .blk [ai (0), ai (0), ai (0), ai (0), ai (0), ai (0), ai (0)] 84), (2, .blk [ai (nth (leftTo f.shop.pigs i) 0), ai (nth (leftTo f.shop.pigs i) 1), ai (nth (leftTo f.shop.pigs i) 2), ai (nth (leftTo f.shop.pigs i) 3)] 86)], [], []⟩) (fun i => i ≤ f.shop.pigs.length) (fun i => f.shop.pigs.length - i) (0) id ?_ (LeR.of ⟨rfl, rfl, rfl, rfl, rfl, rfl, trivial⟩ ⟨(lx rfl), (lx rfl), trivial⟩ ⟨rfl, rfl, trivial⟩ rfl rfl rfl rfl rfl) ?_
  · first | trivial | omega | (constructor <;> omega) | simp
  intro i hφ
  have hi : i ≤ f.shop.pigs.length := hφ
  refine WP.seq (WP.region ?_)
  refine WPl.v rfl (o_lss rfl rfl) ?_
  refine WPl.nil (EX.then (WP.seq ?_))
  refine WP.cond rfl (fun hc1 => ?_) (fun hc1 => ?_)
  · try simp only [cnd] at hc1
    refine WP.skip (EX.then (WP.seq (WP.block (WP.seq (WP.region ?_)))))
    refine WPl.v rfl (o_move rfl) ?_
    refine WPl.x 4 5 rfl rfl rfl (o_idx L26 rfl (lx rfl) rfl (by first | omega | (simp; omega)) (by first | omega | (simp; omega))) ?_
    refine WPl.v rfl (o_ldqg G53 rfl (lx rfl) (strG rfl) rfl rfl) ?_
    refine WPl.l 5 6 rfl rfl rfl (o_alloc Z53) ?_
    refine WPl.v rfl (o_assign rfl) ?_
    refine WPl.s1 (o_stag G53 rfl rfl rfl ⟨rfl, rfl, rfl, rfl, rfl, trivial⟩ rfl rfl) ?_
    refine WPl.nil (EX.then (WP.region ?_))
    refine WPl.v rfl (o_move rfl) ?_
    refine WPl.v rfl (o_fldp F53_4 rfl) ?_
    refine WPl.v rfl (o_ldp S3 rfl rfl rfl) ?_
    refine WPl.v rfl (o_idxp A86 rfl rfl (by first | omega | (simp; omega)) (by first | omega | (simp; omega))) ?_
    refine WPl.s1 (o_stpn (n := 4) (l := leftTo f.shop.pigs i) (cs' := [ai (nth (lset (leftTo f.shop.pigs i) (i : Int) ((nth f.shop.pigs (i : Int)).many)) 0), ai (nth (lset (leftTo f.shop.pigs i) (i : Int) ((nth f.shop.pigs (i : Int)).many)) 1), ai (nth (lset (leftTo f.shop.pigs i) (i : Int) ((nth f.shop.pigs (i : Int)).many)) 2), ai (nth (lset (leftTo f.shop.pigs i) (i : Int) ((nth f.shop.pigs (i : Int)).many)) 3)]) S3 rfl rfl rfl rfl rfl (hll i) (by first | omega | (simp; omega)) (by first | omega | (simp; omega))) ?_
    refine WPl.nil (EX.blk (EX.then (WP.region ?_)))
    refine WPl.v rfl (o_add rfl rfl (by first | omega | (simp; omega)) (by first | omega | (simp; omega))) ?_
    refine WPl.v rfl (o_move rfl) ?_
    refine WPl.nil ?_
    refine EX.again (i + 1) id (by first | omega | (constructor <;> omega)) (by omega) (LeR.of ⟨rfl, rfl, rfl, rfl, rfl, rfl, trivial⟩ ⟨(lx rfl), (lx rfl), trivial⟩ ⟨rfl, rfl, trivial⟩ rfl rfl rfl rfl rfl)
  · try simp only [cnd] at hc1
    refine WP.exit (EX.exit_then (EX.exit_then (EX.exit_blk (EX.then (WP.seq ?_)))))
    refine WP.draw (nf := 4) [⟨[30, 31, 32, 33, 34, 35, 36, 37, 38, 39, 40, 41, 42, 43, 45], [], [], [], []⟩, ⟨[30, 31, 32, 33, 34, 35, 36, 37, 38, 39, 40, 41, 42, 43, 45], [], [], [], [0]⟩, ⟨[30, 31, 32, 33, 34, 35, 36, 37, 38, 39, 40, 41, 42, 43, 45], [], [], [], [0, 1]⟩, ⟨[30, 31, 32, 33, 34, 35, 36, 37, 38, 39, 40, 41, 42, 43, 45], [], [], [], [0, 1, 2]⟩, ⟨[30, 31, 32, 33, 34, 35, 36, 37, 38, 39, 40, 41, 42, 43, 45], [], [], [], [0, 1, 2, 3]⟩, ⟨[30, 31, 32, 33, 34, 35, 36, 37, 38, 39, 40, 41, 42, 43, 45], [], [], [], [0, 1, 2, 3, 4]⟩, ⟨[30, 31, 32, 33, 34, 35, 36, 37, 38, 39, 40, 41, 42, 43, 45], [], [], [], [0, 1, 2, 3, 4, 5]⟩, ⟨[23, 24, 25, 26, 27, 28, 29, 37, 38, 39, 40, 41, 42, 43, 45], [], [], [], []⟩, ⟨[23, 24, 25, 26, 27, 28, 29, 37, 38, 39, 40, 41, 42, 43, 45], [], [], [], [7]⟩, ⟨[23, 24, 25, 26, 27, 28, 29, 37, 38, 39, 40, 41, 42, 43, 45], [], [], [], [7, 8]⟩, ⟨[23, 24, 25, 26, 27, 28, 29, 37, 38, 39, 40, 41, 42, 43, 45], [], [], [], [7, 8, 9]⟩, ⟨[23, 24, 25, 26, 27, 28, 29, 37, 38, 39, 40, 41, 42, 43, 45], [], [], [], [7, 8, 9, 10]⟩, ⟨[23, 24, 25, 26, 27, 28, 29, 37, 38, 39, 40, 41, 42, 43, 45], [], [], [], [7, 8, 9, 10, 11]⟩, ⟨[23, 24, 25, 26, 27, 28, 29, 37, 38, 39, 40, 41, 42, 43, 45], [], [], [], [7, 8, 9, 10, 11, 12]⟩, ⟨[23, 24, 25, 26, 27, 28, 29, 30, 31, 32, 33, 34, 35, 36, 45], [], [], [], []⟩, ⟨[23, 24, 25, 26, 27, 28, 29, 30, 31, 32, 33, 34, 35, 36, 45], [], [], [], [14]⟩, ⟨[23, 24, 25, 26, 27, 28, 29, 30, 31, 32, 33, 34, 35, 36, 45], [], [], [], [14, 15]⟩, ⟨[23, 24, 25, 26, 27, 28, 29, 30, 31, 32, 33, 34, 35, 36, 45], [], [], [], [14, 15, 16]⟩, ⟨[23, 24, 25, 26, 27, 28, 29, 30, 31, 32, 33, 34, 35, 36, 45], [], [], [], [14, 15, 16, 17]⟩, ⟨[23, 24, 25, 26, 27, 28, 29, 30, 31, 32, 33, 34, 35, 36, 45], [], [], [], [14, 15, 16, 17, 18]⟩, ⟨[23, 24, 25, 26, 27, 28, 29, 30, 31, 32, 33, 34, 35, 36, 45], [], [], [], [14, 15, 16, 17, 18, 19]⟩, ⟨[45], [], [], [], [0, 1, 2, 3, 4, 5, 6, 7, 8, 9, 10, 11, 12, 13, 14, 15, 16, 17, 18, 19, 20]⟩, ⟨[23, 24, 25, 26, 27, 28, 29, 30, 31, 32, 33, 34, 35, 36, 37, 38, 39, 40, 41, 42, 43, 44], [1], [], [], []⟩, ⟨[45], [], [], [1], [0, 1, 2, 3, 4, 5, 6, 7, 8, 9, 10, 11, 12, 13, 14, 15, 16, 17, 18, 19, 20, 21]⟩, ⟨[], [], [], [2], [0, 1, 2, 3, 4, 5, 6, 7, 8, 9, 10, 11, 12, 13, 14, 15, 16, 17, 18, 19, 20, 21, 22, 23]⟩] (by kernel_rfl) (by kernel_rfl) ?_
    refine DRQ.v rfl rfl rfl (o_move rfl) ?_
    refine DRQ.v rfl rfl rfl (o_nilq rfl (lx rfl)) ?_
    refine DRQ.v rfl rfl rfl (o_fldq F103_0 rfl (lx rfl)) ?_
    refine DRQ.v rfl rfl rfl (o_flde F31_0 rfl (lx rfl)) ?_
    refine DRQ.v rfl rfl rfl (o_flde F28_0 rfl (lx rfl)) ?_
    refine DRQ.v rfl rfl rfl (o_flde F25_0 rfl (lx rfl)) ?_
    refine DRQ.v rfl rfl rfl (o_lde S3 rfl (lx rfl) (strI rfl)) ?_
    refine DRQ.v rfl rfl rfl (o_move rfl) ?_
    refine DRQ.v rfl rfl rfl (o_nilq rfl (lx rfl)) ?_
    refine DRQ.v rfl rfl rfl (o_fldq F103_0 rfl (lx rfl)) ?_
    refine DRQ.v rfl rfl rfl (o_flde F31_0 rfl (lx rfl)) ?_
    refine DRQ.v rfl rfl rfl (o_flde F28_0 rfl (lx rfl)) ?_
    refine DRQ.v rfl rfl rfl (o_flde F25_1 rfl (lx rfl)) ?_
    refine DRQ.v rfl rfl rfl (o_ldeg G23 rfl (lx rfl) (strG rfl) rfl rfl) ?_
    refine DRQ.v rfl rfl rfl (o_move rfl) ?_
    refine DRQ.v rfl rfl rfl (o_nilq rfl (lx rfl)) ?_
    refine DRQ.v rfl rfl rfl (o_fldq F103_0 rfl (lx rfl)) ?_
    refine DRQ.v rfl rfl rfl (o_flde F31_0 rfl (lx rfl)) ?_
    refine DRQ.v rfl rfl rfl (o_flde F28_0 rfl (lx rfl)) ?_
    refine DRQ.v rfl rfl rfl (o_flde F25_2 rfl (lx rfl)) ?_
    refine DRQ.v rfl rfl rfl (o_ldeg G23 rfl (lx rfl) (strG rfl) rfl rfl) ?_
    refine DRQ.v rfl rfl rfl (o_build B84 rfl ⟨rfl, trivial⟩ rfl rfl) ?_
    refine DRQ.v rfl rfl rfl (o_ldpa G86 rfl rfl rfl) ?_
    refine DRQ.s 1 rfl rfl rfl (o_stag G84 rfl rfl rfl ⟨rfl, rfl, rfl, rfl, rfl, rfl, rfl, trivial⟩ rfl rfl) ?_
    refine DRQ.s 2 rfl rfl rfl (o_stag G86 rfl rfl rfl ⟨rfl, rfl, rfl, rfl, trivial⟩ rfl rfl) ?_
    refine DRQ.nil' ?_
    refine EX.then (WP.ret ?_)
    have he : i = f.shop.pigs.length := by omega
    subst he
    exact EX.fin id (.inl rfl) rfl (.cellg G84 rfl rfl rfl (.cellg G86 rfl rfl rfl (.nil))) rfl (by simp [SV.res, El.res, At.res, keys]) trivial (by simp) (by simp)
theorem w63 {f : Fnd} {r : Option Nat} {p : Pt} {l : List Int} : ∀ x ∈ ([.e (.a (.q 0)), .e (.g [ai (p.pounds), ai (p.tl), ai (p.th), ai (p.al), ai (p.ah), ai (p.dl), ai (p.dh)]), .e (.a (.q 1))] : List SV), x.res (keys (α := Pred) [(0, PP (EWk r) (f)), (1, PL EP.int (l))]) := by simp [SV.res, El.res, At.res, keys]
theorem r63 {f : Fnd} {p : Pt} {l : List Int} : SV.res (keys (α := Pred) []) (.e (.g [ai ((p.addL f.shop.pigs l).pounds), ai ((p.addL f.shop.pigs l).tl), ai ((p.addL f.shop.pigs l).th), ai ((p.addL f.shop.pigs l).al), ai ((p.addL f.shop.pigs l).ah), ai ((p.addL f.shop.pigs l).dl), ai ((p.addL f.shop.pigs l).dh)])) := by simp [SV.res, El.res, At.res, keys]
set_option maxHeartbeats 4000000 in
theorem c63 (f : Fnd) (r : Option Nat) (p : Pt) (l : List Int) (m : Int) (hp : PtB p m) (hm : m ≤ 100000000) (hg : PigsOK f.shop.pigs) (hl : l.length ≤ f.shop.pigs.length) (hb : bnd l 1000) : Sig Try.prog 63 [.e (.a (.q 0)), .e (.g [ai (p.pounds), ai (p.tl), ai (p.th), ai (p.al), ai (p.ah), ai (p.dl), ai (p.dh)]), .e (.a (.q 1))] [(0, PP (EWk r) (f)), (1, PL EP.int (l))] (.e (.g [ai ((p.addL f.shop.pigs l).pounds), ai ((p.addL f.shop.pigs l).tl), ai ((p.addL f.shop.pigs l).th), ai ((p.addL f.shop.pigs l).al), ai ((p.addL f.shop.pigs l).ah), ai ((p.addL f.shop.pigs l).dl), ai ((p.addL f.shop.pigs l).dh)])) [] := by
  have hab := fun i hi => addTo_bnd hp hg hl hb (i := i) hi
  have hg4 := hg.2
  have hp0 := hp
  unfold PtB at hp0
  refine Sig.intro Try.func63 rfl 2 [(0, .e (.a (.q 0))), (1, .e (.g [ai (p.pounds), ai (p.tl), ai (p.th), ai (p.al), ai (p.ah), ai (p.dl), ai (p.dh)])), (2, .e (.a (.q 1)))] rfl w63 rfl rfl fun I w => ?_
  refine WP.seq (WP.region ?_)
  refine WPl.l 2 3 rfl rfl rfl (o_boxg rfl) ?_
  refine WPl.l 3 4 rfl rfl rfl (o_alloc Z84) ?_
  refine WPl.nil (EX.then (WP.seq (WP.seq (WP.region ?_))))
  refine WPl.v rfl (o_move rfl) ?_
  refine WPl.v rfl (o_lenq L32 rfl (lx rfl)) ?_
  refine WPl.v rfl (o_move rfl) ?_
  refine WPl.nil (EX.then (WP.block ?_))
  refine WP.loop (Gh := Nat) (fun i => ⟨4, [(0, .e (.a (.q 0))), (4, .e (.a (.p 2 (0)))), (6, .e (.a (.p 3 (0)))), (10, .e (.a (.q 1))), (11, .i ((l.length : Int))), (12, .i ((i : Int)))], [(0, PP (EWk r) (f)), (1, PL EP.int (l))], [(2, .blk [ai ((p.addTo f.shop.pigs l i).pounds), ai ((p.addTo f.shop.pigs l i).tl), ai ((p.addTo f.shop.pigs l i).th), ai ((p.addTo f.shop.pigs l i).al), ai ((p.addTo f.shop.pigs l i).ah), ai ((p.addTo f.shop.pigs l i).dl), ai ((p.addTo f.shop.pigs l i).dh)] 84), (3, .blk [ai (0), ai (0), ai (0), ai (0), ai (0), ai (0), ai (0)] 84)], [], []⟩) (fun i => i ≤ l.length) (fun i => l.length - i) (0) id ?_ (LeR.of ⟨rfl, rfl, rfl, rfl, rfl, rfl, trivial⟩ ⟨(lx rfl), (lx rfl), trivial⟩ ⟨(congrArg (fun z => some (Ent.blk z 84)) (List.cons_eq_cons.2 ⟨(congrArg (fun z => ai z) (show (p.pounds) = ((fun i => (p.addTo f.shop.pigs l i).pounds) 0) from by simp [Pt.addTo, sumTo])), (List.cons_eq_cons.2 ⟨(congrArg (fun z => ai z) (show (p.tl) = ((fun i => (p.addTo f.shop.pigs l i).tl) 0) from by simp [Pt.addTo, sumTo])), (List.cons_eq_cons.2 ⟨(congrArg (fun z => ai z) (show (p.th) = ((fun i => (p.addTo f.shop.pigs l i).th) 0) from by simp [Pt.addTo, sumTo])), (List.cons_eq_cons.2 ⟨(congrArg (fun z => ai z) (show (p.al) = ((fun i => (p.addTo f.shop.pigs l i).al) 0) from by simp [Pt.addTo, sumTo])), (List.cons_eq_cons.2 ⟨(congrArg (fun z => ai z) (show (p.ah) = ((fun i => (p.addTo f.shop.pigs l i).ah) 0) from by simp [Pt.addTo, sumTo])), (List.cons_eq_cons.2 ⟨(Eq.refl (ai (p.dl))), (List.cons_eq_cons.2 ⟨(Eq.refl (ai (p.dh))), (Eq.refl [])⟩)⟩)⟩)⟩)⟩)⟩)⟩)), rfl, trivial⟩ rfl rfl rfl rfl rfl) ?_
  · first | trivial | omega | (constructor <;> omega) | simp
  intro i hφ
  have hi : i ≤ l.length := hφ
  refine WP.seq (WP.region ?_)
  refine WPl.v rfl (o_lss rfl rfl) ?_
  refine WPl.nil (EX.then (WP.seq ?_))
  refine WP.cond rfl (fun hc1 => ?_) (fun hc1 => ?_)
  · try simp only [cnd] at hc1
    refine WP.skip (EX.then (WP.seq (WP.block (WP.seq (WP.region ?_)))))
    refine WPl.v rfl (o_move rfl) ?_
    refine WPl.x 4 5 rfl rfl rfl (o_idx L32 rfl (lx rfl) rfl (by first | omega | (simp; omega)) (by first | omega | (simp; omega))) ?_
    have h0 := hab i (by omega)
    unfold PtB at h0
    have h1 := hb i (by omega)
    have h2 := Pig.bnds (hg.at (show i < f.shop.pigs.length by omega))
    have h3 := mulb (A := 1000) (B := 40) h1.1 h1.2 (show 0 ≤ (nth f.shop.pigs i).pounds by omega) (by omega)
    have h4 := mulb (A := 1000) (B := 40) h1.1 h1.2 (show 0 ≤ (nth f.shop.pigs i).tin by omega) (by omega)
    have h5 := mulb (A := 1000) (B := 40) h1.1 h1.2 (show 0 ≤ (nth f.shop.pigs i).ant by omega) (by omega)
    refine WPl.v rfl (o_ldq S3 rfl (lx rfl) intc) ?_
    refine WPl.v rfl (o_assign rfl) ?_
    refine WPl.v rfl (o_assign rfl) ?_
    refine WPl.nil (EX.then (WP.seq (WP.region ?_)))
    refine WPl.v rfl (o_move rfl) ?_
    refine WPl.v rfl (o_nilq rfl (lx rfl)) ?_
    refine WPl.v rfl (o_fldq F103_0 rfl (lx rfl)) ?_
    refine WPl.v rfl (o_flde F31_0 rfl (lx rfl)) ?_
    refine WPl.v rfl (o_flde F28_4 rfl (lx rfl)) ?_
    refine WPl.x 5 6 rfl rfl rfl (o_ldex S26 rfl (lx rfl) (strS rfl)) ?_
    refine WPl.v rfl (o_move rfl) ?_
    refine WPl.x 6 7 rfl rfl rfl (o_idx L26 rfl (lx rfl) rfl (by first | omega | (simp; omega)) (by first | omega | (simp; omega))) ?_
    refine WPl.v rfl (o_ldqg G53 rfl (lx rfl) (strG rfl) rfl rfl) ?_
    refine WPl.l 7 8 rfl rfl rfl (o_alloc Z53) ?_
    refine WPl.s1 (o_stag G53 rfl rfl rfl ⟨rfl, rfl, rfl, rfl, rfl, trivial⟩ rfl rfl) ?_
    refine WPl.nil (EX.then (WP.seq (WP.region ?_)))
    refine WPl.v rfl (o_fldp F84_0 rfl) ?_
    refine WPl.v rfl (o_ldp S3 rfl rfl rfl) ?_
    refine WPl.v rfl (o_move rfl) ?_
    refine WPl.v rfl (o_fldp F53_0 rfl) ?_
    refine WPl.v rfl (o_ldp S3 rfl rfl rfl) ?_
    refine WPl.v rfl (o_mul rfl rfl (by first | omega | (simp; omega)) (by first | omega | (simp; omega))) ?_
    refine WPl.v rfl (o_add rfl rfl (by first | omega | (simp; omega)) (by first | omega | (simp; omega))) ?_
    refine WPl.v rfl (o_fldp F84_0 rfl) ?_
    refine WPl.s1 (o_sta S3 rfl rfl rfl rfl rfl) ?_
    refine WPl.nil (EX.then (WP.seq (WP.region ?_)))
    refine WPl.v rfl (o_fldp F84_1 rfl) ?_
    refine WPl.v rfl (o_ldpg G23 rfl rfl rfl) ?_
    refine WPl.v rfl (o_move rfl) ?_
    refine WPl.v rfl (o_fldp F53_1 rfl) ?_
    refine WPl.v rfl (o_ldp S3 rfl rfl rfl) ?_
    refine WPl.v rfl (o_mul rfl rfl (by first | omega | (simp; omega)) (by first | omega | (simp; omega))) ?_
    refine WPl.cs 8 rfl rfl rfl rfl (o_sig 8 id (c65 ((p.addTo f.shop.pigs l i).tl) ((p.addTo f.shop.pigs l i).th) ((nth l (i : Int)) * ((nth f.shop.pigs (i : Int)).tin)) (by omega) (by omega) (by omega)) e65 rfl rfl rfl w65 trivial r65) ?_
    refine WPl.v rfl (o_fldp F84_1 rfl) ?_
    refine WPl.s1 (o_stag G23 rfl rfl rfl ⟨rfl, rfl, trivial⟩ rfl rfl) ?_
    refine WPl.nil (EX.then (WP.region ?_))
    refine WPl.v rfl (o_fldp F84_2 rfl) ?_
    refine WPl.v rfl (o_ldpg G23 rfl rfl rfl) ?_
    refine WPl.v rfl (o_move rfl) ?_
    refine WPl.v rfl (o_fldp F53_2 rfl) ?_
    refine WPl.v rfl (o_ldp S3 rfl rfl rfl) ?_
    refine WPl.v rfl (o_mul rfl rfl (by first | omega | (simp; omega)) (by first | omega | (simp; omega))) ?_
    refine WPl.cs 8 rfl rfl rfl rfl (o_sig 8 id (c65 ((p.addTo f.shop.pigs l i).al) ((p.addTo f.shop.pigs l i).ah) ((nth l (i : Int)) * ((nth f.shop.pigs (i : Int)).ant)) (by omega) (by omega) (by omega)) e65 rfl rfl rfl w65 trivial r65) ?_
    refine WPl.v rfl (o_fldp F84_2 rfl) ?_
    refine WPl.s1 (o_stag G23 rfl rfl rfl ⟨rfl, rfl, trivial⟩ rfl rfl) ?_
    refine WPl.nil (EX.blk (EX.then (WP.region ?_)))
    refine WPl.v rfl (o_add rfl rfl (by first | omega | (simp; omega)) (by first | omega | (simp; omega))) ?_
    refine WPl.v rfl (o_move rfl) ?_
    refine WPl.nil ?_
    refine EX.again (i + 1) id (by first | omega | (constructor <;> omega)) (by omega) (LeR.of ⟨rfl, rfl, rfl, rfl, rfl, rfl, trivial⟩ ⟨(lx rfl), (lx rfl), trivial⟩ ⟨(congrArg (fun z => some (Ent.blk z 84)) (List.cons_eq_cons.2 ⟨(congrArg (fun z => ai z) (show (((p.addTo f.shop.pigs l i).pounds) + ((nth l (i : Int)) * ((nth f.shop.pigs (i : Int)).pounds))) = ((fun i => (p.addTo f.shop.pigs l i).pounds) (i + 1)) from by simp only [Pt.addTo, sumTo]; omega)), (List.cons_eq_cons.2 ⟨(congrArg (fun z => ai z) (show (((p.addTo f.shop.pigs l i).tl) + ((nth l (i : Int)) * ((nth f.shop.pigs (i : Int)).tin))) = ((fun i => (p.addTo f.shop.pigs l i).tl) (i + 1)) from by simp only [Pt.addTo, sumTo]; omega)), (List.cons_eq_cons.2 ⟨(congrArg (fun z => ai z) (show (((p.addTo f.shop.pigs l i).th) + ((nth l (i : Int)) * ((nth f.shop.pigs (i : Int)).tin))) = ((fun i => (p.addTo f.shop.pigs l i).th) (i + 1)) from by simp only [Pt.addTo, sumTo]; omega)), (List.cons_eq_cons.2 ⟨(congrArg (fun z => ai z) (show (((p.addTo f.shop.pigs l i).al) + ((nth l (i : Int)) * ((nth f.shop.pigs (i : Int)).ant))) = ((fun i => (p.addTo f.shop.pigs l i).al) (i + 1)) from by simp only [Pt.addTo, sumTo]; omega)), (List.cons_eq_cons.2 ⟨(congrArg (fun z => ai z) (show (((p.addTo f.shop.pigs l i).ah) + ((nth l (i : Int)) * ((nth f.shop.pigs (i : Int)).ant))) = ((fun i => (p.addTo f.shop.pigs l i).ah) (i + 1)) from by simp only [Pt.addTo, sumTo]; omega)), (List.cons_eq_cons.2 ⟨(Eq.refl (ai ((p.addTo f.shop.pigs l i).dl))), (List.cons_eq_cons.2 ⟨(Eq.refl (ai ((p.addTo f.shop.pigs l i).dh))), (Eq.refl [])⟩)⟩)⟩)⟩)⟩)⟩)⟩)), rfl, trivial⟩ rfl rfl rfl rfl rfl)
  · try simp only [cnd] at hc1
    refine WP.exit (EX.exit_then (EX.exit_then (EX.exit_blk (EX.then (WP.seq (WP.region ?_))))))
    refine WPl.v rfl (o_ldpa G84 rfl rfl rfl) ?_
    refine WPl.s1 (o_stag G84 rfl rfl rfl ⟨rfl, rfl, rfl, rfl, rfl, rfl, rfl, trivial⟩ rfl rfl) ?_
    refine WPl.nil (EX.then (WP.ret ?_))
    have he : i = l.length := by omega
    subst he
    exact EX.fin id (.inl rfl) rfl (.cellg G84 rfl rfl rfl (.nil)) rfl (by simp [SV.res, El.res, At.res, keys]) trivial (by simp) (by simp)
theorem w76 {p : Pt} {n : Night} : ∀ x ∈ ([.e (.g [ai (p.pounds), ai (p.tl), ai (p.th), ai (p.al), ai (p.ah), ai (p.dl), ai (p.dh)]), .e (.g [ai (n.lo), ai (n.hi), ai (n.test)])] : List SV), x.res (keys (α := Pred) []) := by simp [SV.res, El.res, At.res, keys]
theorem r76 {p : Pt} {n : Night} : SV.res (keys (α := Pred) []) (.e (.g [ai ((p.lose n).pounds), ai ((p.lose n).tl), ai ((p.lose n).th), ai ((p.lose n).al), ai ((p.lose n).ah), ai ((p.lose n).dl), ai ((p.lose n).dh)])) := by simp [SV.res, El.res, At.res, keys]
set_option maxHeartbeats 4000000 in
theorem c76 (p : Pt) (n : Night) (m : Int) (hp : PtB p m) (hm : m ≤ 100000000) (hn : n.chk = true) : Sig Try.prog 76 [.e (.g [ai (p.pounds), ai (p.tl), ai (p.th), ai (p.al), ai (p.ah), ai (p.dl), ai (p.dh)]), .e (.g [ai (n.lo), ai (n.hi), ai (n.test)])] [] (.e (.g [ai ((p.lose n).pounds), ai ((p.lose n).tl), ai ((p.lose n).th), ai ((p.lose n).al), ai ((p.lose n).ah), ai ((p.lose n).dl), ai ((p.lose n).dh)])) [] := by
  unfold PtB at hp
  have hnb := Night.bnds hn
  refine Sig.intro Try.func76 rfl 0 [(0, .e (.g [ai (p.pounds), ai (p.tl), ai (p.th), ai (p.al), ai (p.ah), ai (p.dl), ai (p.dh)])), (1, .e (.g [ai (n.lo), ai (n.hi), ai (n.test)]))] rfl w76 rfl rfl fun I w => ?_
  refine WP.seq (WP.region ?_)
  refine WPl.l 0 1 rfl rfl rfl (o_boxg rfl) ?_
  refine WPl.l 1 2 rfl rfl rfl (o_boxg rfl) ?_
  refine WPl.l 2 3 rfl rfl rfl (o_alloc Z84) ?_
  refine WPl.nil (EX.then (WP.seq (WP.region ?_)))
  refine WPl.v rfl (o_fldp F84_3 rfl) ?_
  refine WPl.v rfl (o_fldp F23_0 rfl) ?_
  refine WPl.v rfl (o_ldp S3 rfl rfl rfl) ?_
  refine WPl.v rfl (o_fldp F43_0 rfl) ?_
  refine WPl.v rfl (o_fldp F23_0 rfl) ?_
  refine WPl.v rfl (o_ldp S3 rfl rfl rfl) ?_
  refine WPl.v rfl (o_add rfl rfl (by first | omega | (simp; omega)) (by first | omega | (simp; omega))) ?_
  refine WPl.v rfl (o_fldp F84_3 rfl) ?_
  refine WPl.v rfl (o_fldp F23_1 rfl) ?_
  refine WPl.v rfl (o_ldp S3 rfl rfl rfl) ?_
  refine WPl.v rfl (o_fldp F43_0 rfl) ?_
  refine WPl.v rfl (o_fldp F23_1 rfl) ?_
  refine WPl.v rfl (o_ldp S3 rfl rfl rfl) ?_
  refine WPl.v rfl (o_add rfl rfl (by first | omega | (simp; omega)) (by first | omega | (simp; omega))) ?_
  refine WPl.v rfl (o_build B23 rfl ⟨rfl, rfl, trivial⟩ rfl rfl) ?_
  refine WPl.v rfl (o_fldp F84_3 rfl) ?_
  refine WPl.s1 (o_stag G23 rfl rfl rfl ⟨rfl, rfl, trivial⟩ rfl rfl) ?_
  refine WPl.nil (EX.then (WP.seq (WP.region ?_)))
  refine WPl.v rfl (o_ldpa G84 rfl rfl rfl) ?_
  refine WPl.s1 (o_stag G84 rfl rfl rfl ⟨rfl, rfl, rfl, rfl, rfl, rfl, rfl, trivial⟩ rfl rfl) ?_
  refine WPl.nil (EX.then (WP.ret ?_))
  exact EX.fin id (.inl rfl) rfl (.cellg G84 rfl rfl rfl (.nil)) rfl r76 trivial (by simp) (by simp)
theorem w61 {f : Fnd} {r : Option Nat} {p : Pt} : ∀ x ∈ ([.e (.a (.q 0)), .e (.g [ai (p.pounds), ai (p.tl), ai (p.th), ai (p.al), ai (p.ah), ai (p.dl), ai (p.dh)])] : List SV), x.res (keys (α := Pred) [(0, PP (EWk r) (f))]) := by simp [SV.res, El.res, At.res, keys]
theorem r61 {f : Fnd} {p : Pt} : SV.res (keys (α := Pred) []) (.b (f.fitsP p)) := by simp [SV.res, El.res, At.res, keys]
set_option maxHeartbeats 4000000 in
theorem c61 (f : Fnd) (r : Option Nat) (p : Pt) (m : Int) (hp : PtB p m) (hm : m ≤ 100000000) : Sig Try.prog 61 [.e (.a (.q 0)), .e (.g [ai (p.pounds), ai (p.tl), ai (p.th), ai (p.al), ai (p.ah), ai (p.dl), ai (p.dh)])] [(0, PP (EWk r) (f))] (.b (f.fitsP p)) [] := by
  unfold PtB at hp
  refine Sig.intro Try.func61 rfl 1 [(0, .e (.a (.q 0))), (1, .e (.g [ai (p.pounds), ai (p.tl), ai (p.th), ai (p.al), ai (p.ah), ai (p.dl), ai (p.dh)]))] rfl w61 rfl rfl fun I w => ?_
  refine WP.seq (WP.region ?_)
  refine WPl.l 1 2 rfl rfl rfl (o_boxg rfl) ?_
  refine WPl.v rfl (o_assign rfl) ?_
  refine WPl.nil (EX.then (WP.seq ?_))
  refine WP.draw (nf := 2) [⟨[7, 8, 9, 11, 12, 13, 14, 15, 16], [], [], [], []⟩, ⟨[7, 8, 9, 11, 12, 13, 14, 15, 16], [], [], [], [0]⟩, ⟨[5, 6, 11, 12, 13, 14, 15, 16], [], [], [], []⟩, ⟨[5, 6, 11, 12, 13, 14, 15, 16], [], [], [], [2]⟩, ⟨[5, 6, 11, 12, 13, 14, 15, 16], [], [], [], [2, 3]⟩, ⟨[11, 12, 13, 14, 15, 16], [], [], [], [0, 1, 2, 3, 4]⟩, ⟨[5, 6, 7, 8, 9, 10], [], [], [], []⟩, ⟨[5, 6, 7, 8, 9, 10], [], [], [], [6]⟩, ⟨[5, 6, 7, 8, 9, 10], [], [], [], [6, 7]⟩, ⟨[5, 6, 7, 8, 9, 10], [], [], [], [6, 7, 8]⟩, ⟨[5, 6, 7, 8, 9, 10], [], [], [], [6, 7, 8, 9]⟩, ⟨[5, 6, 7, 8, 9, 10], [], [], [], [6, 7, 8, 9, 10]⟩, ⟨[], [], [], [], [0, 1, 2, 3, 4, 5, 6, 7, 8, 9, 10, 11]⟩, ⟨[], [], [], [], [0, 1, 2, 3, 4, 5, 6, 7, 8, 9, 10, 11, 12]⟩] (by kernel_rfl) (by kernel_rfl) ?_
  refine DRQ.v rfl rfl rfl (o_fldp F84_0 rfl) ?_
  refine DRQ.v rfl rfl rfl (o_ldp S3 rfl rfl rfl) ?_
  refine DRQ.v rfl rfl rfl (o_fldp F84_3 rfl) ?_
  refine DRQ.v rfl rfl rfl (o_fldp F23_0 rfl) ?_
  refine DRQ.v rfl rfl rfl (o_ldp S3 rfl rfl rfl) ?_
  refine DRQ.v rfl rfl rfl (o_sub rfl rfl (by first | omega | (simp; omega)) (by first | omega | (simp; omega))) ?_
  refine DRQ.v rfl rfl rfl (o_move rfl) ?_
  refine DRQ.v rfl rfl rfl (o_nilq rfl (lx rfl)) ?_
  refine DRQ.v rfl rfl rfl (o_fldq F103_0 rfl (lx rfl)) ?_
  refine DRQ.v rfl rfl rfl (o_flde F31_0 rfl (lx rfl)) ?_
  refine DRQ.v rfl rfl rfl (o_flde F28_1 rfl (lx rfl)) ?_
  refine DRQ.v rfl rfl rfl (o_lde S3 rfl (lx rfl) (strI rfl)) ?_
  refine DRQ.v rfl rfl rfl (o_leq rfl rfl) ?_
  refine DRQ.v rfl rfl rfl (o_assign rfl) ?_
  refine DRQ.nil' ?_
  refine EX.then (WP.ret ?_)
  exact EX.fin id (.inl rfl) rfl (.tmp rfl .nil) rfl r61 trivial (by simp) (by simp)
theorem w62 {f : Fnd} {r : Option Nat} {p : Pt} : ∀ x ∈ ([.e (.a (.q 0)), .e (.g [ai (p.pounds), ai (p.tl), ai (p.th), ai (p.al), ai (p.ah), ai (p.dl), ai (p.dh)])] : List SV), x.res (keys (α := Pred) [(0, PP (EWk r) (f))]) := by simp [SV.res, El.res, At.res, keys]
theorem r62 {f : Fnd} {p : Pt} : SV.res (keys (α := Pred) []) (.b (f.sureP p)) := by simp [SV.res, El.res, At.res, keys]
set_option maxHeartbeats 4000000 in
theorem c62 (f : Fnd) (r : Option Nat) (p : Pt) (m : Int) (hp : PtB p m) (hm : m ≤ 100000000) (hs : f.shop.chk = true) : Sig Try.prog 62 [.e (.a (.q 0)), .e (.g [ai (p.pounds), ai (p.tl), ai (p.th), ai (p.al), ai (p.ah), ai (p.dl), ai (p.dh)])] [(0, PP (EWk r) (f))] (.b (f.sureP p)) [] := by
  unfold PtB at hp
  have htb := tl_bnd hs
  have m0 := mulB (a := p.pounds - p.dh) (A := 200000000) (b := f.shop.tpl) (B := 1000) (by omega) (by omega) (by omega) (by omega) (by omega)
  have m1 := mulB (a := p.pounds - p.dl) (A := 200000000) (b := f.shop.tph) (B := 1000) (by omega) (by omega) (by omega) (by omega) (by omega)
  have m2 := mulB (a := p.pounds - p.dl) (A := 200000000) (b := f.shop.apl) (B := 1000) (by omega) (by omega) (by omega) (by omega) (by omega)
  have m3 := mulB (a := p.pounds - p.dh) (A := 200000000) (b := f.shop.aph) (B := 1000) (by omega) (by omega) (by omega) (by omega) (by omega)
  refine Sig.intro Try.func62 rfl 1 [(0, .e (.a (.q 0))), (1, .e (.g [ai (p.pounds), ai (p.tl), ai (p.th), ai (p.al), ai (p.ah), ai (p.dl), ai (p.dh)]))] rfl w62 rfl rfl fun I w => ?_
  refine WP.seq (WP.region ?_)
  refine WPl.l 1 2 rfl rfl rfl (o_boxg rfl) ?_
  refine WPl.v rfl (o_assign rfl) ?_
  refine WPl.nil (EX.then (WP.seq ?_))
  refine WP.draw (nf := 4) [⟨[15, 16, 17, 18, 19, 20, 5, 6], [2, 3], [], [], []⟩, ⟨[15, 16, 17, 18, 19, 20, 5, 6], [2, 3], [], [], [0]⟩, ⟨[15, 16, 17, 18, 19, 20, 5, 6], [2, 3], [], [], [0, 1]⟩, ⟨[15, 16, 17, 18, 19, 20, 5, 6], [2, 3], [], [], [0, 1, 2]⟩, ⟨[15, 16, 17, 18, 19, 20, 5, 6], [2, 3], [], [], [0, 1, 2, 3]⟩, ⟨[15, 16, 17, 18, 19, 20, 5, 6], [2, 3], [], [], [0, 1, 2, 3, 4]⟩, ⟨[9, 10, 11, 12, 13, 14, 5, 6], [2, 3], [], [], []⟩, ⟨[9, 10, 11, 12, 13, 14, 5, 6], [2, 3], [], [], [6]⟩, ⟨[9, 10, 11, 12, 13, 14, 5, 6], [2, 3], [], [], [6, 7]⟩, ⟨[9, 10, 11, 12, 13, 14, 5, 6], [2, 3], [], [], [6, 7, 8]⟩, ⟨[9, 10, 11, 12, 13, 14, 5, 6], [2, 3], [], [], [6, 7, 8, 9]⟩, ⟨[9, 10, 11, 12, 13, 14, 5, 6], [2, 3], [], [], [6, 7, 8, 9, 10]⟩, ⟨[9, 10, 11, 12, 13, 14, 15, 16, 17, 18, 19, 20, 6], [3], [2], [2], []⟩, ⟨[9, 10, 11, 12, 13, 14, 15, 16, 17, 18, 19, 20, 5], [2], [3], [3], []⟩, ⟨[15, 16, 17, 18, 19, 20], [], [], [2], [0, 1, 2, 3, 4, 5, 12, 13]⟩, ⟨[], [], [], [3], [0, 1, 2, 3, 4, 5, 6, 7, 8, 9, 10, 11, 12, 13, 14]⟩] (by kernel_rfl) (by kernel_rfl) ?_
  refine DRQ.v rfl rfl rfl (o_move rfl) ?_
  refine DRQ.v rfl rfl rfl (o_nilq rfl (lx rfl)) ?_
  refine DRQ.v rfl rfl rfl (o_fldq F103_0 rfl (lx rfl)) ?_
  refine DRQ.v rfl rfl rfl (o_flde F31_0 rfl (lx rfl)) ?_
  refine DRQ.v rfl rfl rfl (o_flde F28_2 rfl (lx rfl)) ?_
  refine DRQ.v rfl rfl rfl (o_ldeg G23 rfl (lx rfl) (strG rfl) rfl rfl) ?_
  refine DRQ.v rfl rfl rfl (o_move rfl) ?_
  refine DRQ.v rfl rfl rfl (o_nilq rfl (lx rfl)) ?_
  refine DRQ.v rfl rfl rfl (o_fldq F103_0 rfl (lx rfl)) ?_
  refine DRQ.v rfl rfl rfl (o_flde F31_0 rfl (lx rfl)) ?_
  refine DRQ.v rfl rfl rfl (o_flde F28_3 rfl (lx rfl)) ?_
  refine DRQ.v rfl rfl rfl (o_ldeg G23 rfl (lx rfl) (strG rfl) rfl rfl) ?_
  refine DRQ.l 2 rfl rfl rfl rfl (o_alloc Z23) ?_
  refine DRQ.l 3 rfl rfl rfl rfl (o_alloc Z23) ?_
  refine DRQ.s 2 rfl rfl rfl (o_stag G23 rfl rfl rfl ⟨rfl, rfl, trivial⟩ rfl rfl) ?_
  refine DRQ.s 3 rfl rfl rfl (o_stag G23 rfl rfl rfl ⟨rfl, rfl, trivial⟩ rfl rfl) ?_
  refine DRQ.nil' ?_
  refine EX.then (WP.seq ?_)
  refine WP.draw (nf := 4) [⟨[23, 24, 25, 27, 28, 29, 30, 31, 32], [], [], [], []⟩, ⟨[23, 24, 25, 27, 28, 29, 30, 31, 32], [], [], [], [0]⟩, ⟨[21, 22, 27, 28, 29, 30, 31, 32], [], [], [], []⟩, ⟨[21, 22, 27, 28, 29, 30, 31, 32], [], [], [], [2]⟩, ⟨[21, 22, 27, 28, 29, 30, 31, 32], [], [], [], [2, 3]⟩, ⟨[27, 28, 29, 30, 31, 32], [], [], [], [0, 1, 2, 3, 4]⟩, ⟨[21, 22, 23, 24, 25, 26, 29, 30, 31, 7], [], [], [], []⟩, ⟨[21, 22, 23, 24, 25, 26, 29, 30, 31, 7], [], [], [], [6]⟩, ⟨[21, 22, 23, 24, 25, 26, 27, 28, 7], [], [], [], []⟩, ⟨[21, 22, 23, 24, 25, 26, 27, 28, 7], [], [], [], [8]⟩, ⟨[21, 22, 23, 24, 25, 26, 27, 28, 7], [], [], [], [8, 9]⟩, ⟨[21, 22, 23, 24, 25, 26, 7], [], [], [], [6, 7, 8, 9, 10]⟩, ⟨[27, 28, 29, 30, 31, 32], [], [], [], [0, 1, 2, 3, 4, 5]⟩, ⟨[], [], [], [], [0, 1, 2, 3, 4, 5, 6, 7, 8, 9, 10, 11, 12]⟩] (by kernel_rfl) (by kernel_rfl) ?_
  refine DRQ.v rfl rfl rfl (o_fldp F84_0 rfl) ?_
  refine DRQ.v rfl rfl rfl (o_ldp S3 rfl rfl rfl) ?_
  refine DRQ.v rfl rfl rfl (o_fldp F84_3 rfl) ?_
  refine DRQ.v rfl rfl rfl (o_fldp F23_0 rfl) ?_
  refine DRQ.v rfl rfl rfl (o_ldp S3 rfl rfl rfl) ?_
  refine DRQ.v rfl rfl rfl (o_sub rfl rfl (by first | omega | (simp; omega)) (by first | omega | (simp; omega))) ?_
  refine DRQ.v rfl rfl rfl (o_fldp F84_0 rfl) ?_
  refine DRQ.v rfl rfl rfl (o_ldp S3 rfl rfl rfl) ?_
  refine DRQ.v rfl rfl rfl (o_fldp F84_3 rfl) ?_
  refine DRQ.v rfl rfl rfl (o_fldp F23_1 rfl) ?_
  refine DRQ.v rfl rfl rfl (o_ldp S3 rfl rfl rfl) ?_
  refine DRQ.v rfl rfl rfl (o_sub rfl rfl (by first | omega | (simp; omega)) (by first | omega | (simp; omega))) ?_
  refine DRQ.v rfl rfl rfl (o_assign rfl) ?_
  refine DRQ.v rfl rfl rfl (o_assign rfl) ?_
  refine DRQ.nil' ?_
  refine EX.then (WP.seq (WP.region ?_))
  refine WPl.v rfl (o_fldp F84_1 rfl) ?_
  refine WPl.v rfl (o_fldp F23_0 rfl) ?_
  refine WPl.v rfl (o_ldp S3 rfl rfl rfl) ?_
  refine WPl.v rfl (o_fldp F84_3 rfl) ?_
  refine WPl.v rfl (o_fldp F23_1 rfl) ?_
  refine WPl.v rfl (o_ldp S3 rfl rfl rfl) ?_
  refine WPl.v rfl (o_sub rfl rfl (by first | omega | (simp; omega)) (by first | omega | (simp; omega))) ?_
  refine WPl.v rfl (o_mul rfl rfl (by first | omega | (simp; omega)) (by first | omega | (simp; omega))) ?_
  refine WPl.v rfl (o_move rfl) ?_
  refine WPl.v rfl (o_fldp F23_0 rfl) ?_
  refine WPl.v rfl (o_ldp S3 rfl rfl rfl) ?_
  refine WPl.v rfl (o_mul rfl rfl (by first | omega | (simp; omega)) (by first | omega | (simp; omega))) ?_
  refine WPl.v rfl (o_geq rfl rfl) ?_
  refine WPl.v rfl (o_move rfl) ?_
  refine WPl.bit 4 5 (decide (((p.pounds - p.dh) * f.shop.tpl) ≤ (1000 * (p.tl - p.dh)))) rfl rfl ?_
  refine WPl.gv 4 rfl rfl (.plain rfl Iff.rfl rfl) (fun hb => o_fldp F84_1 rfl) ?_
  refine WPl.gv 4 rfl rfl (.plain rfl Iff.rfl rfl) (fun hb => o_fldp F23_1 rfl) ?_
  refine WPl.gv 4 rfl rfl (.plain rfl Iff.rfl rfl) (fun hb => o_ldp S3 rfl rfl rfl) ?_
  refine WPl.gv 4 rfl rfl (.plain rfl Iff.rfl rfl) (fun hb => o_fldp F84_3 rfl) ?_
  refine WPl.gv 4 rfl rfl (.plain rfl Iff.rfl rfl) (fun hb => o_fldp F23_0 rfl) ?_
  refine WPl.gv 4 rfl rfl (.plain rfl Iff.rfl rfl) (fun hb => o_ldp S3 rfl rfl rfl) ?_
  refine WPl.gv 4 rfl rfl (.plain rfl Iff.rfl rfl) (fun hb => o_sub rfl rfl (by first | omega | (simp; omega)) (by first | omega | (simp; omega))) ?_
  refine WPl.gv 4 rfl rfl (.plain rfl Iff.rfl rfl) (fun hb => o_mul rfl rfl (by first | omega | (simp; omega)) (by first | omega | (simp; omega))) ?_
  refine WPl.gv 4 rfl rfl (.plain rfl Iff.rfl rfl) (fun hb => o_move rfl) ?_
  refine WPl.gv 4 rfl rfl (.plain rfl Iff.rfl rfl) (fun hb => o_fldp F23_1 rfl) ?_
  refine WPl.gv 4 rfl rfl (.plain rfl Iff.rfl rfl) (fun hb => o_ldp S3 rfl rfl rfl) ?_
  refine WPl.gv 4 rfl rfl (.plain rfl Iff.rfl rfl) (fun hb => o_mul rfl rfl (by first | omega | (simp; omega)) (by first | omega | (simp; omega))) ?_
  refine WPl.gv 4 rfl rfl (.plain rfl Iff.rfl rfl) (fun hb => o_leq rfl rfl) ?_
  refine WPl.v rfl (o_and rfl rfl rfl id) ?_
  refine WPl.v rfl (o_move rfl) ?_
  refine WPl.bit 5 6 ((decide (((p.pounds - p.dh) * f.shop.tpl) ≤ (1000 * (p.tl - p.dh)))) && (decide ((1000 * (p.th - p.dl)) ≤ ((p.pounds - p.dl) * f.shop.tph)))) rfl rfl ?_
  refine WPl.gv 5 rfl rfl (.plain rfl Iff.rfl rfl) (fun hb => o_fldp F84_2 rfl) ?_
  refine WPl.gv 5 rfl rfl (.plain rfl Iff.rfl rfl) (fun hb => o_fldp F23_0 rfl) ?_
  refine WPl.gv 5 rfl rfl (.plain rfl Iff.rfl rfl) (fun hb => o_ldp S3 rfl rfl rfl) ?_
  refine WPl.gv 5 rfl rfl (.plain rfl Iff.rfl rfl) (fun hb => o_mul rfl rfl (by first | omega | (simp; omega)) (by first | omega | (simp; omega))) ?_
  refine WPl.gv 5 rfl rfl (.plain rfl Iff.rfl rfl) (fun hb => o_move rfl) ?_
  refine WPl.gv 5 rfl rfl (.plain rfl Iff.rfl rfl) (fun hb => o_fldp F23_0 rfl) ?_
  refine WPl.gv 5 rfl rfl (.plain rfl Iff.rfl rfl) (fun hb => o_ldp S3 rfl rfl rfl) ?_
  refine WPl.gv 5 rfl rfl (.plain rfl Iff.rfl rfl) (fun hb => o_mul rfl rfl (by first | omega | (simp; omega)) (by first | omega | (simp; omega))) ?_
  refine WPl.gv 5 rfl rfl (.plain rfl Iff.rfl rfl) (fun hb => o_geq rfl rfl) ?_
  refine WPl.v rfl (o_and rfl rfl rfl id) ?_
  refine WPl.v rfl (o_move rfl) ?_
  refine WPl.bit 6 7 (((decide (((p.pounds - p.dh) * f.shop.tpl) ≤ (1000 * (p.tl - p.dh)))) && (decide ((1000 * (p.th - p.dl)) ≤ ((p.pounds - p.dl) * f.shop.tph)))) && (decide (((p.pounds - p.dl) * f.shop.apl) ≤ (1000 * p.al)))) rfl rfl ?_
  refine WPl.gv 6 rfl rfl (.plain rfl Iff.rfl rfl) (fun hb => o_fldp F84_2 rfl) ?_
  refine WPl.gv 6 rfl rfl (.plain rfl Iff.rfl rfl) (fun hb => o_fldp F23_1 rfl) ?_
  refine WPl.gv 6 rfl rfl (.plain rfl Iff.rfl rfl) (fun hb => o_ldp S3 rfl rfl rfl) ?_
  refine WPl.gv 6 rfl rfl (.plain rfl Iff.rfl rfl) (fun hb => o_mul rfl rfl (by first | omega | (simp; omega)) (by first | omega | (simp; omega))) ?_
  refine WPl.gv 6 rfl rfl (.plain rfl Iff.rfl rfl) (fun hb => o_move rfl) ?_
  refine WPl.gv 6 rfl rfl (.plain rfl Iff.rfl rfl) (fun hb => o_fldp F23_1 rfl) ?_
  refine WPl.gv 6 rfl rfl (.plain rfl Iff.rfl rfl) (fun hb => o_ldp S3 rfl rfl rfl) ?_
  refine WPl.gv 6 rfl rfl (.plain rfl Iff.rfl rfl) (fun hb => o_mul rfl rfl (by first | omega | (simp; omega)) (by first | omega | (simp; omega))) ?_
  refine WPl.gv 6 rfl rfl (.plain rfl Iff.rfl rfl) (fun hb => o_leq rfl rfl) ?_
  refine WPl.v rfl (o_and rfl rfl rfl id) ?_
  refine WPl.v rfl (o_assign rfl) ?_
  refine WPl.nil (EX.then (WP.ret ?_))
  exact EX.fin id (.inl rfl) rfl (.tmp rfl .nil) rfl r62 trivial (by simp) (by simp)
theorem w75 {f : Fnd} {r : Option Nat} {plan : List (List Int)} : ∀ x ∈ ([.e (.a (.q 0)), .e (.a (.q 1))] : List SV), x.res (keys (α := Pred) [(0, PP (EP.box (PP (EWk r) (f))) ()), (1, PP (EP.box (PL (EP.sl EP.int) (plan))) ())]) := by simp [SV.res, El.res, At.res, keys]
set_option maxHeartbeats 4000000 in
theorem c75 (f : Fnd) (r : Option Nat) (plan : List (List Int)) (hf : f.chk = true) (hp : PlanB f plan) : SigI Try.prog 75 [.e (.a (.q 0)), .e (.a (.q 1))] [(0, PP (EP.box (PP (EWk r) (f))) ()), (1, PP (EP.box (PL (EP.sl EP.int) (plan))) ())] (nightItems f plan) := by
  have hcb := Fnd.chkB hf
  have hpg := Shop.pigsOK (Fnd.shopOK hf)
  have hn := Fnd.nightsOK hf
  obtain ⟨hpl, hpr⟩ := id hp
  refine SigI.intro Try.func75 rfl 3 2 w75 rfl rfl rfl fun I w l Y K F0 hround => ?_
  have hF : ∀ c, F0 c → F0 c := fun _ h => h
  refine WP.seq (WP.region ?_)
  refine WPl.x 3 4 rfl rfl rfl (o_ldqx S78 rfl (lx rfl) boxx) ?_
  refine WPl.cs 4 rfl rfl rfl rfl (o_sig 4 (ren [(0, 3)]) (c37 f r (by omega)) e37 rfl rfl rfl w37 ⟨(lx rfl), trivial⟩ r37) ?_
  refine WPl.v rfl (o_move rfl) ?_
  refine WPl.v rfl (o_extract rfl rfl) ?_
  refine WPl.v rfl (o_extract rfl rfl) ?_
  refine WPl.l 4 5 rfl rfl rfl (o_alloc Z84) ?_
  refine WPl.l 5 6 rfl rfl rfl (o_alloc Z86) ?_
  refine WPl.s1 (o_stag G84 rfl rfl rfl ⟨rfl, rfl, rfl, rfl, rfl, rfl, rfl, trivial⟩ rfl rfl) ?_
  refine WPl.s1 (o_stag G86 rfl rfl rfl ⟨rfl, rfl, rfl, rfl, trivial⟩ rfl rfl) ?_
  refine WPl.nil (EX.then (WP.seq (WP.region ?_)))
  refine WPl.x 6 7 rfl rfl rfl (o_ldqx S78 rfl (lx rfl) boxx) ?_
  refine WPl.v rfl (o_nilq rfl (lx rfl)) ?_
  refine WPl.v rfl (o_fldq F103_0 rfl (lx rfl)) ?_
  refine WPl.v rfl (o_flde F31_1 rfl (lx rfl)) ?_
  refine WPl.x 7 8 rfl rfl rfl (o_ldex S29 rfl (lx rfl) (strS rfl)) ?_
  refine WPl.v rfl (o_lenq L29 rfl (lx rfl)) ?_
  refine WPl.v rfl (o_move rfl) ?_
  refine WPl.nil (EX.then (WP.block ?_))
  refine WP.loop (Gh := Nat × (Nat → Prop)) (fun (⟨i, F⟩ : Nat × (Nat → Prop)) => ⟨8, [(0, .e (.a (.v (yv l)))), (1, .e (.a (.q 0))), (2, .e (.a (.q 1))), (4, .e (.a (.p 4 (0)))), (17, .e (.a (.q 7))), (18, .i ((f.nights.length : Int))), (19, .i ((i : Int)))], [(0, PP (EP.box (PP (EWk r) (f))) ()), (1, PP (EP.box (PL (EP.sl EP.int) (plan))) ()), (7, PL ENight (f.nights))], [(2, .ext ((Y i).xp F)), (4, .blk [ai ((f.pre plan i).pounds), ai ((f.pre plan i).tl), ai ((f.pre plan i).th), ai ((f.pre plan i).al), ai ((f.pre plan i).ah), ai ((f.pre plan i).dl), ai ((f.pre plan i).dh)] 84)], [], []⟩) (fun (⟨i, F⟩ : Nat × (Nat → Prop)) => i ≤ f.nights.length ∧ ∀ c, F0 c → F c) (fun (⟨i, F⟩ : Nat × (Nat → Prop)) => f.nights.length - i) ((0, F0)) id ?_ (LeR.of ⟨rfl, rfl, rfl, rfl, rfl, rfl, rfl, trivial⟩ ⟨(lx rfl), (lx rfl), (lx rfl), trivial⟩ ⟨rfl, rfl, trivial⟩ rfl rfl rfl rfl rfl) ?_
  · exact ⟨by omega, fun _ h => h⟩
  rintro ⟨i, F⟩ hφ
  obtain ⟨hi, hF⟩ : i ≤ f.nights.length ∧ ∀ c, F0 c → F c := hφ
  refine WP.seq (WP.region ?_)
  refine WPl.v rfl (o_lss rfl rfl) ?_
  refine WPl.nil (EX.then (WP.seq ?_))
  refine WP.cond rfl (fun hc1 => ?_) (fun hc1 => ?_)
  · try simp only [cnd] at hc1
    refine WP.skip (EX.then (WP.seq (WP.block (WP.seq (WP.region ?_)))))
    refine WPl.v rfl (o_move rfl) ?_
    refine WPl.x 8 9 rfl rfl rfl (o_idx L29 rfl (lx rfl) rfl (by first | omega | (simp; omega)) (by first | omega | (simp; omega))) ?_
    refine WPl.v rfl (o_ldqg G43 rfl (lx rfl) (strG rfl) rfl rfl) ?_
    refine WPl.l 9 10 rfl rfl rfl (o_alloc Z43) ?_
    refine WPl.v rfl (o_assign rfl) ?_
    refine WPl.s1 (o_stag G43 rfl rfl rfl ⟨rfl, rfl, rfl, trivial⟩ rfl rfl) ?_
    refine WPl.nil (EX.then (WP.seq ?_))
    refine WP.draw (nf := 14) [⟨[25, 26, 27, 28, 29], [11, 12, 13], [10], [10], []⟩, ⟨[24, 26, 27, 28, 29], [10, 11, 12, 13], [], [], []⟩, ⟨[24, 25, 27], [10], [11], [11], []⟩, ⟨[24, 25, 26], [10, 11], [], [], []⟩, ⟨[24, 25], [10], [12], [12], [2, 3]⟩, ⟨[24, 25], [10], [13], [13], [2, 3, 4]⟩, ⟨[], [], [], [], [0, 1, 2, 3, 4, 5]⟩, ⟨[], [], [], [4], [0, 1, 2, 3, 4, 5, 6]⟩] (by kernel_rfl) (by kernel_rfl) ?_
    refine DRQ.x 10 rfl rfl rfl rfl (o_ldqx S78 rfl (lx rfl) boxx) ?_
    refine DRQ.v rfl rfl rfl (o_ldpa G84 rfl rfl rfl) ?_
    refine DRQ.x 11 rfl rfl rfl rfl (o_ldqx S45 rfl (lx rfl) boxx) ?_
    refine DRQ.v rfl rfl rfl (o_move rfl) ?_
    refine DRQ.x 12 rfl rfl rfl rfl (o_idx L45 rfl (lx rfl) rfl (by first | omega | (simp; omega)) (by first | omega | (simp; omega))) ?_
    refine DRQ.x 13 rfl rfl rfl rfl (o_ldqx S32 rfl (lx rfl) slx) ?_
    refine DRQ.cs rfl rfl rfl rfl (o_sig 14 (ren [(0, 10), (1, 13)]) (c63 f r (f.pre plan i) (nth plan (i : Int)) (1000 + 400009 * (i : Int)) (pre_bnd hf hp i (by omega)) (by omega) hpg (by rw [(hpr i (by omega)).1]; exact Nat.le_refl _) (bnd_mono (hpr i (by omega)).2 (by omega))) e63 rfl rfl rfl w63 ⟨(lx rfl), (lx rfl), trivial⟩ r63) ?_
    refine DRQ.s 4 rfl rfl rfl (o_stag G84 rfl rfl rfl ⟨rfl, rfl, rfl, rfl, rfl, rfl, rfl, trivial⟩ rfl rfl) ?_
    refine DRQ.nil' ?_
    refine EX.then (WP.seq (WP.seq (WP.region ?_)))
    refine WPl.v rfl (o_move rfl) ?_
    refine WPl.v rfl (o_move rfl) ?_
    refine WPl.v rfl (o_ldpa G84 rfl rfl rfl) ?_
    refine WPl.yield (Y' := Y (i + 1)) (K' := K) 2 rfl rfl rfl rfl rfl rfl (yieldH (ky := 2) (J := []) (it := ⟨[.i ((i : Int)), .e (.g [ai ((f.at plan i).pounds), ai ((f.at plan i).tl), ai ((f.at plan i).th), ai ((f.at plan i).al), ai ((f.at plan i).ah), ai ((f.at plan i).dl), ai ((f.at plan i).dh)])], [], []⟩) id (hround (i) _ (range_at (by omega))) rfl (hF) SvsOK.rf (by simp [SV.res, El.res, At.res, keys]) trivial trivial) fun by34 F1 hF1 => ?_
    have hF : ∀ c, F0 c → F1 c := fun c hc => hF1 c (hF c hc)
    cases by34
    · skip
      refine WPl.v rfl (o_not rfl) ?_
      refine WPl.nil (EX.then ?_)
      refine WP.cond rfl (fun _ => ?_) (fun h => by cases h)
      refine WP.ret (EX.ret_then (EX.ret_blk (EX.ret_then (EX.ret_then (EX.ret_blk ?_)))))
      exact EX.finI (.inl rfl) rfl rfl (ky := 2) (Y := K) rfl (fun _ _ h => .inr h)
    · skip
      refine WPl.v rfl (o_not rfl) ?_
      refine WPl.nil (EX.then ?_)
      refine WP.cond rfl (fun h => by cases h) (fun _ => ?_)
      refine WP.skip (EX.then (WP.region ?_))
      refine WPl.v rfl (o_ldpa G84 rfl rfl rfl) ?_
      refine WPl.v rfl (o_ldpa G43 rfl rfl rfl) ?_
      refine WPl.cs 14 rfl rfl rfl rfl (o_sig 14 id (c76 (f.at plan i) (nth f.nights (i : Int)) 2100000 (at_bnd hf hp (by omega)) (by omega) (hn.at (by omega))) e76 rfl rfl rfl w76 trivial r76) ?_
      refine WPl.s1 (o_stag G84 rfl rfl rfl ⟨rfl, rfl, rfl, rfl, rfl, rfl, rfl, trivial⟩ rfl rfl) ?_
      refine WPl.nil (EX.blk (EX.then (WP.region ?_)))
      refine WPl.v rfl (o_add rfl rfl (by first | omega | (simp; omega)) (by first | omega | (simp; omega))) ?_
      refine WPl.v rfl (o_move rfl) ?_
      refine WPl.nil ?_
      refine EX.again ((i + 1, F1)) id (by exact ⟨by omega, hF⟩) (by first | omega | (dsimp only; omega) | (simp only []; omega)) (LeR.of ⟨rfl, rfl, rfl, rfl, rfl, rfl, rfl, trivial⟩ ⟨(lx rfl), (lx rfl), (lx rfl), trivial⟩ ⟨rfl, rfl, trivial⟩ rfl rfl rfl rfl rfl)
  · try simp only [cnd] at hc1
    refine WP.exit (EX.exit_then (EX.exit_then (EX.exit_blk ?_)))
    have hend : i = (nightItems f plan).length := by simp [nightItems]; omega
    exact EX.finI (.inr rfl) rfl rfl (ky := 2) (Y := Y (i)) rfl (fun _ _ h => .inl (by rw [hend] at h; exact h))
theorem w60 {f : Fnd} {r : Option Nat} {plan : List (List Int)} : ∀ x ∈ ([.e (.a (.q 0)), .e (.a (.q 1))] : List SV), x.res (keys (α := Pred) [(0, PP (EWk r) (f)), (1, PL (EP.sl EP.int) (plan))]) := by simp [SV.res, El.res, At.res, keys]
theorem r60 {f : Fnd} {plan : List (List Int)} : SV.res (keys (α := Pred) [(0, ItP Try.prog (nightItems f plan))]) (.e (.a (.q 0))) := by simp [SV.res, El.res, At.res, keys]
set_option maxHeartbeats 4000000 in
theorem c60 (f : Fnd) (r : Option Nat) (plan : List (List Int)) (hf : f.chk = true) (hp : PlanB f plan) : Sig Try.prog 60 [.e (.a (.q 0)), .e (.a (.q 1))] [(0, PP (EWk r) (f)), (1, PL (EP.sl EP.int) (plan))] (.e (.a (.q 0))) [(0, ItP Try.prog (nightItems f plan))] := by
  refine Sig.intro Try.func60 rfl 2 [(0, .e (.a (.q 0))), (1, .e (.a (.q 1)))] rfl w60 rfl rfl fun I w => ?_
  refine WP.seq (WP.region ?_)
  refine WPl.l 2 3 rfl rfl rfl (o_boxa rfl (.inl ⟨_, (lx rfl), PP.one⟩)) ?_
  refine WPl.l 3 4 rfl rfl rfl (o_boxa rfl (.inl ⟨_, (lx rfl), PL.one⟩)) ?_
  refine WPl.v rfl (o_assign rfl) ?_
  refine WPl.nil (EX.then (WP.seq (WP.region ?_)))
  refine WPl.imp (Imp.frzb (E := EP.box (PP (EWk r) (f))) (y := ()) 2 4 5 rfl rfl (bok_box (lx rfl)) rfl rfl rfl) ?_
  refine WPl.imp (Imp.frzb (E := EP.box (PL (EP.sl EP.int) (plan))) (y := ()) 3 5 6 rfl rfl (bok_box (lx rfl)) rfl rfl rfl) ?_
  refine WPl.x 6 7 rfl rfl rfl (o_mkit 6 (ren [(0, 4), (1, 5)]) (c75 f r plan hf hp) e75 rfl SvsOK.rf w75 ⟨(lx rfl), (lx rfl), trivial⟩) ?_
  refine WPl.v rfl (o_assign rfl) ?_
  refine WPl.nil (EX.then (WP.ret ?_))
  exact EX.fin (ren [(0, 6)]) (.inl rfl) rfl (.tmp rfl .nil) rfl r60 ⟨(lx rfl), trivial⟩ (by simp) (by simp)
end Go.Flong
namespace Go.Flong
open Go Go.Eng Go.Proofs
theorem Z4 : Zero Try.prog 4 [.v (.bool (false))] := .mk Try.zeroValue4 rfl rfl
theorem S4 : TyS Try.prog 4 := ⟨Try.isAgg4, Try.sizeOf4⟩
theorem e60 : Enters' Try.prog 60 := Try.call60
theorem e61 : Enters' Try.prog 61 := Try.call61
theorem Z32 : Zero Try.prog 32 [.v (.slice none 0 0)] := .mk Try.zeroValue32 rfl rfl
theorem e62 : Enters' Try.prog 62 := Try.call62
theorem R32 : RowT Try.prog 32 3 1 8 [.int .i64 0] := ⟨Try.underlying32, ⟨Try.t3, _, by kernel_rfl, rfl, rfl, rfl, rfl⟩, rfl, by decide⟩
theorem G123 : TyG Try.prog 123 12 := ⟨Try.isAgg123, Try.sizeOf123⟩
theorem Q3 : FlatT Try.prog 3 1 1 false := .int Try.underlying3 S3
theorem Q23 : FlatT Try.prog 23 2 2 true := .struct Try.underlying23 Try.stoodInHeld23 G23 ⟨by decide, rfl, 1, false, Q3, ⟨by decide, rfl, 1, false, Q3, rfl⟩⟩
theorem Q84 : FlatT Try.prog 84 7 3 true := .struct Try.underlying84 Try.stoodInHeld84 G84 ⟨by decide, rfl, 1, false, Q3.up, ⟨by decide, rfl, 2, true, Q23, ⟨by decide, rfl, 2, true, Q23, ⟨by decide, rfl, 2, true, Q23, rfl⟩⟩⟩⟩
theorem Q86 : FlatT Try.prog 86 4 2 true := .array Try.underlying86 G86 Q3
theorem Q123 : FlatT Try.prog 123 12 4 true := .struct Try.underlying123 Try.stoodInHeld123 G123 ⟨by decide, rfl, 1, false, Q3.up.up, ⟨by decide, rfl, 7, true, Q84, ⟨by decide, rfl, 4, true, Q86.up, rfl⟩⟩⟩
theorem M101 : MapT Try.prog 101 12 4 true := .struct Try.underlying101 (by simp only [Try.underlying123]) Q123 rfl Try.zeroValue3
theorem B103 : BldT Try.prog 103 [(0, 12), (12, 1)] [.int .i64 0, .int .i64 0, .int .i64 0, .int .i64 0, .int .i64 0, .int .i64 0, .int .i64 0, .int .i64 0, .int .i64 0, .int .i64 0, .slice none 0 0, .slice none 0 0, .map none] := BldT.mk (ns := [12, 1]) Try.underlying103 ⟨Try.sizeOf31, Try.sizeOf101, trivial⟩ rfl Try.zeroValue103 rfl
theorem e58 : Enters' Try.prog 58 := Try.call58
abbrev IsP (f : Fnd) (v : Bool) : Pred := Pred.all fun (r : Option Nat) => FvP Try.prog [.e (.a (.q 0))] [(0, PP (EWk r) (f))] (.b (v)) []
theorem e36 : Enters' Try.prog 36 := Try.call36
theorem e64 : Enters' Try.prog 64 := Try.call64
theorem e39 : Enters' Try.prog 39 := Try.call39
theorem w36 {f : Fnd} {r : Option Nat} {plan : List (List Int)} : ∀ x ∈ ([.e (.a (.q 0)), .e (.a (.q 1))] : List SV), x.res (keys (α := Pred) [(0, PP (EWk r) (f)), (1, PL (EP.sl EP.int) (plan))]) := by simp [SV.res, El.res, At.res, keys]
theorem r36 {f : Fnd} {plan : List (List Int)} : SV.res (keys (α := Pred) []) (.b (f.wPlan plan)) := by simp [SV.res, El.res, At.res, keys]
set_option maxHeartbeats 4000000 in
theorem c36 (f : Fnd) (r : Option Nat) (plan : List (List Int)) (hf : f.chk = true) : Sig Try.prog 36 [.e (.a (.q 0)), .e (.a (.q 1))] [(0, PP (EWk r) (f)), (1, PL (EP.sl EP.int) (plan))] (.b (f.wPlan plan)) [] := by
  have hcb := Fnd.chkB hf
  have hpg := Shop.pigsOK (Fnd.shopOK hf)
  have hp4 := hpg.2
  refine Sig.intro Try.func36 rfl 2 [(0, .e (.a (.q 0))), (1, .e (.a (.q 1)))] rfl w36 rfl rfl fun I w => ?_
  refine WP.seq (WP.region ?_)
  refine WPl.l 2 3 rfl rfl rfl (o_boxa rfl (.inl ⟨_, (lx rfl), PP.one⟩)) ?_
  refine WPl.l 3 4 rfl rfl rfl (o_alloc Z4) ?_
  refine WPl.nil (EX.then (WP.seq (WP.seq (WP.region ?_))))
  refine WPl.v rfl (o_move rfl) ?_
  refine WPl.v rfl (o_lenq L45 rfl (lx rfl)) ?_
  refine WPl.v rfl (o_ldp S78 rfl rfl rfl) ?_
  refine WPl.v rfl (o_nilq rfl (lx rfl)) ?_
  refine WPl.v rfl (o_fldq F103_0 rfl (lx rfl)) ?_
  refine WPl.v rfl (o_flde F31_1 rfl (lx rfl)) ?_
  refine WPl.x 4 5 rfl rfl rfl (o_ldex S29 rfl (lx rfl) (strS rfl)) ?_
  refine WPl.v rfl (o_lenq L29 rfl (lx rfl)) ?_
  refine WPl.v rfl (o_neq rfl rfl) ?_
  refine WPl.nil (EX.then ?_)
  refine WP.cond rfl (fun hc1 => ?_) (fun hc1 => ?_)
  · try simp only [cnd] at hc1
    refine WP.seq (WP.region ?_)
    refine WPl.s1 (o_sta S4 rfl rfl rfl rfl rfl) ?_
    refine WPl.nil (EX.then (WP.ret (EX.ret_then ?_)))
    rw [show f.wPlan plan = false from by simp [Fnd.wPlan]; omega]
    exact EX.fin id (.inl rfl) rfl (.cell1 S4 rfl rfl (.nil)) rfl (by simp [SV.res, El.res, At.res, keys]) trivial (by simp) (by simp)
  · try simp only [cnd] at hc1
    refine WP.skip (EX.then (WP.seq (WP.region ?_)))
    refine WPl.v rfl (o_ldp S78 rfl rfl rfl) ?_
    refine WPl.cs 5 rfl rfl rfl rfl (o_sig 5 (ren [(0, 0)]) (c37 f r (by omega)) e37 rfl rfl rfl w37 ⟨(lx rfl), trivial⟩ r37) ?_
    refine WPl.v rfl (o_move rfl) ?_
    refine WPl.v rfl (o_extract rfl rfl) ?_
    refine WPl.v rfl (o_extract rfl rfl) ?_
    refine WPl.l 5 6 rfl rfl rfl (o_alloc Z84) ?_
    refine WPl.l 6 7 rfl rfl rfl (o_alloc Z86) ?_
    refine WPl.s1 (o_stag G84 rfl rfl rfl ⟨rfl, rfl, rfl, rfl, rfl, rfl, rfl, trivial⟩ rfl rfl) ?_
    refine WPl.s1 (o_stag G86 rfl rfl rfl ⟨rfl, rfl, rfl, rfl, trivial⟩ rfl rfl) ?_
    refine WPl.nil (EX.then (WP.seq (WP.seq (WP.region ?_))))
    refine WPl.v rfl (o_move rfl) ?_
    refine WPl.v rfl (o_lenq L45 rfl (lx rfl)) ?_
    refine WPl.v rfl (o_move rfl) ?_
    refine WPl.nil (EX.then (WP.block ?_))
    refine WP.loop (Gh := Nat) (fun i => ⟨7, [(1, .e (.a (.q 1))), (2, .e (.a (.p 2 (0)))), (4, .e (.a (.p 3 (0)))), (6, .e (.a (.p 6 (0)))), (27, .e (.a (.q 1))), (28, .i ((plan.length : Int))), (29, .i ((i : Int)))], [(0, PP (EWk r) (f)), (1, PL (EP.sl EP.int) (plan))], [(2, .blk [.q 0] 78), (3, .blk [.v (.bool (false))] 4), (6, .blk [ai (nth (leftAt f.shop.pigs plan i) 0), ai (nth (leftAt f.shop.pigs plan i) 1), ai (nth (leftAt f.shop.pigs plan i) 2), ai (nth (leftAt f.shop.pigs plan i) 3)] 86)], [], []⟩) (fun i => i ≤ plan.length ∧ allI (f.rowW plan) i = true) (fun i => plan.length - i) (0) id ?_ (LeR.of ⟨rfl, rfl, rfl, rfl, rfl, rfl, rfl, trivial⟩ ⟨(lx rfl), (lx rfl), trivial⟩ ⟨rfl, rfl, rfl, trivial⟩ rfl rfl rfl rfl rfl) ?_
    · exact ⟨by omega, rfl⟩
    intro i hφ
    have hi : i ≤ plan.length := hφ.1
    have hrows : allI (f.rowW plan) i = true := hφ.2
    refine WP.seq (WP.region ?_)
    refine WPl.v rfl (o_lss rfl rfl) ?_
    refine WPl.nil (EX.then (WP.seq ?_))
    refine WP.cond rfl (fun hc2 => ?_) (fun hc2 => ?_)
    · try simp only [cnd] at hc2
      refine WP.skip (EX.then (WP.seq (WP.block (WP.seq (WP.region ?_)))))
      refine WPl.x 7 8 rfl rfl rfl (o_idx L45 rfl (lx rfl) rfl (by first | omega | (simp; omega)) (by first | omega | (simp; omega))) ?_
      refine WPl.x 8 9 rfl rfl rfl (o_ldqx S32 rfl (lx rfl) slx) ?_
      refine WPl.v rfl (o_assign rfl) ?_
      refine WPl.nil (EX.then (WP.seq (WP.seq (WP.region ?_))))
      refine WPl.v rfl (o_move rfl) ?_
      refine WPl.v rfl (o_lenq L32 rfl (lx rfl)) ?_
      refine WPl.v rfl (o_ldp S78 rfl rfl rfl) ?_
      refine WPl.v rfl (o_nilq rfl (lx rfl)) ?_
      refine WPl.v rfl (o_fldq F103_0 rfl (lx rfl)) ?_
      refine WPl.v rfl (o_flde F31_0 rfl (lx rfl)) ?_
      refine WPl.v rfl (o_flde F28_4 rfl (lx rfl)) ?_
      refine WPl.x 9 10 rfl rfl rfl (o_ldex S26 rfl (lx rfl) (strS rfl)) ?_
      refine WPl.v rfl (o_lenq L26 rfl (lx rfl)) ?_
      refine WPl.v rfl (o_neq rfl rfl) ?_
      refine WPl.nil (EX.then ?_)
      refine WP.cond rfl (fun hc3 => ?_) (fun hc3 => ?_)
      · try simp only [cnd] at hc3
        refine WP.seq (WP.region ?_)
        refine WPl.s1 (o_sta S4 rfl rfl rfl rfl rfl) ?_
        refine WPl.nil (EX.then (WP.ret (EX.ret_then (EX.ret_blk (EX.ret_then (EX.ret_then (EX.ret_blk (EX.ret_then ?_))))))))
        rw [show f.wPlan plan = false from by simp only [Fnd.wPlan, Bool.and_eq_false_iff]; exact .inl (.inr (not_allI (show i < _ by omega) (by simp only [Fnd.rowW, Bool.and_eq_false_iff, decide_eq_false_iff_not]; exact .inl (by omega))))]
        exact EX.fin id (.inl rfl) rfl (.cell1 S4 rfl rfl (.nil)) rfl (by simp [SV.res, El.res, At.res, keys]) trivial (by simp) (by simp)
      · try simp only [cnd] at hc3
        refine WP.skip (EX.then (WP.seq (WP.region ?_)))
        refine WPl.v rfl (o_move rfl) ?_
        refine WPl.v rfl (o_lenq L32 rfl (lx rfl)) ?_
        refine WPl.v rfl (o_move rfl) ?_
        refine WPl.nil (EX.then (WP.block ?_))
        refine WP.loop (Gh := Nat) (fun j => ⟨10, [(1, .e (.a (.q 1))), (2, .e (.a (.p 2 (0)))), (4, .e (.a (.p 3 (0)))), (6, .e (.a (.p 6 (0)))), (27, .e (.a (.q 1))), (28, .i ((plan.length : Int))), (29, .i ((i : Int))), (30, .b (decide ((i : Int) < (plan.length : Int)))), (31, .e (.a (.q 7))), (32, .e (.a (.q 8))), (8, .e (.a (.q 8))), (33, .e (.a (.q 8))), (34, .i (((nth plan (i : Int)).length : Int))), (35, .e (.a (.q 0))), (36, .e (.a (.q 0))), (37, .e (.a (.e 0 (0)))), (38, .e (.a (.e 0 (0)))), (39, .e (.a (.e 0 (10)))), (40, .e (.a (.q 9))), (41, .i ((f.shop.pigs.length : Int))), (42, .b (decide (((nth plan (i : Int)).length : Int) ≠ (f.shop.pigs.length : Int)))), (43, .e (.a (.q 8))), (44, .i (((nth plan (i : Int)).length : Int))), (45, .i ((j : Int)))], [(0, PP (EWk r) (f)), (1, PL (EP.sl EP.int) (plan)), (7, PP (EP.sl EP.int) (nth plan (i : Int))), (8, PL EP.int (nth plan (i : Int))), (9, PL EPig (f.shop.pigs))], [(2, .blk [.q 0] 78), (3, .blk [.v (.bool (false))] 4), (6, .blk [ai (nth (takeTo (leftAt f.shop.pigs plan i) (nth plan i) j) 0), ai (nth (takeTo (leftAt f.shop.pigs plan i) (nth plan i) j) 1), ai (nth (takeTo (leftAt f.shop.pigs plan i) (nth plan i) j) 2), ai (nth (takeTo (leftAt f.shop.pigs plan i) (nth plan i) j) 3)] 86)], [], []⟩) (fun j => j ≤ (nth plan i).length ∧ allI (rowFits (leftAt f.shop.pigs plan i) (nth plan i)) j = true) (fun j => (nth plan i).length - j) (0) id ?_ (LeR.of ⟨rfl, rfl, rfl, rfl, rfl, rfl, rfl, rfl, rfl, rfl, rfl, rfl, rfl, rfl, rfl, rfl, rfl, rfl, rfl, rfl, rfl, rfl, rfl, rfl, trivial⟩ ⟨(lx rfl), (lx rfl), (lx rfl), (lx rfl), (lx rfl), trivial⟩ ⟨rfl, rfl, rfl, trivial⟩ rfl rfl rfl rfl rfl) ?_
        · exact ⟨by omega, rfl⟩
        intro j hφ
        have hj : j ≤ (nth plan i).length := hφ.1
        have hfit : allI (rowFits (leftAt f.shop.pigs plan i) (nth plan i)) j = true := hφ.2
        have hlb := leftAt_bnd (f := f) hpg i hrows
        have hlj := takeTo_bnd hlb j (by omega) hfit
        refine WP.seq (WP.region ?_)
        refine WPl.v rfl (o_lss rfl rfl) ?_
        refine WPl.nil (EX.then (WP.seq ?_))
        refine WP.cond rfl (fun hc4 => ?_) (fun hc4 => ?_)
        · try simp only [cnd] at hc4
          refine WP.skip (EX.then (WP.seq (WP.block (WP.seq (WP.region ?_)))))
          refine WPl.v rfl (o_move rfl) ?_
          refine WPl.x 10 11 rfl rfl rfl (o_idx L32 rfl (lx rfl) rfl (by first | omega | (simp; omega)) (by first | omega | (simp; omega))) ?_
          have hj4 := hlj.2 j (by omega)
          refine WPl.v rfl (o_ldq S3 rfl (lx rfl) intc) ?_
          refine WPl.v rfl (o_assign rfl) ?_
          refine WPl.v rfl (o_assign rfl) ?_
          refine WPl.nil (EX.then (WP.seq (WP.seq (WP.region ?_))))
          refine WPl.v rfl (o_move rfl) ?_
          refine WPl.v rfl (o_move rfl) ?_
          refine WPl.v rfl (o_idxp A86 rfl rfl (by first | omega | (simp; omega)) (by first | omega | (simp; omega))) ?_
          refine WPl.v rfl (o_ldpn (n := 4) (l := takeTo (leftAt f.shop.pigs plan i) (nth plan i) j) S3 rfl rfl rfl (by first | omega | (simp; omega)) (by first | omega | (simp; omega))) ?_
          refine WPl.cs 11 rfl rfl rfl rfl (o_sig 11 id (c59 (nth (nth plan (i : Int)) (j : Int)) 0 (nth (takeTo (leftAt f.shop.pigs plan i) (nth plan i) j) (j : Int))) e59 rfl rfl rfl w59 trivial r59) ?_
          refine WPl.v rfl (o_not rfl) ?_
          refine WPl.nil (EX.then ?_)
          refine WP.cond rfl (fun hc5 => ?_) (fun hc5 => ?_)
          · try simp only [cnd] at hc5
            refine WP.seq (WP.region ?_)
            refine WPl.s1 (o_sta S4 rfl rfl rfl rfl rfl) ?_
            refine WPl.nil (EX.then (WP.ret (EX.ret_then (EX.ret_blk (EX.ret_then (EX.ret_then (EX.ret_blk (EX.ret_blk (EX.ret_then (EX.ret_then (EX.ret_blk (EX.ret_then ?_))))))))))))
            rw [show f.wPlan plan = false from by simp only [Fnd.wPlan, Bool.and_eq_false_iff]; exact .inl (.inr (not_allI (show i < _ by omega) (by simp only [Fnd.rowW, Bool.and_eq_false_iff]; exact .inr (not_allI (show j < _ by omega) (by simpa [rowFits] using hc5)))))]
            exact EX.fin id (.inl rfl) rfl (.cell1 S4 rfl rfl (.nil)) rfl (by simp [SV.res, El.res, At.res, keys]) trivial (by simp) (by simp)
          · try simp only [cnd] at hc5
            refine WP.skip (EX.then (WP.region ?_))
            refine WPl.v rfl (o_move rfl) ?_
            refine WPl.v rfl (o_idxp A86 rfl rfl (by first | omega | (simp; omega)) (by first | omega | (simp; omega))) ?_
            refine WPl.v rfl (o_ldpn (n := 4) (l := takeTo (leftAt f.shop.pigs plan i) (nth plan i) j) S3 rfl rfl rfl (by first | omega | (simp; omega)) (by first | omega | (simp; omega))) ?_
            refine WPl.v rfl (o_move rfl) ?_
            have hw5 := hc5
            simp only [within, Bool.and_eq_true, decide_eq_true_eq] at hw5
            refine WPl.v rfl (o_sub rfl rfl (by first | omega | (simp; omega)) (by first | omega | (simp; omega))) ?_
            refine WPl.v rfl (o_idxp A86 rfl rfl (by first | omega | (simp; omega)) (by first | omega | (simp; omega))) ?_
            refine WPl.s1 (o_stpn (n := 4) (l := takeTo (leftAt f.shop.pigs plan i) (nth plan i) j) (cs' := [ai (nth (lset (takeTo (leftAt f.shop.pigs plan i) (nth plan i) j) (j : Int) ((nth (takeTo (leftAt f.shop.pigs plan i) (nth plan i) j) (j : Int)) - (nth (nth plan (i : Int)) (j : Int)))) 0), ai (nth (lset (takeTo (leftAt f.shop.pigs plan i) (nth plan i) j) (j : Int) ((nth (takeTo (leftAt f.shop.pigs plan i) (nth plan i) j) (j : Int)) - (nth (nth plan (i : Int)) (j : Int)))) 1), ai (nth (lset (takeTo (leftAt f.shop.pigs plan i) (nth plan i) j) (j : Int) ((nth (takeTo (leftAt f.shop.pigs plan i) (nth plan i) j) (j : Int)) - (nth (nth plan (i : Int)) (j : Int)))) 2), ai (nth (lset (takeTo (leftAt f.shop.pigs plan i) (nth plan i) j) (j : Int) ((nth (takeTo (leftAt f.shop.pigs plan i) (nth plan i) j) (j : Int)) - (nth (nth plan (i : Int)) (j : Int)))) 3)]) S3 rfl rfl rfl rfl rfl (by first | exact leftAt_len _ _ _ | (rw [takeTo_len]; exact leftAt_len _ _ _)) (by first | omega | (simp; omega)) (by first | omega | (simp; omega))) ?_
            refine WPl.nil (EX.blk (EX.then (WP.region ?_)))
            refine WPl.v rfl (o_add rfl rfl (by first | omega | (simp; omega)) (by first | omega | (simp; omega))) ?_
            refine WPl.v rfl (o_move rfl) ?_
            refine WPl.nil ?_
            refine EX.again (j + 1) id (by exact ⟨by omega, by simp only [allI, hfit, Bool.true_and]; simpa [rowFits] using hc5⟩) (by omega) (LeR.of ⟨rfl, rfl, rfl, rfl, rfl, rfl, rfl, rfl, rfl, rfl, rfl, rfl, rfl, rfl, rfl, rfl, rfl, rfl, rfl, rfl, rfl, rfl, rfl, rfl, trivial⟩ ⟨(lx rfl), (lx rfl), (lx rfl), (lx rfl), (lx rfl), trivial⟩ ⟨rfl, rfl, rfl, trivial⟩ rfl rfl rfl rfl rfl)
        · try simp only [cnd] at hc4
          refine WP.exit (EX.exit_then (EX.exit_then (EX.exit_blk (EX.blk (EX.then (WP.region ?_))))))
          refine WPl.v rfl (o_add rfl rfl (by first | omega | (simp; omega)) (by first | omega | (simp; omega))) ?_
          refine WPl.v rfl (o_move rfl) ?_
          refine WPl.nil ?_
          have hrow : f.rowW plan i = true := by simp only [Fnd.rowW, Bool.and_eq_true, decide_eq_true_eq]; exact ⟨by omega, by rw [show (nth plan i).length = j by omega]; exact hfit⟩
          refine EX.again (i + 1) id (by exact ⟨by omega, by simp only [allI, hrows, Bool.true_and]; exact hrow⟩) (by omega) (LeR.of ⟨rfl, rfl, rfl, rfl, rfl, rfl, rfl, trivial⟩ ⟨(lx rfl), (lx rfl), trivial⟩ ⟨rfl, rfl, (congrArg (fun z => some (Ent.blk z 86)) (List.cons_eq_cons.2 ⟨(congrArg (fun z => ai z) (show (nth (takeTo (leftAt f.shop.pigs plan i) (nth plan i) j) 0) = ((fun i => nth (leftAt f.shop.pigs plan i) 0) (i + 1)) from by dsimp only; rw [show leftAt f.shop.pigs plan (i + 1) = takeTo (leftAt f.shop.pigs plan i) (nth plan i) (nth plan i).length from rfl, show (nth plan i).length = j by omega])), (List.cons_eq_cons.2 ⟨(congrArg (fun z => ai z) (show (nth (takeTo (leftAt f.shop.pigs plan i) (nth plan i) j) 1) = ((fun i => nth (leftAt f.shop.pigs plan i) 1) (i + 1)) from by dsimp only; rw [show leftAt f.shop.pigs plan (i + 1) = takeTo (leftAt f.shop.pigs plan i) (nth plan i) (nth plan i).length from rfl, show (nth plan i).length = j by omega])), (List.cons_eq_cons.2 ⟨(congrArg (fun z => ai z) (show (nth (takeTo (leftAt f.shop.pigs plan i) (nth plan i) j) 2) = ((fun i => nth (leftAt f.shop.pigs plan i) 2) (i + 1)) from by dsimp only; rw [show leftAt f.shop.pigs plan (i + 1) = takeTo (leftAt f.shop.pigs plan i) (nth plan i) (nth plan i).length from rfl, show (nth plan i).length = j by omega])), (List.cons_eq_cons.2 ⟨(congrArg (fun z => ai z) (show (nth (takeTo (leftAt f.shop.pigs plan i) (nth plan i) j) 3) = ((fun i => nth (leftAt f.shop.pigs plan i) 3) (i + 1)) from by dsimp only; rw [show leftAt f.shop.pigs plan (i + 1) = takeTo (leftAt f.shop.pigs plan i) (nth plan i) (nth plan i).length from rfl, show (nth plan i).length = j by omega])), (Eq.refl [])⟩)⟩)⟩)⟩)), trivial⟩ rfl rfl rfl rfl rfl)
    · try simp only [cnd] at hc2
      refine WP.exit (EX.exit_then (EX.exit_then (EX.exit_blk (EX.then (WP.seq (WP.seq (WP.region ?_)))))))
      refine WPl.v rfl (o_ldp S78 rfl rfl rfl) ?_
      refine WPl.v rfl (o_move rfl) ?_
      have he : i = plan.length := by omega
      subst he
      have hPB := wrows_planB hpg (by omega) hrows
      refine WPl.cs 8 rfl rfl rfl rfl (o_sig 7 (ren [(0, 0), (1, 1)]) (c60 f r plan hf hPB) e60 rfl rfl rfl w60 ⟨(lx rfl), (lx rfl), trivial⟩ r60) ?_
      refine WPl.nil (EX.then (WP.block ?_))
      refine WP.leR (S' := ⟨8, [(2, .e (.a (.p 2 (0)))), (4, .e (.a (.p 3 (0)))), (66, .e (.a (.q 7)))], [(0, PP (EWk r) (f)), (7, ItP Try.prog (nightItems f plan))], [(2, .blk [.q 0] 78), (3, .blk [.v (.bool (false))] 4)], [], []⟩) id (LeR.of ⟨rfl, rfl, rfl, trivial⟩ ⟨(lx rfl), (lx rfl), trivial⟩ ⟨rfl, rfl, trivial⟩ rfl rfl rfl rfl rfl) ?_
      refine WP.imp (Imp.nam 8 9 (.bool true) (R := Pred.pure (allI (fun i => f.fitsP (f.at plan i)) 0 = true)) (fun _ => rfl) rfl rfl) ?_
      refine WP.rangeG 12 0 (f.nights.length) (fun g => ⟨[.i ((g : Int)), .e (.g [ai ((f.at plan g).pounds), ai ((f.at plan g).tl), ai ((f.at plan g).th), ai ((f.at plan g).al), ai ((f.at plan g).ah), ai ((f.at plan g).dl), ai ((f.at plan g).dh)])], [], []⟩) (fun g => ⟨12, [(2, .e (.a (.p 2 (0)))), (4, .e (.a (.p 3 (0)))), (66, .e (.a (.q 7)))], [(0, PP (EWk r) (f)), (7, ItP Try.prog (nightItems f plan)), (11, Pred.pure (allI (fun i => f.fitsP (f.at plan i)) g = true))], [(2, .blk [.q 0] 78), (3, .blk [.v (.bool (false))] 4), (9, .ob (.deferred (some [])))], [9], []⟩) (fun c T => (f.wPlan plan = false ∧ c = .ret ∧ T = ⟨12, [(2, .e (.a (.p 2 (0)))), (4, .e (.a (.p 3 (0)))), (66, .e (.a (.q 7)))], [(0, PP (EWk r) (f)), (7, ItP Try.prog (nightItems f plan))], [(2, .blk [.q 0] 78), (3, .blk [.v (.bool (false))] 4), (9, .ob (.deferred (some [])))], [9], []⟩)) rfl rfl (lx rfl) (rfl) (fun _ => RSt.of rfl rfl rfl rfl rfl rfl) ((by rintro c T (⟨_, rfl, rfl⟩) <;> exact RSt.of rfl rfl rfl rfl rfl rfl)) rfl rfl rfl (fun _ _ => ItemOK.of rfl) rfl rfl (ren [(11, 8)]) (LeR.of ⟨rfl, rfl, rfl, trivial⟩ ⟨(lx rfl), (lx rfl), (lx rfl), trivial⟩ ⟨rfl, rfl, rfl, trivial⟩ rfl rfl rfl rfl rfl) ?_ ?_ ?_
      · intro g hg w1 E1 I1 R1 pβ1 pν1 us1
        refine WP.pure 11 (lx rfl) fun hinv1 => ?_
        refine WP.region ?_
        refine WPl.l 12 13 rfl rfl rfl (o_alloc Z84) ?_
        refine WPl.s1 (o_stag G84 rfl rfl rfl ⟨rfl, rfl, rfl, rfl, rfl, rfl, rfl, trivial⟩ rfl rfl) ?_
        refine WPl.nil ?_
        refine EX.beg rfl ?_
        refine WP.block (WP.seq (WP.region ?_))
        refine WPl.v rfl (o_ldp S78 rfl rfl rfl) ?_
        refine WPl.v rfl (o_ldpa G84 rfl rfl rfl) ?_
        refine WPl.cs 13 rfl rfl rfl rfl (o_sig 13 (ren [(0, 0)]) (c61 f r (f.at plan g) 2100000 (at_bnd hf hPB (by have := hPB.1; omega)) (by omega)) e61 rfl rfl rfl w61 ⟨(lx rfl), trivial⟩ r61) ?_
        refine WPl.v rfl (o_not rfl) ?_
        refine WPl.nil (EX.then ?_)
        refine WP.cond rfl (fun hc6 => ?_) (fun hc6 => ?_)
        · try simp only [cnd] at hc6
          refine WP.seq (WP.region ?_)
          refine WPl.s1 (o_sta S4 rfl rfl rfl rfl rfl) ?_
          refine WPl.nil (EX.then (WP.ret (EX.ret_blk ?_)))
          exact EX.jret id ⟨(by simp only [Fnd.wPlan, Bool.and_eq_false_iff]; exact .inr (not_allI hg (by simpa using hc6))), rfl, rfl⟩ (LeR.of trivial ⟨(lx rfl), (lx rfl), trivial⟩ ⟨rfl, rfl, rfl, rfl, trivial⟩ rfl rfl rfl rfl rfl)
        · try simp only [cnd] at hc6
          refine WP.skip (EX.blk ?_)
          have hinvn : allI (fun i => f.fitsP (f.at plan i)) (g + 1) = true := by simp only [allI, hinv1, Bool.true_and]; simpa using hc6
          refine EX.imp (Imp.nam 13 14 (.bool true) (R := Pred.pure (allI (fun i => f.fitsP (f.at plan i)) (g + 1) = true)) (fun _ => hinvn) rfl rfl) ?_
          exact EX.next (ren [(11, 13)]) (LeR.of trivial ⟨(lx rfl), (lx rfl), (lx rfl), trivial⟩ ⟨rfl, rfl, rfl, rfl, trivial⟩ rfl rfl rfl rfl rfl)
      · rintro c T (⟨hj, rfl, rfl⟩)
        · skip
          refine WP.ret (EX.ret_blk (EX.ret_then ?_))
          rw [hj]
          exact EX.fin id (.inl rfl) rfl (.cell1 S4 rfl rfl (.nil)) rfl (by simp [SV.res, El.res, At.res, keys]) trivial (marks rfl) (by simp)
      · refine EX.pure 11 (lx rfl) fun hinv1 => ?_
        refine EX.blk (EX.then (WP.seq (WP.region ?_)))
        refine WPl.s1 (o_sta S4 rfl rfl rfl rfl rfl) ?_
        refine WPl.nil (EX.then (WP.ret ?_))
        rw [show f.wPlan plan = true from by simp only [Fnd.wPlan, Bool.and_eq_true, decide_eq_true_eq]; exact ⟨⟨by omega, hrows⟩, hinv1⟩]
        exact EX.fin id (.inl rfl) rfl (.cell1 S4 rfl rfl (.nil)) rfl (by simp [SV.res, El.res, At.res, keys]) trivial (marks rfl) (by simp)
theorem w38 {f : Fnd} {r : Option Nat} {plan : List (List Int)} : ∀ x ∈ ([.e (.a (.q 0)), .e (.a (.q 1))] : List SV), x.res (keys (α := Pred) [(0, PP (EWk r) (f)), (1, PL (EP.sl EP.int) (plan))]) := by simp [SV.res, El.res, At.res, keys]
theorem r38 {f : Fnd} {plan : List (List Int)} : SV.res (keys (α := Pred) [(0, PL EP.int (f.wFails plan))]) (.e (.a (.q 0))) := by simp [SV.res, El.res, At.res, keys]
set_option maxHeartbeats 4000000 in
theorem c38 (f : Fnd) (r : Option Nat) (plan : List (List Int)) (hf : f.chk = true) (hp : PlanB f plan) : Sig Try.prog 38 [.e (.a (.q 0)), .e (.a (.q 1))] [(0, PP (EWk r) (f)), (1, PL (EP.sl EP.int) (plan))] (.e (.a (.q 0))) [(0, PL EP.int (f.wFails plan))] := by
  have hl := hp.1
  have hn4 := (Fnd.nightsOK hf).2
  have hwl := wFailsTo_len f plan
  refine Sig.intro Try.func38 rfl 2 [(0, .e (.a (.q 0))), (1, .e (.a (.q 1)))] rfl w38 rfl rfl fun I w => ?_
  refine WP.seq (WP.region ?_)
  refine WPl.l 2 3 rfl rfl rfl (o_boxa rfl (.inl ⟨_, (lx rfl), PP.one⟩)) ?_
  refine WPl.l 3 4 rfl rfl rfl (o_alloc Z32) ?_
  refine WPl.nil (EX.then (WP.seq (WP.seq (WP.region ?_))))
  refine WPl.v rfl (o_ldp S78 rfl rfl rfl) ?_
  refine WPl.v rfl (o_move rfl) ?_
  refine WPl.cs 5 rfl rfl rfl rfl (o_sig 4 (ren [(0, 0), (1, 1)]) (c60 f r plan hf hp) e60 rfl rfl rfl w60 ⟨(lx rfl), (lx rfl), trivial⟩ r60) ?_
  refine WPl.nil (EX.then (WP.block ?_))
  refine WP.leR (S' := ⟨5, [(2, .e (.a (.p 2 (0)))), (4, .e (.a (.p 3 (0)))), (9, .e (.a (.q 4)))], [(0, PP (EWk r) (f)), (4, ItP Try.prog (nightItems f plan))], [(2, .blk [.q 0] 78), (3, .blk [.v (.slice none 0 0)] 32)], [], []⟩) id (LeR.of ⟨rfl, rfl, rfl, trivial⟩ ⟨(lx rfl), (lx rfl), trivial⟩ ⟨rfl, rfl, trivial⟩ rfl rfl rfl rfl rfl) ?_
  refine WP.imp (Imp.namo EP.int 5 6 3 rfl rfl) ?_
  refine WP.imp (Imp.swL 3 0 5 rfl rfl (lx rfl)) ?_
  refine WP.rangeG 9 0 (f.nights.length) (fun g => ⟨[.i ((g : Int)), .e (.g [ai ((f.at plan g).pounds), ai ((f.at plan g).tl), ai ((f.at plan g).th), ai ((f.at plan g).al), ai ((f.at plan g).ah), ai ((f.at plan g).dl), ai ((f.at plan g).dh)])], [], []⟩) (fun g => ⟨9, [(2, .e (.a (.p 2 (0)))), (4, .e (.a (.p 3 (0)))), (9, .e (.a (.q 4)))], [(0, PP (EWk r) (f)), (4, ItP Try.prog (nightItems f plan)), (5, Pred.is (.slice none 0 0))], [(2, .blk [.q 0] 78), (3, .blk [.q 8] 32), (6, .ob (.deferred (some []))), (8, .own 3 EP.int.size (f.wFailsTo plan g).length (RP EP.int (f.wFailsTo plan g)))], [6], []⟩) (fun _ _ => False) rfl rfl (lx rfl) (rfl) (fun _ => RSt.of rfl rfl rfl rfl rfl rfl) (fun _ _ h => h.elim) rfl rfl rfl (fun _ _ => ItemOK.of rfl) rfl rfl (ren [(8, 5)]) (LeR.of ⟨rfl, rfl, rfl, trivial⟩ ⟨(lx rfl), (lx rfl), (lx rfl), trivial⟩ ⟨rfl, rfl, rfl, rfl, trivial⟩ rfl rfl rfl rfl rfl) ?_ ?_ ?_
  · intro g hg w1 E1 I1 R1 pβ1 pν1 us1
    refine WP.seq (WP.region ?_)
    refine WPl.v rfl (o_assign rfl) ?_
    refine WPl.nil (EX.then (WP.region ?_))
    refine WPl.l 9 10 rfl rfl rfl (o_alloc Z84) ?_
    refine WPl.s1 (o_stag G84 rfl rfl rfl ⟨rfl, rfl, rfl, rfl, rfl, rfl, rfl, trivial⟩ rfl rfl) ?_
    refine WPl.nil ?_
    refine EX.beg rfl ?_
    refine WP.block (WP.seq (WP.region ?_))
    refine WPl.v rfl (o_ldp S78 rfl rfl rfl) ?_
    refine WPl.v rfl (o_ldpa G84 rfl rfl rfl) ?_
    refine WPl.cs 10 rfl rfl rfl rfl (o_sig 10 (ren [(0, 0)]) (c62 f r (f.at plan g) 2100000 (at_bnd hf hp (by omega)) (by omega) (Fnd.shopOK hf)) e62 rfl rfl rfl w62 ⟨(lx rfl), trivial⟩ r62) ?_
    refine WPl.v rfl (o_not rfl) ?_
    refine WPl.nil (EX.then ?_)
    refine WP.cond rfl (fun hc1 => ?_) (fun hc1 => ?_)
    · try simp only [cnd] at hc1
      refine WP.region ?_
      refine WPl.v rfl (o_ldp S32 rfl rfl rfl) ?_
      refine WPl.v rfl (o_move rfl) ?_
      refine WPl.u1 (k := 10) (m := 11) rfl rfl rfl (OpG.newer0 (o_bsl (E := EP.int) (l := [(g : Int)]) R32 rfl rfl (.cons (rfl) rfl (eok_int) (.nil)) rfl rfl)) ?_
      have hwg := hwl g
      refine WPl.u1 (k := 11) (m := 12) rfl rfl rfl (o_appo R32 EP.int_one rfl rfl rfl rfl (by first | omega | (simp; omega) | (simp at *; omega)) (by first | omega | (simp; omega) | (simp at *; omega))) ?_
      refine WPl.s1 (o_sta S32 rfl rfl rfl (.inr ⟨_, _, _, _, rfl⟩) rfl) ?_
      refine WPl.nil (EX.blk ?_)
      exact EX.next (ren [(8, 11)]) (LeR.of trivial ⟨(lx rfl), (lx rfl), (lx rfl), trivial⟩ ⟨rfl, rfl, rfl, rfl, (congrArg (fun z => some (Ent.own 3 EP.int.size (List.length z) (RP EP.int z))) (show ((f.wFailsTo plan g) ++ [(g : Int)]) = ((fun g => f.wFailsTo plan g) (g + 1)) from by simp [Fnd.wFailsTo, hc1])), trivial⟩ rfl rfl rfl rfl rfl)
    · try simp only [cnd] at hc1
      refine WP.skip (EX.blk ?_)
      exact EX.next id (LeR.of trivial ⟨(lx rfl), (lx rfl), (lx rfl), trivial⟩ ⟨rfl, rfl, rfl, rfl, (congrArg (fun z => some (Ent.own 3 EP.int.size (List.length z) (RP EP.int z))) (show (f.wFailsTo plan g) = ((fun g => f.wFailsTo plan g) (g + 1)) from by simp [Fnd.wFailsTo, hc1])), trivial⟩ rfl rfl rfl rfl rfl)
  · exact fun _ _ h => h.elim
  · skip
    refine EX.blk (EX.then (WP.seq (WP.region ?_)))
    refine WPl.v rfl (o_ldp S32 rfl rfl rfl) ?_
    refine WPl.s1 (o_sta S32 rfl rfl rfl (.inr ⟨_, _, _, _, rfl⟩) rfl) ?_
    refine WPl.nil (EX.then (WP.ret ?_))
    refine EX.imp (Imp.frz (E := EP.int) (l := f.wFailsTo plan f.nights.length) 8 rfl rfl) ?_
    exact EX.fin (ren [(0, 8)]) (.inl rfl) rfl (.cell1 S32 rfl rfl (.nil)) rfl r38 ⟨(lx rfl), trivial⟩ (marks rfl) (by simp)
theorem w34N {f : Fnd} : ∀ x ∈ ([.e (.g [ai (f.shop.pounds), ai (f.shop.tl), ai (f.shop.th), ai (f.shop.al), ai (f.shop.ah), ai (f.shop.room), ai (f.shop.tpl), ai (f.shop.tph), ai (f.shop.apl), ai (f.shop.aph), .q 0, .q 1]), .e (.a (.v (.nilFunc)))] : List SV), x.res (keys (α := Pred) [(0, PL EPig (f.shop.pigs)), (1, PL ENight (f.nights))]) := by simp [SV.res, El.res, At.res, keys]
set_option maxHeartbeats 4000000 in
theorem c34N (f : Fnd) (hf : f.chk = true) : SigM Try.prog 34 [.e (.g [ai (f.shop.pounds), ai (f.shop.tl), ai (f.shop.th), ai (f.shop.al), ai (f.shop.ah), ai (f.shop.room), ai (f.shop.tpl), ai (f.shop.tph), ai (f.shop.apl), ai (f.shop.aph), .q 0, .q 1]), .e (.a (.v (.nilFunc)))] [(0, PL EPig (f.shop.pigs)), (1, PL ENight (f.nights))] true 12 (.t [.a (.q 0), .a (ai (0))]) (fun b => [(0, PP (EWk (some b)) (f))]) := by
  have hch : errW f.chk = 0 := by simp [hf, errW]
  refine SigM.intro Try.func34 rfl 2 [(0, .e (.g [ai (f.shop.pounds), ai (f.shop.tl), ai (f.shop.th), ai (f.shop.al), ai (f.shop.ah), ai (f.shop.room), ai (f.shop.tpl), ai (f.shop.tph), ai (f.shop.apl), ai (f.shop.aph), .q 0, .q 1])), (1, .e (.a (.v (.nilFunc))))] rfl w34N rfl rfl fun I w => ?_
  refine WP.seq (WP.region ?_)
  refine WPl.l 2 3 rfl rfl rfl (o_boxg rfl) ?_
  refine WPl.v rfl (o_assign rfl) ?_
  refine WPl.v rfl (o_assign rfl) ?_
  refine WPl.nil (EX.then (WP.seq (WP.region ?_)))
  refine WPl.v rfl (o_ldpa G31 rfl rfl rfl) ?_
  refine WPl.mkmap true 12 3 4 rfl rfl rfl fun b9 => ?_
  refine WPl.v rfl (o_build B103 rfl ⟨rfl, trivial⟩ rfl rfl) ?_
  refine WPl.l 4 5 rfl rfl rfl (o_boxg rfl) ?_
  refine WPl.v rfl (o_assign rfl) ?_
  refine WPl.nil (EX.then (WP.seq (WP.seq (WP.region ?_))))
  refine WPl.v rfl (o_ldpa G31 rfl rfl rfl) ?_
  refine WPl.cs 5 rfl rfl rfl rfl (o_sig 5 (ren [(0, 0), (1, 1)]) (c58 f (by have := Fnd.chkB hf; omega)) e58 rfl rfl rfl w58 ⟨(lx rfl), (lx rfl), trivial⟩ r58) ?_
  refine WPl.v rfl (o_assign rfl) ?_
  refine WPl.nil (EX.then (WP.seq (WP.region ?_)))
  refine WPl.v rfl (o_move rfl) ?_
  refine WPl.v rfl (o_neq rfl rfl) ?_
  refine WPl.nil (EX.then ?_)
  refine WP.cond rfl (fun hc1 => ?_) (fun hc1 => ?_)
  · try simp only [cnd] at hc1
    simp [hch] at hc1
  · try simp only [cnd] at hc1
    refine WP.skip (EX.then (WP.seq (WP.seq (WP.region ?_))))
    refine WPl.v rfl (o_move rfl) ?_
    refine WPl.v rfl (o_nenil Try.underlying82 rfl) ?_
    refine WPl.v rfl (o_move rfl) ?_
    refine WPl.off rfl ⟨_, _, rfl, rfl, rfl⟩ ?_
    refine WPl.off rfl ⟨_, _, rfl, rfl, rfl⟩ ?_
    refine WPl.off rfl ⟨_, _, rfl, rfl, rfl⟩ ?_
    refine WPl.off rfl ⟨_, _, rfl, rfl, rfl⟩ ?_
    refine WPl.v rfl (o_pickF rfl rfl) ?_
    refine WPl.nil (EX.then ?_)
    refine WP.cond rfl (fun h => by cases h) (fun _ => ?_)
    refine WP.skip (EX.then (WP.seq (WP.region ?_)))
    refine WPl.v rfl (o_move rfl) ?_
    refine WPl.v rfl (o_assign rfl) ?_
    refine WPl.v rfl (o_assign rfl) ?_
    refine WPl.nil (EX.then (WP.ret ?_))
    refine EX.imp (Imp.frzb (E := (EWk (some b9))) (y := f) 4 5 6 rfl rfl (bok_str ⟨rfl, rfl, rfl, rfl, rfl, rfl, rfl, rfl, rfl, rfl, ⟨_, rfl, (lx rfl)⟩, ⟨_, rfl, (lx rfl)⟩, .inl rfl, trivial⟩) rfl rfl rfl) ?_
    exact EX.finM (ren [(0, 5)]) 3 b9 rfl (.inl rfl) rfl (.tmp rfl (.tmp rfl .nil)) rfl (by simp [SV.res, El.res, At.res, keys]) ⟨(lx rfl), trivial⟩ rfl (by simp) (by simp)
theorem w34NE {f : Fnd} : ∀ x ∈ ([.e (.g [ai (f.shop.pounds), ai (f.shop.tl), ai (f.shop.th), ai (f.shop.al), ai (f.shop.ah), ai (f.shop.room), ai (f.shop.tpl), ai (f.shop.tph), ai (f.shop.apl), ai (f.shop.aph), .q 0, .q 1]), .e (.a (.v (.nilFunc)))] : List SV), x.res (keys (α := Pred) [(0, PL EPig (f.shop.pigs)), (1, PL ENight (f.nights))]) := by simp [SV.res, El.res, At.res, keys]
theorem r34NE  : SV.res (keys (α := Pred) []) (.t [.a (.v (.pointer none)), .a (ai (130))]) := by simp [SV.res, El.res, At.res, keys]
set_option maxHeartbeats 4000000 in
theorem c34NE (f : Fnd) (hf : f.chk = false) (hl : f.shop.pigs.length ≤ 40) : Sig Try.prog 34 [.e (.g [ai (f.shop.pounds), ai (f.shop.tl), ai (f.shop.th), ai (f.shop.al), ai (f.shop.ah), ai (f.shop.room), ai (f.shop.tpl), ai (f.shop.tph), ai (f.shop.apl), ai (f.shop.aph), .q 0, .q 1]), .e (.a (.v (.nilFunc)))] [(0, PL EPig (f.shop.pigs)), (1, PL ENight (f.nights))] (.t [.a (.v (.pointer none)), .a (ai (130))]) [] := by
  have hch : errW f.chk = 130 := by simp [hf, errW]
  refine Sig.intro Try.func34 rfl 2 [(0, .e (.g [ai (f.shop.pounds), ai (f.shop.tl), ai (f.shop.th), ai (f.shop.al), ai (f.shop.ah), ai (f.shop.room), ai (f.shop.tpl), ai (f.shop.tph), ai (f.shop.apl), ai (f.shop.aph), .q 0, .q 1])), (1, .e (.a (.v (.nilFunc))))] rfl w34NE rfl rfl fun I w => ?_
  refine WP.seq (WP.region ?_)
  refine WPl.l 2 3 rfl rfl rfl (o_boxg rfl) ?_
  refine WPl.v rfl (o_assign rfl) ?_
  refine WPl.v rfl (o_assign rfl) ?_
  refine WPl.nil (EX.then (WP.seq (WP.region ?_)))
  refine WPl.v rfl (o_ldpa G31 rfl rfl rfl) ?_
  refine WPl.mkmap true 12 3 4 rfl rfl rfl fun b9 => ?_
  refine WPl.v rfl (o_build B103 rfl ⟨rfl, trivial⟩ rfl rfl) ?_
  refine WPl.l 4 5 rfl rfl rfl (o_boxg rfl) ?_
  refine WPl.v rfl (o_assign rfl) ?_
  refine WPl.nil (EX.then (WP.seq (WP.seq (WP.region ?_))))
  refine WPl.v rfl (o_ldpa G31 rfl rfl rfl) ?_
  refine WPl.cs 5 rfl rfl rfl rfl (o_sig 5 (ren [(0, 0), (1, 1)]) (c58 f hl) e58 rfl rfl rfl w58 ⟨(lx rfl), (lx rfl), trivial⟩ r58) ?_
  refine WPl.v rfl (o_assign rfl) ?_
  refine WPl.nil (EX.then (WP.seq (WP.region ?_)))
  refine WPl.v rfl (o_move rfl) ?_
  refine WPl.v rfl (o_neq rfl rfl) ?_
  refine WPl.nil (EX.then ?_)
  refine WP.cond rfl (fun hc1 => ?_) (fun hc1 => ?_)
  · try simp only [cnd] at hc1
    refine WP.seq (WP.region ?_)
    refine WPl.v rfl (o_move rfl) ?_
    refine WPl.v rfl (o_assign rfl) ?_
    refine WPl.v rfl (o_assign rfl) ?_
    refine WPl.nil (EX.then (WP.ret (EX.ret_then ?_)))
    rw [hch]
    exact EX.fin id (.inl rfl) rfl (.tmp rfl (.tmp rfl .nil)) rfl (by simp [SV.res, El.res, At.res, keys]) trivial (by simp) (by simp)
  · try simp only [cnd] at hc1
    simp [hch] at hc1
theorem w34CE {f : Fnd} : ∀ x ∈ ([.e (.g [ai (f.shop.pounds), ai (f.shop.tl), ai (f.shop.th), ai (f.shop.al), ai (f.shop.ah), ai (f.shop.room), ai (f.shop.tpl), ai (f.shop.tph), ai (f.shop.apl), ai (f.shop.aph), .q 0, .q 1]), .e (.a (.q 2))] : List SV), x.res (keys (α := Pred) [(0, PL EPig (f.shop.pigs)), (1, PL ENight (f.nights)), (2, Pred.fn)]) := by simp [SV.res, El.res, At.res, keys]
theorem r34CE  : SV.res (keys (α := Pred) []) (.t [.a (.v (.pointer none)), .a (ai (130))]) := by simp [SV.res, El.res, At.res, keys]
set_option maxHeartbeats 4000000 in
theorem c34CE (f : Fnd) (hf : f.chk = false) (hl : f.shop.pigs.length ≤ 40) : Sig Try.prog 34 [.e (.g [ai (f.shop.pounds), ai (f.shop.tl), ai (f.shop.th), ai (f.shop.al), ai (f.shop.ah), ai (f.shop.room), ai (f.shop.tpl), ai (f.shop.tph), ai (f.shop.apl), ai (f.shop.aph), .q 0, .q 1]), .e (.a (.q 2))] [(0, PL EPig (f.shop.pigs)), (1, PL ENight (f.nights)), (2, Pred.fn)] (.t [.a (.v (.pointer none)), .a (ai (130))]) [] := by
  have hch : errW f.chk = 130 := by simp [hf, errW]
  refine Sig.intro Try.func34 rfl 3 [(0, .e (.g [ai (f.shop.pounds), ai (f.shop.tl), ai (f.shop.th), ai (f.shop.al), ai (f.shop.ah), ai (f.shop.room), ai (f.shop.tpl), ai (f.shop.tph), ai (f.shop.apl), ai (f.shop.aph), .q 0, .q 1])), (1, .e (.a (.q 2)))] rfl w34CE rfl rfl fun I w => ?_
  refine WP.seq (WP.region ?_)
  refine WPl.l 3 4 rfl rfl rfl (o_boxg rfl) ?_
  refine WPl.v rfl (o_assign rfl) ?_
  refine WPl.v rfl (o_assign rfl) ?_
  refine WPl.nil (EX.then (WP.seq (WP.region ?_)))
  refine WPl.v rfl (o_ldpa G31 rfl rfl rfl) ?_
  refine WPl.mkmap true 12 4 5 rfl rfl rfl fun b9 => ?_
  refine WPl.v rfl (o_build B103 rfl ⟨rfl, trivial⟩ rfl rfl) ?_
  refine WPl.l 5 6 rfl rfl rfl (o_boxg rfl) ?_
  refine WPl.v rfl (o_assign rfl) ?_
  refine WPl.nil (EX.then (WP.seq (WP.seq (WP.region ?_))))
  refine WPl.v rfl (o_ldpa G31 rfl rfl rfl) ?_
  refine WPl.cs 6 rfl rfl rfl rfl (o_sig 6 (ren [(0, 0), (1, 1)]) (c58 f hl) e58 rfl rfl rfl w58 ⟨(lx rfl), (lx rfl), trivial⟩ r58) ?_
  refine WPl.v rfl (o_assign rfl) ?_
  refine WPl.nil (EX.then (WP.seq (WP.region ?_)))
  refine WPl.v rfl (o_move rfl) ?_
  refine WPl.v rfl (o_neq rfl rfl) ?_
  refine WPl.nil (EX.then ?_)
  refine WP.cond rfl (fun hc1 => ?_) (fun hc1 => ?_)
  · try simp only [cnd] at hc1
    refine WP.seq (WP.region ?_)
    refine WPl.v rfl (o_move rfl) ?_
    refine WPl.v rfl (o_assign rfl) ?_
    refine WPl.v rfl (o_assign rfl) ?_
    refine WPl.nil (EX.then (WP.ret (EX.ret_then ?_)))
    rw [hch]
    exact EX.fin id (.inl rfl) rfl (.tmp rfl (.tmp rfl .nil)) rfl (by simp [SV.res, El.res, At.res, keys]) trivial (by simp) (by simp)
  · try simp only [cnd] at hc1
    simp [hch] at hc1
theorem w34C {f : Fnd} {v : Bool} : ∀ x ∈ ([.e (.g [ai (f.shop.pounds), ai (f.shop.tl), ai (f.shop.th), ai (f.shop.al), ai (f.shop.ah), ai (f.shop.room), ai (f.shop.tpl), ai (f.shop.tph), ai (f.shop.apl), ai (f.shop.aph), .q 0, .q 1]), .e (.a (.q 2))] : List SV), x.res (keys (α := Pred) [(0, PL EPig (f.shop.pigs)), (1, PL ENight (f.nights)), (2, IsP f v)]) := by simp [SV.res, El.res, At.res, keys]
set_option maxHeartbeats 4000000 in
theorem c34C (f : Fnd) (v : Bool) (hf : f.chk = true) (hv : v = true) : SigM Try.prog 34 [.e (.g [ai (f.shop.pounds), ai (f.shop.tl), ai (f.shop.th), ai (f.shop.al), ai (f.shop.ah), ai (f.shop.room), ai (f.shop.tpl), ai (f.shop.tph), ai (f.shop.apl), ai (f.shop.aph), .q 0, .q 1]), .e (.a (.q 2))] [(0, PL EPig (f.shop.pigs)), (1, PL ENight (f.nights)), (2, IsP f v)] true 12 (.t [.a (.q 0), .a (ai (0))]) (fun b => [(0, PP (EWk (some b)) (f))]) := by
  have hch : errW f.chk = 0 := by simp [hf, errW]
  refine SigM.intro Try.func34 rfl 3 [(0, .e (.g [ai (f.shop.pounds), ai (f.shop.tl), ai (f.shop.th), ai (f.shop.al), ai (f.shop.ah), ai (f.shop.room), ai (f.shop.tpl), ai (f.shop.tph), ai (f.shop.apl), ai (f.shop.aph), .q 0, .q 1])), (1, .e (.a (.q 2)))] rfl w34C rfl rfl fun I w => ?_
  refine WP.seq (WP.region ?_)
  refine WPl.l 3 4 rfl rfl rfl (o_boxg rfl) ?_
  refine WPl.v rfl (o_assign rfl) ?_
  refine WPl.v rfl (o_assign rfl) ?_
  refine WPl.nil (EX.then (WP.seq (WP.region ?_)))
  refine WPl.v rfl (o_ldpa G31 rfl rfl rfl) ?_
  refine WPl.mkmap true 12 4 5 rfl rfl rfl fun b9 => ?_
  refine WPl.v rfl (o_build B103 rfl ⟨rfl, trivial⟩ rfl rfl) ?_
  refine WPl.l 5 6 rfl rfl rfl (o_boxg rfl) ?_
  refine WPl.v rfl (o_assign rfl) ?_
  refine WPl.nil (EX.then (WP.seq (WP.seq (WP.region ?_))))
  refine WPl.v rfl (o_ldpa G31 rfl rfl rfl) ?_
  refine WPl.cs 6 rfl rfl rfl rfl (o_sig 6 (ren [(0, 0), (1, 1)]) (c58 f (by have := Fnd.chkB hf; omega)) e58 rfl rfl rfl w58 ⟨(lx rfl), (lx rfl), trivial⟩ r58) ?_
  refine WPl.v rfl (o_assign rfl) ?_
  refine WPl.nil (EX.then (WP.seq (WP.region ?_)))
  refine WPl.v rfl (o_move rfl) ?_
  refine WPl.v rfl (o_neq rfl rfl) ?_
  refine WPl.nil (EX.then ?_)
  refine WP.cond rfl (fun hc1 => ?_) (fun hc1 => ?_)
  · try simp only [cnd] at hc1
    simp [hch] at hc1
  · try simp only [cnd] at hc1
    refine WP.skip (EX.then (WP.seq (WP.seq (WP.region ?_))))
    refine WPl.v rfl (o_move rfl) ?_
    refine WPl.v rfl (o_nefn Try.underlying82 rfl ((lx rfl).of FvP.fna)) ?_
    refine WPl.v rfl (o_move rfl) ?_
    refine WPl.on rfl ⟨_, _, rfl, rfl, rfl⟩ (o_move rfl) ?_
    refine WPl.on rfl ⟨_, _, rfl, rfl, rfl⟩ (o_move rfl) ?_
    refine WPl.imp (Imp.frzb (E := (EWk (some b9))) (y := f) 5 6 7 rfl rfl (bok_str ⟨rfl, rfl, rfl, rfl, rfl, rfl, rfl, rfl, rfl, rfl, ⟨_, rfl, (lx rfl)⟩, ⟨_, rfl, (lx rfl)⟩, .inl rfl, trivial⟩) rfl rfl rfl) ?_
    refine WPl.cL 8 rfl rfl rfl rfl ⟨_, _, rfl, rfl, rfl⟩ (o_callfv (svs := [.e (.a (.q 0))]) 7 (ren [(0, 6)]) rfl (Has.of (lx rfl) fun _ _ h => h ((some b9))) rfl rfl SvsOK.rf (by simp [SV.res, El.res, At.res, keys]) ⟨(lx rfl), trivial⟩ (by simp [SV.res, El.res, At.res, keys])) ?_
    refine WPl.on rfl ⟨_, _, rfl, rfl, rfl⟩ (o_not rfl) ?_
    refine WPl.v rfl (o_pickT rfl rfl) ?_
    refine WPl.nil (EX.then ?_)
    refine WP.cond rfl (fun hc2 => ?_) (fun hc2 => ?_)
    · try simp only [cnd] at hc2
      simp [hv] at hc2
    · try simp only [cnd] at hc2
      refine WP.skip (EX.then (WP.seq (WP.region ?_)))
      refine WPl.v rfl (o_move rfl) ?_
      refine WPl.v rfl (o_assign rfl) ?_
      refine WPl.v rfl (o_assign rfl) ?_
      refine WPl.nil (EX.then (WP.ret ?_))
      exact EX.finM (ren [(0, 6)]) 4 b9 rfl (.inl rfl) rfl (.tmp rfl (.tmp rfl .nil)) rfl (by simp [SV.res, El.res, At.res, keys]) ⟨(lx rfl), trivial⟩ rfl (by simp) (by simp)
theorem w34CF {f : Fnd} {v : Bool} : ∀ x ∈ ([.e (.g [ai (f.shop.pounds), ai (f.shop.tl), ai (f.shop.th), ai (f.shop.al), ai (f.shop.ah), ai (f.shop.room), ai (f.shop.tpl), ai (f.shop.tph), ai (f.shop.apl), ai (f.shop.aph), .q 0, .q 1]), .e (.a (.q 2))] : List SV), x.res (keys (α := Pred) [(0, PL EPig (f.shop.pigs)), (1, PL ENight (f.nights)), (2, IsP f v)]) := by simp [SV.res, El.res, At.res, keys]
theorem r34CF  : SV.res (keys (α := Pred) []) (.t [.a (.v (.pointer none)), .a (ai (1))]) := by simp [SV.res, El.res, At.res, keys]
set_option maxHeartbeats 4000000 in
theorem c34CF (f : Fnd) (v : Bool) (hf : f.chk = true) (hv : v = false) : Sig Try.prog 34 [.e (.g [ai (f.shop.pounds), ai (f.shop.tl), ai (f.shop.th), ai (f.shop.al), ai (f.shop.ah), ai (f.shop.room), ai (f.shop.tpl), ai (f.shop.tph), ai (f.shop.apl), ai (f.shop.aph), .q 0, .q 1]), .e (.a (.q 2))] [(0, PL EPig (f.shop.pigs)), (1, PL ENight (f.nights)), (2, IsP f v)] (.t [.a (.v (.pointer none)), .a (ai (1))]) [] := by
  have hch : errW f.chk = 0 := by simp [hf, errW]
  refine Sig.intro Try.func34 rfl 3 [(0, .e (.g [ai (f.shop.pounds), ai (f.shop.tl), ai (f.shop.th), ai (f.shop.al), ai (f.shop.ah), ai (f.shop.room), ai (f.shop.tpl), ai (f.shop.tph), ai (f.shop.apl), ai (f.shop.aph), .q 0, .q 1])), (1, .e (.a (.q 2)))] rfl w34CF rfl rfl fun I w => ?_
  refine WP.seq (WP.region ?_)
  refine WPl.l 3 4 rfl rfl rfl (o_boxg rfl) ?_
  refine WPl.v rfl (o_assign rfl) ?_
  refine WPl.v rfl (o_assign rfl) ?_
  refine WPl.nil (EX.then (WP.seq (WP.region ?_)))
  refine WPl.v rfl (o_ldpa G31 rfl rfl rfl) ?_
  refine WPl.mkmap true 12 4 5 rfl rfl rfl fun b9 => ?_
  refine WPl.v rfl (o_build B103 rfl ⟨rfl, trivial⟩ rfl rfl) ?_
  refine WPl.l 5 6 rfl rfl rfl (o_boxg rfl) ?_
  refine WPl.v rfl (o_assign rfl) ?_
  refine WPl.nil (EX.then (WP.seq (WP.seq (WP.region ?_))))
  refine WPl.v rfl (o_ldpa G31 rfl rfl rfl) ?_
  refine WPl.cs 6 rfl rfl rfl rfl (o_sig 6 (ren [(0, 0), (1, 1)]) (c58 f (by have := Fnd.chkB hf; omega)) e58 rfl rfl rfl w58 ⟨(lx rfl), (lx rfl), trivial⟩ r58) ?_
  refine WPl.v rfl (o_assign rfl) ?_
  refine WPl.nil (EX.then (WP.seq (WP.region ?_)))
  refine WPl.v rfl (o_move rfl) ?_
  refine WPl.v rfl (o_neq rfl rfl) ?_
  refine WPl.nil (EX.then ?_)
  refine WP.cond rfl (fun hc1 => ?_) (fun hc1 => ?_)
  · try simp only [cnd] at hc1
    simp [hch] at hc1
  · try simp only [cnd] at hc1
    refine WP.skip (EX.then (WP.seq (WP.seq (WP.region ?_))))
    refine WPl.v rfl (o_move rfl) ?_
    refine WPl.v rfl (o_nefn Try.underlying82 rfl ((lx rfl).of FvP.fna)) ?_
    refine WPl.v rfl (o_move rfl) ?_
    refine WPl.on rfl ⟨_, _, rfl, rfl, rfl⟩ (o_move rfl) ?_
    refine WPl.on rfl ⟨_, _, rfl, rfl, rfl⟩ (o_move rfl) ?_
    refine WPl.imp (Imp.frzb (E := (EWk (some b9))) (y := f) 5 6 7 rfl rfl (bok_str ⟨rfl, rfl, rfl, rfl, rfl, rfl, rfl, rfl, rfl, rfl, ⟨_, rfl, (lx rfl)⟩, ⟨_, rfl, (lx rfl)⟩, .inl rfl, trivial⟩) rfl rfl rfl) ?_
    refine WPl.cL 8 rfl rfl rfl rfl ⟨_, _, rfl, rfl, rfl⟩ (o_callfv (svs := [.e (.a (.q 0))]) 7 (ren [(0, 6)]) rfl (Has.of (lx rfl) fun _ _ h => h ((some b9))) rfl rfl SvsOK.rf (by simp [SV.res, El.res, At.res, keys]) ⟨(lx rfl), trivial⟩ (by simp [SV.res, El.res, At.res, keys])) ?_
    refine WPl.on rfl ⟨_, _, rfl, rfl, rfl⟩ (o_not rfl) ?_
    refine WPl.v rfl (o_pickT rfl rfl) ?_
    refine WPl.nil (EX.then ?_)
    refine WP.cond rfl (fun hc2 => ?_) (fun hc2 => ?_)
    · try simp only [cnd] at hc2
      refine WP.seq (WP.region ?_)
      refine WPl.v rfl (o_assign rfl) ?_
      refine WPl.v rfl (o_assign rfl) ?_
      refine WPl.nil (EX.then (WP.ret (EX.ret_then ?_)))
      exact EX.fin id (.inl rfl) rfl (.tmp rfl (.tmp rfl .nil)) rfl r34CF trivial (by simp) (by simp)
    · try simp only [cnd] at hc2
      simp [hv] at hc2
theorem w35 {f : Fnd} {r : Option Nat} {plan : List (List Int)} : ∀ x ∈ ([.e (.a (.q 0)), .e (.a (.q 1))] : List SV), x.res (keys (α := Pred) [(0, PP (EWk r) (f)), (1, PP (EP.box (PL (EP.sl EP.int) (plan))) ())]) := by simp [SV.res, El.res, At.res, keys]
theorem r35 {f : Fnd} {plan : List (List Int)} : SV.res (keys (α := Pred) []) (.b (f.wPlan plan)) := by simp [SV.res, El.res, At.res, keys]
set_option maxHeartbeats 4000000 in
theorem c35 (f : Fnd) (r : Option Nat) (plan : List (List Int)) (hf : f.chk = true) : Sig Try.prog 35 [.e (.a (.q 0)), .e (.a (.q 1))] [(0, PP (EWk r) (f)), (1, PP (EP.box (PL (EP.sl EP.int) (plan))) ())] (.b (f.wPlan plan)) [] := by
  refine Sig.intro Try.func35 rfl 2 [(0, .e (.a (.q 0))), (1, .e (.a (.q 1)))] rfl w35 rfl rfl fun I w => ?_
  refine WP.seq (WP.region ?_)
  refine WPl.v rfl (o_assign rfl) ?_
  refine WPl.nil (EX.then (WP.seq (WP.region ?_)))
  refine WPl.v rfl (o_move rfl) ?_
  refine WPl.x 2 3 rfl rfl rfl (o_ldqx S45 rfl (lx rfl) boxx) ?_
  refine WPl.cs 3 rfl rfl rfl rfl (o_sig 3 (ren [(0, 0), (1, 2)]) (c36 f r plan hf) e36 rfl rfl rfl w36 ⟨(lx rfl), (lx rfl), trivial⟩ r36) ?_
  refine WPl.v rfl (o_assign rfl) ?_
  refine WPl.nil (EX.then (WP.ret ?_))
  exact EX.fin id (.inl rfl) rfl (.tmp rfl .nil) rfl r35 trivial (by simp) (by simp)
theorem w64 {lo hi n low high : Int} : ∀ x ∈ ([.e (.g [ai (lo), ai (hi)]), .i (n), .i (low), .i (high)] : List SV), x.res (keys (α := Pred) []) := by simp [SV.res, El.res, At.res, keys]
theorem r64 {lo hi n low high : Int} : SV.res (keys (α := Pred) []) (.e (.g [ai (cutL lo hi n low), ai (cutH (cutL lo hi n low) hi n high)])) := by simp [SV.res, El.res, At.res, keys]
set_option maxHeartbeats 4000000 in
theorem c64 (lo hi n low high : Int) (h1 : SB lo hi 100000) (h2 : SB n n 100000000) : Sig Try.prog 64 [.e (.g [ai (lo), ai (hi)]), .i (n), .i (low), .i (high)] [] (.e (.g [ai (cutL lo hi n low), ai (cutH (cutL lo hi n low) hi n high)])) [] := by
  unfold SB at h1 h2
  refine Sig.intro Try.func64 rfl 0 [(0, .e (.g [ai (lo), ai (hi)])), (1, .i (n)), (2, .i (low)), (3, .i (high))] rfl w64 rfl rfl fun I w => ?_
  refine WP.seq (WP.region ?_)
  refine WPl.l 0 1 rfl rfl rfl (o_boxg rfl) ?_
  refine WPl.l 1 2 rfl rfl rfl (o_alloc Z23) ?_
  refine WPl.nil (EX.then (WP.seq (WP.block ?_)))
  refine WP.loop (Gh := Nat) (fun i => ⟨2, [(1, .i (n)), (2, .i (low)), (3, .i (high)), (4, .e (.a (.p 0 (0)))), (8, .e (.a (.p 1 (0))))], [], [(0, .blk [ai (lo + (i : Int)), ai (hi)] 23), (1, .blk [ai (0), ai (0)] 23)], [], []⟩) (fun i => i ≤ (hi - lo + 1).toNat ∧ cutL lo hi n low = cutLK hi n low ((hi - lo + 1).toNat - i) (lo + (i : Int))) (fun i => (hi - lo + 1).toNat - i) (0) id ?_ (LeR.of ⟨rfl, rfl, rfl, rfl, rfl, trivial⟩ trivial ⟨(congrArg (fun z => some (Ent.blk z 23)) (List.cons_eq_cons.2 ⟨(congrArg (fun z => ai z) (show (lo) = ((fun i => lo + (i : Int)) 0) from by simp)), (List.cons_eq_cons.2 ⟨(Eq.refl (ai (hi))), (Eq.refl [])⟩)⟩)), rfl, trivial⟩ rfl rfl rfl rfl rfl) ?_
  · exact ⟨by omega, by simp [cutL]⟩
  intro i hφ
  obtain ⟨hi1, hi2⟩ := hφ
  refine WP.seq (WP.seq (WP.region ?_))
  refine WPl.v rfl (o_fldp F23_0 rfl) ?_
  refine WPl.v rfl (o_ldp S3 rfl rfl rfl) ?_
  refine WPl.v rfl (o_fldp F23_1 rfl) ?_
  refine WPl.v rfl (o_ldp S3 rfl rfl rfl) ?_
  refine WPl.v rfl (o_leq rfl rfl) ?_
  refine WPl.v rfl (o_move rfl) ?_
  refine WPl.bit 2 3 (decide ((lo + (i : Int)) ≤ hi)) rfl rfl ?_
  refine WPl.gv 2 rfl rfl (.plain rfl Iff.rfl rfl) (fun hb => o_fldp F23_0 rfl) ?_
  refine WPl.gv 2 rfl rfl (.plain rfl Iff.rfl rfl) (fun hb => o_ldp S3 rfl rfl rfl) ?_
  refine WPl.gv 2 rfl rfl (.plain rfl Iff.rfl rfl) (fun hb => o_move rfl) ?_
  refine WPl.gv 2 rfl rfl (.plain rfl Iff.rfl rfl) (fun hb => o_add rfl rfl (by first | omega | (simp; omega)) (by first | omega | (simp; omega))) ?_
  refine WPl.gv 2 rfl rfl (.plain rfl Iff.rfl rfl) (fun hb => o_mul rfl rfl (by first | omega | (simp; omega)) (by first | omega | (simp; omega))) ?_
  refine WPl.gv 2 rfl rfl (.plain rfl Iff.rfl rfl) (fun hb => o_move rfl) ?_
  refine WPl.gv 2 rfl rfl (.plain rfl Iff.rfl rfl) (fun hb => o_lss rfl rfl) ?_
  refine WPl.v rfl (o_and rfl rfl rfl id) ?_
  refine WPl.nil (EX.then ?_)
  refine WP.cond rfl (fun hc1 => ?_) (fun hc1 => ?_)
  · try simp only [cnd] at hc1
    refine WP.skip (EX.then (WP.block (WP.region ?_)))
    refine WPl.v rfl (o_fldp F23_0 rfl) ?_
    refine WPl.v rfl (o_ldp S3 rfl rfl rfl) ?_
    refine WPl.v rfl (o_add rfl rfl (by first | omega | (simp; omega)) (by first | omega | (simp; omega))) ?_
    refine WPl.v rfl (o_fldp F23_0 rfl) ?_
    refine WPl.s1 (o_sta S3 rfl rfl rfl rfl rfl) ?_
    refine WPl.nil (EX.blk ?_)
    refine EX.again (i + 1) id (by exact ⟨by omega, by rw [hi2, show (hi - lo + 1).toNat - i = ((hi - lo + 1).toNat - (i + 1)) + 1 by omega, cutLK, if_pos (by omega)]; congr 1; omega⟩) (by omega) (LeR.of ⟨rfl, rfl, rfl, rfl, rfl, trivial⟩ trivial ⟨(congrArg (fun z => some (Ent.blk z 23)) (List.cons_eq_cons.2 ⟨(congrArg (fun z => ai z) (show ((lo + (i : Int)) + 1) = ((fun i => lo + (i : Int)) (i + 1)) from by show lo + (i : Int) + 1 = lo + ((i + 1 : Nat) : Int); omega)), (List.cons_eq_cons.2 ⟨(Eq.refl (ai (hi))), (Eq.refl [])⟩)⟩)), rfl, trivial⟩ rfl rfl rfl rfl rfl)
  · try simp only [cnd] at hc1
    have hL : cutL lo hi n low = lo + (i : Int) := by rw [hi2]; exact cutLK_stop (by omega) _
    refine WP.exit (EX.exit_then (EX.exit_then (EX.exit_blk (EX.then (WP.seq (WP.block ?_))))))
    refine WP.loop (Gh := Nat) (fun j => ⟨3, [(1, .i (n)), (3, .i (high)), (4, .e (.a (.p 0 (0)))), (8, .e (.a (.p 1 (0))))], [], [(0, .blk [ai (lo + (i : Int)), ai (hi - (j : Int))] 23), (1, .blk [ai (0), ai (0)] 23)], [], []⟩) (fun j => j ≤ (hi - (lo + (i : Int)) + 1).toNat ∧ cutH (lo + (i : Int)) hi n high = cutHK (lo + (i : Int)) n high ((hi - (lo + (i : Int)) + 1).toNat - j) (hi - (j : Int))) (fun j => (hi - (lo + (i : Int)) + 1).toNat - j) (0) id ?_ (LeR.of ⟨rfl, rfl, rfl, rfl, trivial⟩ trivial ⟨(congrArg (fun z => some (Ent.blk z 23)) (List.cons_eq_cons.2 ⟨(Eq.refl (ai (lo + (i : Int)))), (List.cons_eq_cons.2 ⟨(congrArg (fun z => ai z) (show (hi) = ((fun j => hi - (j : Int)) 0) from by simp)), (Eq.refl [])⟩)⟩)), rfl, trivial⟩ rfl rfl rfl rfl rfl) ?_
    · exact ⟨by omega, by simp [cutH]⟩
    intro j hφ
    obtain ⟨hj1, hj2⟩ := hφ
    refine WP.seq (WP.seq (WP.region ?_))
    refine WPl.v rfl (o_fldp F23_0 rfl) ?_
    refine WPl.v rfl (o_ldp S3 rfl rfl rfl) ?_
    refine WPl.v rfl (o_fldp F23_1 rfl) ?_
    refine WPl.v rfl (o_ldp S3 rfl rfl rfl) ?_
    refine WPl.v rfl (o_leq rfl rfl) ?_
    refine WPl.v rfl (o_move rfl) ?_
    refine WPl.bit 3 4 (decide ((lo + (i : Int)) ≤ (hi - (j : Int)))) rfl rfl ?_
    refine WPl.gv 3 rfl rfl (.plain rfl Iff.rfl rfl) (fun hb => o_fldp F23_1 rfl) ?_
    refine WPl.gv 3 rfl rfl (.plain rfl Iff.rfl rfl) (fun hb => o_ldp S3 rfl rfl rfl) ?_
    refine WPl.gv 3 rfl rfl (.plain rfl Iff.rfl rfl) (fun hb => o_move rfl) ?_
    refine WPl.gv 3 rfl rfl (.plain rfl Iff.rfl rfl) (fun hb => o_add rfl rfl (by first | omega | (simp; omega)) (by first | omega | (simp; omega))) ?_
    refine WPl.gv 3 rfl rfl (.plain rfl Iff.rfl rfl) (fun hb => o_mul rfl rfl (by first | omega | (simp; omega)) (by first | omega | (simp; omega))) ?_
    refine WPl.gv 3 rfl rfl (.plain rfl Iff.rfl rfl) (fun hb => o_move rfl) ?_
    refine WPl.gv 3 rfl rfl (.plain rfl Iff.rfl rfl) (fun hb => o_gtr rfl rfl) ?_
    refine WPl.v rfl (o_and rfl rfl rfl id) ?_
    refine WPl.nil (EX.then ?_)
    refine WP.cond rfl (fun hc2 => ?_) (fun hc2 => ?_)
    · try simp only [cnd] at hc2
      refine WP.skip (EX.then (WP.block (WP.region ?_)))
      refine WPl.v rfl (o_fldp F23_1 rfl) ?_
      refine WPl.v rfl (o_ldp S3 rfl rfl rfl) ?_
      refine WPl.v rfl (o_sub rfl rfl (by first | omega | (simp; omega)) (by first | omega | (simp; omega))) ?_
      refine WPl.v rfl (o_fldp F23_1 rfl) ?_
      refine WPl.s1 (o_sta S3 rfl rfl rfl rfl rfl) ?_
      refine WPl.nil (EX.blk ?_)
      refine EX.again (j + 1) id (by exact ⟨by omega, by rw [hj2, show (hi - (lo + (i : Int)) + 1).toNat - j = ((hi - (lo + (i : Int)) + 1).toNat - (j + 1)) + 1 by omega, cutHK, if_pos (by omega)]; congr 1; omega⟩) (by omega) (LeR.of ⟨rfl, rfl, rfl, rfl, trivial⟩ trivial ⟨(congrArg (fun z => some (Ent.blk z 23)) (List.cons_eq_cons.2 ⟨(Eq.refl (ai (lo + (i : Int)))), (List.cons_eq_cons.2 ⟨(congrArg (fun z => ai z) (show ((hi - (j : Int)) - 1) = ((fun j => hi - (j : Int)) (j + 1)) from by show hi - (j : Int) - 1 = hi - ((j + 1 : Nat) : Int); omega)), (Eq.refl [])⟩)⟩)), rfl, trivial⟩ rfl rfl rfl rfl rfl)
    · try simp only [cnd] at hc2
      have hH : cutH (lo + (i : Int)) hi n high = hi - (j : Int) := by rw [hj2]; exact cutHK_stop (by omega) _
      refine WP.exit (EX.exit_then (EX.exit_then (EX.exit_blk (EX.then (WP.seq (WP.region ?_))))))
      refine WPl.v rfl (o_ldpa G23 rfl rfl rfl) ?_
      refine WPl.s1 (o_stag G23 rfl rfl rfl ⟨rfl, rfl, trivial⟩ rfl rfl) ?_
      refine WPl.nil (EX.then (WP.ret ?_))
      rw [hL, hH]
      exact EX.fin id (.inl rfl) rfl (.cellg G23 rfl rfl rfl (.nil)) rfl (by simp [SV.res, El.res, At.res, keys]) trivial (by simp) (by simp)
theorem w39 {f : Fnd} {r : Option Nat} {plan : List (List Int)} {night : Int} {tl th al ah : Int} {gone : Pt} : ∀ x ∈ ([.e (.a (.q 0)), .e (.a (.q 1)), .i (night), .e (.g [ai (tl), ai (th)]), .e (.g [ai (al), ai (ah)]), .e (.g [ai (gone.pounds), ai (gone.tl), ai (gone.th), ai (gone.al), ai (gone.ah), ai (gone.dl), ai (gone.dh)])] : List SV), x.res (keys (α := Pred) [(0, PP (EWk r) (f)), (1, PL (EP.sl EP.int) (plan))]) := by simp [SV.res, El.res, At.res, keys]
theorem r39 {f : Fnd} {plan : List (List Int)} {night : Int} {n : Nat} {tl th al ah : Int} {gone : Pt} : SV.res (keys (α := Pred) []) (.b (f.canP plan n night tl th al ah gone)) := by simp [SV.res, El.res, At.res, keys]
set_option maxHeartbeats 4000000 in
theorem c39 (f : Fnd) (r : Option Nat) (plan : List (List Int)) (night : Int) (n : Nat) (tl th al ah : Int) (gone : Pt) (hf : f.chk = true) (hp : PlanB f plan) (hnt : night + n = f.nights.length) (hn0 : 0 ≤ night) (hg : PtB gone (1000 + 400018 * night)) (ht : SB tl th (1000 + 2 * night)) (ha : SB al ah (1000 + 2 * night)) : Sig Try.prog 39 [.e (.a (.q 0)), .e (.a (.q 1)), .i (night), .e (.g [ai (tl), ai (th)]), .e (.g [ai (al), ai (ah)]), .e (.g [ai (gone.pounds), ai (gone.tl), ai (gone.th), ai (gone.al), ai (gone.ah), ai (gone.dl), ai (gone.dh)])] [(0, PP (EWk r) (f)), (1, PL (EP.sl EP.int) (plan))] (.b (f.canP plan n night tl th al ah gone)) [] := by
  have hpg := Shop.pigsOK (Fnd.shopOK hf)
  have hn := Fnd.nightsOK hf
  have hn4 := hn.2
  have htb := tl_bnd (Fnd.shopOK hf)
  have hpl := hp.1
  refine Sig.intro Try.func39 rfl 2 [(0, .e (.a (.q 0))), (1, .e (.a (.q 1))), (2, .i (night)), (3, .e (.g [ai (tl), ai (th)])), (4, .e (.g [ai (al), ai (ah)])), (5, .e (.g [ai (gone.pounds), ai (gone.tl), ai (gone.th), ai (gone.al), ai (gone.ah), ai (gone.dl), ai (gone.dh)]))] rfl w39 rfl rfl fun I w => ?_
  refine WP.seq (WP.region ?_)
  refine WPl.l 2 3 rfl rfl rfl (o_boxg rfl) ?_
  refine WPl.l 3 4 rfl rfl rfl (o_boxg rfl) ?_
  refine WPl.l 4 5 rfl rfl rfl (o_boxg rfl) ?_
  refine WPl.v rfl (o_assign rfl) ?_
  refine WPl.nil (EX.then (WP.seq (WP.seq (WP.region ?_))))
  refine WPl.v rfl (o_fldp F23_0 rfl) ?_
  refine WPl.v rfl (o_ldp S3 rfl rfl rfl) ?_
  refine WPl.v rfl (o_fldp F23_1 rfl) ?_
  refine WPl.v rfl (o_ldp S3 rfl rfl rfl) ?_
  refine WPl.v rfl (o_gtr rfl rfl) ?_
  refine WPl.v rfl (o_move rfl) ?_
  refine WPl.bit 5 6 (!(decide (th < tl))) rfl rfl ?_
  refine WPl.gv 5 rfl rfl (.plain rfl (by simp) rfl) (fun hb => o_fldp F23_0 rfl) ?_
  refine WPl.gv 5 rfl rfl (.plain rfl (by simp) rfl) (fun hb => o_ldp S3 rfl rfl rfl) ?_
  refine WPl.gv 5 rfl rfl (.plain rfl (by simp) rfl) (fun hb => o_fldp F23_1 rfl) ?_
  refine WPl.gv 5 rfl rfl (.plain rfl (by simp) rfl) (fun hb => o_ldp S3 rfl rfl rfl) ?_
  refine WPl.gv 5 rfl rfl (.plain rfl (by simp) rfl) (fun hb => o_gtr rfl rfl) ?_
  refine WPl.v rfl (o_or rfl rfl rfl (by first | (simp; done) | simp_all)) ?_
  refine WPl.nil (EX.then ?_)
  refine WP.cond rfl (fun hc1 => ?_) (fun hc1 => ?_)
  · try simp only [cnd] at hc1
    refine WP.seq (WP.region ?_)
    refine WPl.v rfl (o_assign rfl) ?_
    refine WPl.nil (EX.then (WP.ret (EX.ret_then ?_)))
    rw [show f.canP plan n night tl th al ah gone = false from by have hs1 : (decide (th < tl) || decide (ah < al)) = true := (by simpa using hc1); cases n <;> simp only [Fnd.canP, hs1] <;> rfl]
    exact EX.fin id (.inl rfl) rfl (.tmp rfl .nil) rfl (by simp [SV.res, El.res, At.res, keys]) trivial (by simp) (by simp)
  · try simp only [cnd] at hc1
    have hs1 : (decide (th < tl) || decide (ah < al)) = false := by simpa using hc1
    refine WP.skip (EX.then (WP.seq (WP.seq (WP.region ?_))))
    refine WPl.v rfl (o_move rfl) ?_
    refine WPl.v rfl (o_move rfl) ?_
    refine WPl.v rfl (o_nilq rfl (lx rfl)) ?_
    refine WPl.v rfl (o_fldq F103_0 rfl (lx rfl)) ?_
    refine WPl.v rfl (o_flde F31_1 rfl (lx rfl)) ?_
    refine WPl.x 6 7 rfl rfl rfl (o_ldex S29 rfl (lx rfl) (strS rfl)) ?_
    refine WPl.v rfl (o_lenq L29 rfl (lx rfl)) ?_
    refine WPl.v rfl (o_eql rfl rfl) ?_
    refine WPl.nil (EX.then ?_)
    refine WP.cond rfl (fun hc2 => ?_) (fun hc2 => ?_)
    · try simp only [cnd] at hc2
      obtain rfl : n = 0 := by omega
      refine WP.seq (WP.region ?_)
      refine WPl.v rfl (o_assign rfl) ?_
      refine WPl.nil (EX.then (WP.ret (EX.ret_then ?_)))
      rw [show f.canP plan 0 night tl th al ah gone = true from by simp only [Fnd.canP, hs1]; rfl]
      exact EX.fin id (.inl rfl) rfl (.tmp rfl .nil) rfl (by simp [SV.res, El.res, At.res, keys]) trivial (by simp) (by simp)
    · try simp only [cnd] at hc2
      obtain ⟨k, rfl⟩ : ∃ k, n = k + 1 := ⟨n - 1, by omega⟩
      have hrow := hp.2 night.toNat (by omega)
      rw [show ((night.toNat : Nat) : Int) = night by omega] at hrow
      have hnb := Night.bnds (hn.at (show night.toNat < f.nights.length by omega))
      rw [show ((night.toNat : Nat) : Int) = night by omega] at hnb
      have hgb : PtB (gone.addL f.shop.pigs (nth plan night)) (1000 + 400018 * night + 400000) := addTo_bnd hg hpg (by rw [hrow.1]; exact Nat.le_refl _) (bnd_mono hrow.2 (by omega)) (Nat.le_refl _)
      have hgb0 := hgb
      unfold PtB at hgb0
      have m0 := mulB (a := (gone.addL f.shop.pigs (nth plan night)).pounds) (A := 100000000) (b := f.shop.tpl) (B := 1000) (by omega) (by omega) (by omega) (by omega) (by omega)
      have m1 := mulB (a := (gone.addL f.shop.pigs (nth plan night)).pounds) (A := 100000000) (b := f.shop.tph) (B := 1000) (by omega) (by omega) (by omega) (by omega) (by omega)
      have m2 := mulB (a := (gone.addL f.shop.pigs (nth plan night)).pounds) (A := 100000000) (b := f.shop.apl) (B := 1000) (by omega) (by omega) (by omega) (by omega) (by omega)
      have m3 := mulB (a := (gone.addL f.shop.pigs (nth plan night)).pounds) (A := 100000000) (b := f.shop.aph) (B := 1000) (by omega) (by omega) (by omega) (by omega) (by omega)
      have ht2 := cut_SB (n := (gone.addL f.shop.pigs (nth plan night)).tl) (low := (gone.addL f.shop.pigs (nth plan night)).pounds * f.shop.tpl) (high := (gone.addL f.shop.pigs (nth plan night)).pounds * f.shop.tph) ht
      have ha2 := cut_SB (n := (gone.addL f.shop.pigs (nth plan night)).al) (low := (gone.addL f.shop.pigs (nth plan night)).pounds * f.shop.apl) (high := (gone.addL f.shop.pigs (nth plan night)).pounds * f.shop.aph) ha
      refine WP.skip (EX.then (WP.seq ?_))
      refine WP.draw (nf := 9) [⟨[37, 38, 39, 40, 41], [7, 8], [], [], []⟩, ⟨[36, 38, 39, 40, 41], [7, 8], [], [], []⟩, ⟨[36, 37, 39], [], [], [], []⟩, ⟨[36, 37, 38], [], [], [], []⟩, ⟨[36, 37], [], [7], [7], [2, 3]⟩, ⟨[36, 37], [], [8], [8], [2, 3, 4]⟩, ⟨[], [], [], [], [0, 1, 2, 3, 4, 5]⟩, ⟨[], [], [], [4], [0, 1, 2, 3, 4, 5, 6]⟩] (by kernel_rfl) (by kernel_rfl) ?_
      refine DRQ.v rfl rfl rfl (o_move rfl) ?_
      refine DRQ.v rfl rfl rfl (o_ldpa G84 rfl rfl rfl) ?_
      refine DRQ.v rfl rfl rfl (o_move rfl) ?_
      refine DRQ.v rfl rfl rfl (o_move rfl) ?_
      refine DRQ.x 7 rfl rfl rfl rfl (o_idx L45 rfl (lx rfl) rfl (by first | omega | (simp; omega)) (by first | omega | (simp; omega))) ?_
      refine DRQ.x 8 rfl rfl rfl rfl (o_ldqx S32 rfl (lx rfl) slx) ?_
      refine DRQ.cs rfl rfl rfl rfl (o_sig 9 (ren [(0, 0), (1, 8)]) (c63 f r gone (nth plan night) (1000 + 400018 * night) hg (by omega) hpg (by rw [hrow.1]; exact Nat.le_refl _) (bnd_mono hrow.2 (by omega))) e63 rfl rfl rfl w63 ⟨(lx rfl), (lx rfl), trivial⟩ r63) ?_
      refine DRQ.s 4 rfl rfl rfl (o_stag G84 rfl rfl rfl ⟨rfl, rfl, rfl, rfl, rfl, rfl, rfl, trivial⟩ rfl rfl) ?_
      refine DRQ.nil' ?_
      refine EX.then (WP.seq (WP.region ?_))
      refine WPl.v rfl (o_fldp F84_0 rfl) ?_
      refine WPl.v rfl (o_ldp S3 rfl rfl rfl) ?_
      refine WPl.v rfl (o_assign rfl) ?_
      refine WPl.nil (EX.then (WP.seq ?_))
      refine WP.draw (nf := 9) [⟨[46, 47, 48, 49, 50, 51, 52, 53, 54, 55, 56, 57, 58, 59, 60, 61, 62, 63, 64, 65, 66], [], [], [], []⟩, ⟨[45, 49, 50, 51, 52, 53, 54, 55, 56, 57, 58, 59, 60, 61, 62, 63, 64, 65, 66], [], [], [], []⟩, ⟨[45, 49, 50, 51, 52, 53, 54, 55, 56, 57, 58, 59, 60, 61, 62, 63, 64, 65, 66], [], [], [], [1]⟩, ⟨[45, 49, 50, 51, 52, 53, 54, 55, 56, 57, 58, 59, 60, 61, 62, 63, 64, 65, 66], [], [], [], [1, 2]⟩, ⟨[45, 46, 47, 48, 50, 51, 52, 53, 54, 55, 56, 58, 59, 60, 61, 62, 63, 64, 65, 66], [], [], [], []⟩, ⟨[45, 46, 47, 48, 49, 58, 59, 60, 61, 62, 63, 64, 65, 66], [], [], [], []⟩, ⟨[45, 46, 47, 48, 49, 58, 59, 60, 61, 62, 63, 64, 65, 66], [], [], [], [5]⟩, ⟨[45, 46, 47, 48, 49, 58, 59, 60, 61, 62, 63, 64, 65, 66], [], [], [], [5, 6]⟩, ⟨[45, 46, 47, 48, 49, 58, 59, 60, 61, 62, 63, 64, 65, 66], [], [], [], [5, 6, 7]⟩, ⟨[45, 46, 47, 48, 49, 58, 59, 60, 61, 62, 63, 64, 65, 66], [], [], [], [5, 6, 7, 8]⟩, ⟨[45, 46, 47, 48, 49, 58, 59, 60, 61, 62, 63, 64, 65, 66], [], [], [], [5, 6, 7, 8, 9]⟩, ⟨[45, 46, 47, 48, 49, 58, 59, 60, 61, 62, 63, 64, 65, 66], [], [], [], [5, 6, 7, 8, 9, 10]⟩, ⟨[45, 46, 47, 48, 58, 59, 60, 61, 62, 63, 64, 65, 66], [], [], [], [4, 5, 6, 7, 8, 9, 10, 11]⟩, ⟨[45, 46, 47, 48, 49, 50, 51, 52, 53, 54, 55, 56, 57, 59, 60, 61, 62, 63, 64, 65], [], [], [], []⟩, ⟨[45, 46, 47, 48, 49, 50, 51, 52, 53, 54, 55, 56, 57, 58], [], [], [], []⟩, ⟨[45, 46, 47, 48, 49, 50, 51, 52, 53, 54, 55, 56, 57, 58], [], [], [], [14]⟩, ⟨[45, 46, 47, 48, 49, 50, 51, 52, 53, 54, 55, 56, 57, 58], [], [], [], [14, 15]⟩, ⟨[45, 46, 47, 48, 49, 50, 51, 52, 53, 54, 55, 56, 57, 58], [], [], [], [14, 15, 16]⟩, ⟨[45, 46, 47, 48, 49, 50, 51, 52, 53, 54, 55, 56, 57, 58], [], [], [], [14, 15, 16, 17]⟩, ⟨[45, 46, 47, 48, 49, 50, 51, 52, 53, 54, 55, 56, 57, 58], [], [], [], [14, 15, 16, 17, 18]⟩, ⟨[45, 46, 47, 48, 49, 50, 51, 52, 53, 54, 55, 56, 57, 58], [], [], [], [14, 15, 16, 17, 18, 19]⟩, ⟨[45, 46, 47, 48, 49, 50, 51, 52, 53, 54, 55, 56, 57], [], [], [], [13, 14, 15, 16, 17, 18, 19, 20]⟩, ⟨[], [], [], [], [0, 1, 2, 3, 4, 5, 6, 7, 8, 9, 10, 11, 12, 13, 14, 15, 16, 17, 18, 19, 20, 21]⟩, ⟨[], [], [], [2], [0, 1, 2, 3, 4, 5, 6, 7, 8, 9, 10, 11, 12, 13, 14, 15, 16, 17, 18, 19, 20, 21, 22]⟩] (by kernel_rfl) (by kernel_rfl) ?_
      refine DRQ.v rfl rfl rfl (o_ldpa G23 rfl rfl rfl) ?_
      refine DRQ.v rfl rfl rfl (o_fldp F84_1 rfl) ?_
      refine DRQ.v rfl rfl rfl (o_fldp F23_0 rfl) ?_
      refine DRQ.v rfl rfl rfl (o_ldp S3 rfl rfl rfl) ?_
      refine DRQ.v rfl rfl rfl (o_move rfl) ?_
      refine DRQ.v rfl rfl rfl (o_move rfl) ?_
      refine DRQ.v rfl rfl rfl (o_nilq rfl (lx rfl)) ?_
      refine DRQ.v rfl rfl rfl (o_fldq F103_0 rfl (lx rfl)) ?_
      refine DRQ.v rfl rfl rfl (o_flde F31_0 rfl (lx rfl)) ?_
      refine DRQ.v rfl rfl rfl (o_flde F28_2 rfl (lx rfl)) ?_
      refine DRQ.v rfl rfl rfl (o_flde F23_0 rfl (lx rfl)) ?_
      refine DRQ.v rfl rfl rfl (o_lde S3 rfl (lx rfl) (strI rfl)) ?_
      refine DRQ.v rfl rfl rfl (o_mul rfl rfl (by first | omega | (simp; omega)) (by first | omega | (simp; omega))) ?_
      refine DRQ.v rfl rfl rfl (o_move rfl) ?_
      refine DRQ.v rfl rfl rfl (o_move rfl) ?_
      refine DRQ.v rfl rfl rfl (o_nilq rfl (lx rfl)) ?_
      refine DRQ.v rfl rfl rfl (o_fldq F103_0 rfl (lx rfl)) ?_
      refine DRQ.v rfl rfl rfl (o_flde F31_0 rfl (lx rfl)) ?_
      refine DRQ.v rfl rfl rfl (o_flde F28_2 rfl (lx rfl)) ?_
      refine DRQ.v rfl rfl rfl (o_flde F23_1 rfl (lx rfl)) ?_
      refine DRQ.v rfl rfl rfl (o_lde S3 rfl (lx rfl) (strI rfl)) ?_
      refine DRQ.v rfl rfl rfl (o_mul rfl rfl (by first | omega | (simp; omega)) (by first | omega | (simp; omega))) ?_
      refine DRQ.cs rfl rfl rfl rfl (o_sig 9 id (c64 tl th ((gone.addL f.shop.pigs (nth plan night)).tl) (((gone.addL f.shop.pigs (nth plan night)).pounds) * f.shop.tpl) (((gone.addL f.shop.pigs (nth plan night)).pounds) * f.shop.tph) (by unfold SB at *; omega) (by unfold SB; omega)) e64 rfl rfl rfl w64 trivial r64) ?_
      refine DRQ.s 2 rfl rfl rfl (o_stag G23 rfl rfl rfl ⟨rfl, rfl, trivial⟩ rfl rfl) ?_
      refine DRQ.nil' ?_
      refine EX.then (WP.seq ?_)
      refine WP.draw (nf := 9) [⟨[69, 70, 71, 72, 73, 74, 75, 76, 77, 78, 79, 80, 81, 82, 83, 84, 85, 86, 87, 88, 89], [], [], [], []⟩, ⟨[68, 72, 73, 74, 75, 76, 77, 78, 79, 80, 81, 82, 83, 84, 85, 86, 87, 88, 89], [], [], [], []⟩, ⟨[68, 72, 73, 74, 75, 76, 77, 78, 79, 80, 81, 82, 83, 84, 85, 86, 87, 88, 89], [], [], [], [1]⟩, ⟨[68, 72, 73, 74, 75, 76, 77, 78, 79, 80, 81, 82, 83, 84, 85, 86, 87, 88, 89], [], [], [], [1, 2]⟩, ⟨[68, 69, 70, 71, 73, 74, 75, 76, 77, 78, 79, 81, 82, 83, 84, 85, 86, 87, 88, 89], [], [], [], []⟩, ⟨[68, 69, 70, 71, 72, 81, 82, 83, 84, 85, 86, 87, 88, 89], [], [], [], []⟩, ⟨[68, 69, 70, 71, 72, 81, 82, 83, 84, 85, 86, 87, 88, 89], [], [], [], [5]⟩, ⟨[68, 69, 70, 71, 72, 81, 82, 83, 84, 85, 86, 87, 88, 89], [], [], [], [5, 6]⟩, ⟨[68, 69, 70, 71, 72, 81, 82, 83, 84, 85, 86, 87, 88, 89], [], [], [], [5, 6, 7]⟩, ⟨[68, 69, 70, 71, 72, 81, 82, 83, 84, 85, 86, 87, 88, 89], [], [], [], [5, 6, 7, 8]⟩, ⟨[68, 69, 70, 71, 72, 81, 82, 83, 84, 85, 86, 87, 88, 89], [], [], [], [5, 6, 7, 8, 9]⟩, ⟨[68, 69, 70, 71, 72, 81, 82, 83, 84, 85, 86, 87, 88, 89], [], [], [], [5, 6, 7, 8, 9, 10]⟩, ⟨[68, 69, 70, 71, 81, 82, 83, 84, 85, 86, 87, 88, 89], [], [], [], [4, 5, 6, 7, 8, 9, 10, 11]⟩, ⟨[68, 69, 70, 71, 72, 73, 74, 75, 76, 77, 78, 79, 80, 82, 83, 84, 85, 86, 87, 88], [], [], [], []⟩, ⟨[68, 69, 70, 71, 72, 73, 74, 75, 76, 77, 78, 79, 80, 81], [], [], [], []⟩, ⟨[68, 69, 70, 71, 72, 73, 74, 75, 76, 77, 78, 79, 80, 81], [], [], [], [14]⟩, ⟨[68, 69, 70, 71, 72, 73, 74, 75, 76, 77, 78, 79, 80, 81], [], [], [], [14, 15]⟩, ⟨[68, 69, 70, 71, 72, 73, 74, 75, 76, 77, 78, 79, 80, 81], [], [], [], [14, 15, 16]⟩, ⟨[68, 69, 70, 71, 72, 73, 74, 75, 76, 77, 78, 79, 80, 81], [], [], [], [14, 15, 16, 17]⟩, ⟨[68, 69, 70, 71, 72, 73, 74, 75, 76, 77, 78, 79, 80, 81], [], [], [], [14, 15, 16, 17, 18]⟩, ⟨[68, 69, 70, 71, 72, 73, 74, 75, 76, 77, 78, 79, 80, 81], [], [], [], [14, 15, 16, 17, 18, 19]⟩, ⟨[68, 69, 70, 71, 72, 73, 74, 75, 76, 77, 78, 79, 80], [], [], [], [13, 14, 15, 16, 17, 18, 19, 20]⟩, ⟨[], [], [], [], [0, 1, 2, 3, 4, 5, 6, 7, 8, 9, 10, 11, 12, 13, 14, 15, 16, 17, 18, 19, 20, 21]⟩, ⟨[], [], [], [3], [0, 1, 2, 3, 4, 5, 6, 7, 8, 9, 10, 11, 12, 13, 14, 15, 16, 17, 18, 19, 20, 21, 22]⟩] (by kernel_rfl) (by kernel_rfl) ?_
      refine DRQ.v rfl rfl rfl (o_ldpa G23 rfl rfl rfl) ?_
      refine DRQ.v rfl rfl rfl (o_fldp F84_2 rfl) ?_
      refine DRQ.v rfl rfl rfl (o_fldp F23_0 rfl) ?_
      refine DRQ.v rfl rfl rfl (o_ldp S3 rfl rfl rfl) ?_
      refine DRQ.v rfl rfl rfl (o_move rfl) ?_
      refine DRQ.v rfl rfl rfl (o_move rfl) ?_
      refine DRQ.v rfl rfl rfl (o_nilq rfl (lx rfl)) ?_
      refine DRQ.v rfl rfl rfl (o_fldq F103_0 rfl (lx rfl)) ?_
      refine DRQ.v rfl rfl rfl (o_flde F31_0 rfl (lx rfl)) ?_
      refine DRQ.v rfl rfl rfl (o_flde F28_3 rfl (lx rfl)) ?_
      refine DRQ.v rfl rfl rfl (o_flde F23_0 rfl (lx rfl)) ?_
      refine DRQ.v rfl rfl rfl (o_lde S3 rfl (lx rfl) (strI rfl)) ?_
      refine DRQ.v rfl rfl rfl (o_mul rfl rfl (by first | omega | (simp; omega)) (by first | omega | (simp; omega))) ?_
      refine DRQ.v rfl rfl rfl (o_move rfl) ?_
      refine DRQ.v rfl rfl rfl (o_move rfl) ?_
      refine DRQ.v rfl rfl rfl (o_nilq rfl (lx rfl)) ?_
      refine DRQ.v rfl rfl rfl (o_fldq F103_0 rfl (lx rfl)) ?_
      refine DRQ.v rfl rfl rfl (o_flde F31_0 rfl (lx rfl)) ?_
      refine DRQ.v rfl rfl rfl (o_flde F28_3 rfl (lx rfl)) ?_
      refine DRQ.v rfl rfl rfl (o_flde F23_1 rfl (lx rfl)) ?_
      refine DRQ.v rfl rfl rfl (o_lde S3 rfl (lx rfl) (strI rfl)) ?_
      refine DRQ.v rfl rfl rfl (o_mul rfl rfl (by first | omega | (simp; omega)) (by first | omega | (simp; omega))) ?_
      refine DRQ.cs rfl rfl rfl rfl (o_sig 9 id (c64 al ah ((gone.addL f.shop.pigs (nth plan night)).al) (((gone.addL f.shop.pigs (nth plan night)).pounds) * f.shop.apl) (((gone.addL f.shop.pigs (nth plan night)).pounds) * f.shop.aph) (by unfold SB at *; omega) (by unfold SB; omega)) e64 rfl rfl rfl w64 trivial r64) ?_
      refine DRQ.s 3 rfl rfl rfl (o_stag G23 rfl rfl rfl ⟨rfl, rfl, trivial⟩ rfl rfl) ?_
      refine DRQ.nil' ?_
      refine EX.then (WP.seq (WP.seq (WP.region ?_)))
      refine WPl.v rfl (o_move rfl) ?_
      refine WPl.v rfl (o_nilq rfl (lx rfl)) ?_
      refine WPl.v rfl (o_fldq F103_0 rfl (lx rfl)) ?_
      refine WPl.v rfl (o_flde F31_1 rfl (lx rfl)) ?_
      refine WPl.x 9 10 rfl rfl rfl (o_ldex S29 rfl (lx rfl) (strS rfl)) ?_
      refine WPl.v rfl (o_move rfl) ?_
      refine WPl.x 10 11 rfl rfl rfl (o_idx L29 rfl (lx rfl) rfl (by first | omega | (simp; omega)) (by first | omega | (simp; omega))) ?_
      refine WPl.v rfl (o_fldq F43_0 rfl (lx rfl)) ?_
      refine WPl.v rfl (o_flde F23_0 rfl (lx rfl)) ?_
      refine WPl.v rfl (o_lde S3 rfl (lx rfl) (strI rfl)) ?_
      refine WPl.v rfl (o_assign rfl) ?_
      refine WPl.nil (EX.then (WP.block ?_))
      refine WP.loop (Gh := Nat) (fun i => ⟨11, [(0, .e (.a (.q 0))), (1, .e (.a (.q 1))), (2, .i (night)), (9, .e (.a (.p 2 (0)))), (10, .e (.a (.p 3 (0)))), (11, .e (.a (.p 4 (0)))), (12, .b (false)), (14, .i ((nth f.nights night).lo + (i : Int)))], [(0, PP (EWk r) (f)), (1, PL (EP.sl EP.int) (plan))], [(2, .blk [ai (cutL tl th ((gone.addL f.shop.pigs (nth plan night)).tl) (((gone.addL f.shop.pigs (nth plan night)).pounds) * f.shop.tpl)), ai (cutH (cutL tl th ((gone.addL f.shop.pigs (nth plan night)).tl) (((gone.addL f.shop.pigs (nth plan night)).pounds) * f.shop.tpl)) th ((gone.addL f.shop.pigs (nth plan night)).tl) (((gone.addL f.shop.pigs (nth plan night)).pounds) * f.shop.tph))] 23), (3, .blk [ai (cutL al ah ((gone.addL f.shop.pigs (nth plan night)).al) (((gone.addL f.shop.pigs (nth plan night)).pounds) * f.shop.apl)), ai (cutH (cutL al ah ((gone.addL f.shop.pigs (nth plan night)).al) (((gone.addL f.shop.pigs (nth plan night)).pounds) * f.shop.apl)) ah ((gone.addL f.shop.pigs (nth plan night)).al) (((gone.addL f.shop.pigs (nth plan night)).pounds) * f.shop.aph))] 23), (4, .blk [ai ((gone.addL f.shop.pigs (nth plan night)).pounds), ai ((gone.addL f.shop.pigs (nth plan night)).tl), ai ((gone.addL f.shop.pigs (nth plan night)).th), ai ((gone.addL f.shop.pigs (nth plan night)).al), ai ((gone.addL f.shop.pigs (nth plan night)).ah), ai ((gone.addL f.shop.pigs (nth plan night)).dl), ai ((gone.addL f.shop.pigs (nth plan night)).dh)] 84)], [], []⟩) (fun i => i ≤ ((nth f.nights night).hi - (nth f.nights night).lo + 1).toNat ∧ allI (fun i => !f.canP plan k (night + 1) (cutL tl th (gone.addL f.shop.pigs (nth plan night)).tl ((gone.addL f.shop.pigs (nth plan night)).pounds * f.shop.tpl)) (cutH (cutL tl th (gone.addL f.shop.pigs (nth plan night)).tl ((gone.addL f.shop.pigs (nth plan night)).pounds * f.shop.tpl)) th (gone.addL f.shop.pigs (nth plan night)).tl ((gone.addL f.shop.pigs (nth plan night)).pounds * f.shop.tph)) (cutL al ah (gone.addL f.shop.pigs (nth plan night)).al ((gone.addL f.shop.pigs (nth plan night)).pounds * f.shop.apl)) (cutH (cutL al ah (gone.addL f.shop.pigs (nth plan night)).al ((gone.addL f.shop.pigs (nth plan night)).pounds * f.shop.apl)) ah (gone.addL f.shop.pigs (nth plan night)).al ((gone.addL f.shop.pigs (nth plan night)).pounds * f.shop.aph)) ((gone.addL f.shop.pigs (nth plan night)).drop ((nth f.nights night).lo + (i : Int)))) i = true) (fun i => ((nth f.nights night).hi - (nth f.nights night).lo + 1).toNat - i) (0) id ?_ (LeR.of ⟨rfl, rfl, rfl, rfl, rfl, rfl, rfl, (congrArg (fun z => some (SV.i z)) (show ((nth f.nights night).lo) = ((fun i => (nth f.nights night).lo + (i : Int)) 0) from by simp)), trivial⟩ ⟨(lx rfl), (lx rfl), trivial⟩ ⟨rfl, rfl, rfl, trivial⟩ rfl rfl rfl rfl rfl) ?_
      · exact ⟨by omega, rfl⟩
      intro i hφ
      obtain ⟨hi1, hi2⟩ := hφ
      refine WP.seq (WP.seq (WP.region ?_))
      refine WPl.v rfl (o_move rfl) ?_
      refine WPl.v rfl (o_move rfl) ?_
      refine WPl.v rfl (o_nilq rfl (lx rfl)) ?_
      refine WPl.v rfl (o_fldq F103_0 rfl (lx rfl)) ?_
      refine WPl.v rfl (o_flde F31_1 rfl (lx rfl)) ?_
      refine WPl.x 11 12 rfl rfl rfl (o_ldex S29 rfl (lx rfl) (strS rfl)) ?_
      refine WPl.v rfl (o_move rfl) ?_
      refine WPl.x 12 13 rfl rfl rfl (o_idx L29 rfl (lx rfl) rfl (by first | omega | (simp; omega)) (by first | omega | (simp; omega))) ?_
      refine WPl.v rfl (o_fldq F43_0 rfl (lx rfl)) ?_
      refine WPl.v rfl (o_flde F23_1 rfl (lx rfl)) ?_
      refine WPl.v rfl (o_lde S3 rfl (lx rfl) (strI rfl)) ?_
      refine WPl.v rfl (o_leq rfl rfl) ?_
      refine WPl.nil (EX.then ?_)
      refine WP.cond rfl (fun hc3 => ?_) (fun hc3 => ?_)
      · try simp only [cnd] at hc3
        refine WP.skip (EX.then (WP.seq (WP.block (WP.seq (WP.region ?_)))))
        refine WPl.v rfl (o_ldpa G84 rfl rfl rfl) ?_
        refine WPl.l 13 14 rfl rfl rfl (o_alloc Z84) ?_
        refine WPl.s1 (o_stag G84 rfl rfl rfl ⟨rfl, rfl, rfl, rfl, rfl, rfl, rfl, trivial⟩ rfl rfl) ?_
        refine WPl.nil (EX.then (WP.seq (WP.region ?_)))
        refine WPl.v rfl (o_fldp F84_0 rfl) ?_
        refine WPl.v rfl (o_ldp S3 rfl rfl rfl) ?_
        refine WPl.v rfl (o_move rfl) ?_
        refine WPl.v rfl (o_sub rfl rfl (by first | omega | (simp; omega)) (by first | omega | (simp; omega))) ?_
        refine WPl.v rfl (o_fldp F84_0 rfl) ?_
        refine WPl.s1 (o_sta S3 rfl rfl rfl rfl rfl) ?_
        refine WPl.nil (EX.then (WP.seq (WP.region ?_)))
        refine WPl.v rfl (o_fldp F84_1 rfl) ?_
        refine WPl.v rfl (o_ldpg G23 rfl rfl rfl) ?_
        refine WPl.v rfl (o_move rfl) ?_
        refine WPl.v rfl (o_neg rfl (by first | omega | (simp; omega)) (by first | omega | (simp; omega))) ?_
        refine WPl.cs 14 rfl rfl rfl rfl (o_sig 14 id (c65 ((gone.addL f.shop.pigs (nth plan night)).tl) ((gone.addL f.shop.pigs (nth plan night)).th) (-((nth f.nights night).lo + (i : Int))) (by omega) (by omega) (by omega)) e65 rfl rfl rfl w65 trivial r65) ?_
        refine WPl.v rfl (o_fldp F84_1 rfl) ?_
        refine WPl.s1 (o_stag G23 rfl rfl rfl ⟨rfl, rfl, trivial⟩ rfl rfl) ?_
        refine WPl.nil (EX.then (WP.seq (WP.region ?_)))
        refine WPl.v rfl (o_move rfl) ?_
        refine WPl.v rfl (o_move rfl) ?_
        refine WPl.v rfl (o_move rfl) ?_
        refine WPl.v rfl (o_add rfl rfl (by first | omega | (simp; omega)) (by first | omega | (simp; omega))) ?_
        refine WPl.v rfl (o_ldpa G23 rfl rfl rfl) ?_
        refine WPl.v rfl (o_ldpa G23 rfl rfl rfl) ?_
        refine WPl.v rfl (o_ldpa G84 rfl rfl rfl) ?_
        refine WPl.cs 14 rfl rfl rfl rfl (o_sig 14 (ren [(0, 0), (1, 1)]) (c39 f r plan (night + 1) k (cutL tl th ((gone.addL f.shop.pigs (nth plan night)).tl) (((gone.addL f.shop.pigs (nth plan night)).pounds) * f.shop.tpl)) (cutH (cutL tl th ((gone.addL f.shop.pigs (nth plan night)).tl) (((gone.addL f.shop.pigs (nth plan night)).pounds) * f.shop.tpl)) th ((gone.addL f.shop.pigs (nth plan night)).tl) (((gone.addL f.shop.pigs (nth plan night)).pounds) * f.shop.tph)) (cutL al ah ((gone.addL f.shop.pigs (nth plan night)).al) (((gone.addL f.shop.pigs (nth plan night)).pounds) * f.shop.apl)) (cutH (cutL al ah ((gone.addL f.shop.pigs (nth plan night)).al) (((gone.addL f.shop.pigs (nth plan night)).pounds) * f.shop.apl)) ah ((gone.addL f.shop.pigs (nth plan night)).al) (((gone.addL f.shop.pigs (nth plan night)).pounds) * f.shop.aph)) ((gone.addL f.shop.pigs (nth plan night)).drop ((nth f.nights night).lo + (i : Int))) hf hp (by omega) (by omega) (by unfold PtB Pt.drop; simp only []; omega) (by unfold SB at *; omega) (by unfold SB at *; omega)) e39 rfl rfl rfl w39 ⟨(lx rfl), (lx rfl), trivial⟩ r39) ?_
        refine WPl.nil (EX.then ?_)
        refine WP.cond rfl (fun hc4 => ?_) (fun hc4 => ?_)
        · try simp only [cnd] at hc4
          refine WP.seq (WP.region ?_)
          refine WPl.v rfl (o_assign rfl) ?_
          refine WPl.nil (EX.then (WP.ret (EX.ret_blk (EX.ret_then (EX.ret_then (EX.ret_blk (EX.ret_then ?_)))))))
          rw [show f.canP plan (k + 1) night tl th al ah gone = true from by simp only [Fnd.canP, hs1]; rw [not_allI (show i < ((nth f.nights night).hi - (nth f.nights night).lo + 1).toNat by omega) (by simpa using hc4)]; rfl]
          exact EX.fin id (.inl rfl) rfl (.tmp rfl .nil) rfl (by simp [SV.res, El.res, At.res, keys]) trivial (by simp) (by simp)
        · try simp only [cnd] at hc4
          refine WP.skip (EX.blk (EX.then (WP.region ?_)))
          refine WPl.v rfl (o_move rfl) ?_
          refine WPl.v rfl (o_add rfl rfl (by first | omega | (simp; omega)) (by first | omega | (simp; omega))) ?_
          refine WPl.v rfl (o_assign rfl) ?_
          refine WPl.nil ?_
          refine EX.again (i + 1) id (by exact ⟨by omega, by simp only [allI, hi2, Bool.true_and]; simpa using hc4⟩) (by omega) (LeR.of ⟨rfl, rfl, rfl, rfl, rfl, rfl, rfl, (congrArg (fun z => some (SV.i z)) (show (((nth f.nights night).lo + (i : Int)) + 1) = ((fun i => (nth f.nights night).lo + (i : Int)) (i + 1)) from by show (nth f.nights night).lo + (i : Int) + 1 = (nth f.nights night).lo + ((i + 1 : Nat) : Int); omega)), trivial⟩ ⟨(lx rfl), (lx rfl), trivial⟩ ⟨rfl, rfl, rfl, trivial⟩ rfl rfl rfl rfl rfl)
      · try simp only [cnd] at hc3
        refine WP.exit (EX.exit_then (EX.exit_then (EX.exit_blk (EX.then (WP.seq (WP.region ?_))))))
        refine WPl.v rfl (o_assign rfl) ?_
        refine WPl.nil (EX.then (WP.ret ?_))
        have he : i = ((nth f.nights night).hi - (nth f.nights night).lo + 1).toNat := by omega
        subst he
        rw [show f.canP plan (k + 1) night tl th al ah gone = false from by simp only [Fnd.canP, hs1]; rw [hi2]; rfl]
        exact EX.fin id (.inl rfl) rfl (.tmp rfl .nil) rfl (by simp [SV.res, El.res, At.res, keys]) trivial (by simp) (by simp)
termination_by n
decreasing_by all_goals omega
end Go.Flong
namespace Go.Flong
open Go Go.Eng Go.Proofs
theorem e34 : Enters' Try.prog 34 := Try.call34
theorem e35 : Enters' Try.prog 35 := Try.call35
theorem e38 : Enters' Try.prog 38 := Try.call38
theorem w15 {f : Fnd} {plan : List (List Int)} : ∀ x ∈ ([.e (.g [ai (f.shop.pounds), ai (f.shop.tl), ai (f.shop.th), ai (f.shop.al), ai (f.shop.ah), ai (f.shop.room), ai (f.shop.tpl), ai (f.shop.tph), ai (f.shop.apl), ai (f.shop.aph), .q 0, .q 1]), .e (.a (.q 2))] : List SV), x.res (keys (α := Pred) [(0, PL EPig (f.shop.pigs)), (1, PL ENight (f.nights)), (2, PL (EP.sl EP.int) (plan))]) := by simp [SV.res, El.res, At.res, keys]
theorem r15 {f : Fnd} {plan : List (List Int)} : SV.res (keys (α := Pred) []) (.t [.a (ai (f.wSafeV plan)), .a (ai (f.wOpen (f.wPlan plan)))]) := by simp [SV.res, El.res, At.res, keys]
set_option maxHeartbeats 4000000 in
theorem c15 (f : Fnd) (plan : List (List Int)) (hl : f.shop.pigs.length ≤ 40) : Sig Try.prog 15 [.e (.g [ai (f.shop.pounds), ai (f.shop.tl), ai (f.shop.th), ai (f.shop.al), ai (f.shop.ah), ai (f.shop.room), ai (f.shop.tpl), ai (f.shop.tph), ai (f.shop.apl), ai (f.shop.aph), .q 0, .q 1]), .e (.a (.q 2))] [(0, PL EPig (f.shop.pigs)), (1, PL ENight (f.nights)), (2, PL (EP.sl EP.int) (plan))] (.t [.a (ai (f.wSafeV plan)), .a (ai (f.wOpen (f.wPlan plan)))]) [] := by
  rcases (show f.chk = false ∨ (f.chk = true ∧ (f.wPlan plan) = false) ∨ (f.chk = true ∧ (f.wPlan plan) = true) from by cases f.chk <;> cases (f.wPlan plan) <;> simp) with hf | ⟨hf, hv⟩ | ⟨hf, hv⟩
  · skip
    refine Sig.intro Try.func15 rfl 3 [(0, .e (.g [ai (f.shop.pounds), ai (f.shop.tl), ai (f.shop.th), ai (f.shop.al), ai (f.shop.ah), ai (f.shop.room), ai (f.shop.tpl), ai (f.shop.tph), ai (f.shop.apl), ai (f.shop.aph), .q 0, .q 1])), (1, .e (.a (.q 2)))] rfl w15 rfl rfl fun I w => ?_
    refine WP.seq (WP.region ?_)
    refine WPl.l 3 4 rfl rfl rfl (o_boxg rfl) ?_
    refine WPl.l 4 5 rfl rfl rfl (o_boxa rfl (.inl ⟨_, (lx rfl), PL.one⟩)) ?_
    refine WPl.v rfl (o_assign rfl) ?_
    refine WPl.v rfl (o_assign rfl) ?_
    refine WPl.nil (EX.then (WP.seq (WP.region ?_)))
    refine WPl.v rfl (o_ldpa G31 rfl rfl rfl) ?_
    refine WPl.imp (Imp.frzb (E := EP.box (PL (EP.sl EP.int) (plan))) (y := ()) 4 5 6 rfl rfl (bok_box (lx rfl)) rfl rfl rfl) ?_
    refine WPl.x 6 7 rfl rfl rfl (o_mkfn0 6 rfl) ?_
    refine WPl.cs 7 rfl rfl rfl rfl (o_sig 7 (ren [(0, 0), (1, 1), (2, 6)]) (c34CE f hf hl) e34 rfl rfl rfl w34CE ⟨(lx rfl), (lx rfl), (lx rfl), trivial⟩ r34CE) ?_
    refine WPl.v rfl (o_move rfl) ?_
    refine WPl.v rfl (o_extract rfl rfl) ?_
    refine WPl.v rfl (o_extract rfl rfl) ?_
    refine WPl.v rfl (o_assign rfl) ?_
    refine WPl.v rfl (o_assign rfl) ?_
    refine WPl.nil (EX.then (WP.seq (WP.seq (WP.region ?_))))
    refine WPl.v rfl (o_move rfl) ?_
    refine WPl.v rfl (o_neq rfl rfl) ?_
    refine WPl.nil (EX.then ?_)
    refine WP.cond rfl (fun hc1 => ?_) (fun hc1 => ?_)
    · try simp only [cnd] at hc1
      refine WP.seq (WP.region ?_)
      refine WPl.v rfl (o_move rfl) ?_
      refine WPl.v rfl (o_assign rfl) ?_
      refine WPl.v rfl (o_assign rfl) ?_
      refine WPl.nil (EX.then (WP.ret (EX.ret_then ?_)))
      have he : f.wOpen (f.wPlan plan) = 130 := by simp [Fnd.wOpen, hf]
      rw [he, show f.wSafeV plan = 0 from by simp [Fnd.wSafeV, he]]
      exact EX.fin id (.inl rfl) rfl (.tmp rfl (.tmp rfl .nil)) rfl (by simp [SV.res, El.res, At.res, keys]) trivial (by simp) (by simp)
    · try simp only [cnd] at hc1
      simp at hc1
  · skip
    refine Sig.intro Try.func15 rfl 3 [(0, .e (.g [ai (f.shop.pounds), ai (f.shop.tl), ai (f.shop.th), ai (f.shop.al), ai (f.shop.ah), ai (f.shop.room), ai (f.shop.tpl), ai (f.shop.tph), ai (f.shop.apl), ai (f.shop.aph), .q 0, .q 1])), (1, .e (.a (.q 2)))] rfl w15 rfl rfl fun I w => ?_
    refine WP.seq (WP.region ?_)
    refine WPl.l 3 4 rfl rfl rfl (o_boxg rfl) ?_
    refine WPl.l 4 5 rfl rfl rfl (o_boxa rfl (.inl ⟨_, (lx rfl), PL.one⟩)) ?_
    refine WPl.v rfl (o_assign rfl) ?_
    refine WPl.v rfl (o_assign rfl) ?_
    refine WPl.nil (EX.then (WP.seq (WP.region ?_)))
    refine WPl.v rfl (o_ldpa G31 rfl rfl rfl) ?_
    refine WPl.imp (Imp.frzb (E := EP.box (PL (EP.sl EP.int) (plan))) (y := ()) 4 5 6 rfl rfl (bok_box (lx rfl)) rfl rfl rfl) ?_
    refine WPl.x 6 7 rfl rfl rfl (o_mkfva (svs := fun (r : Option Nat) => [.e (.a (.q 0))]) (X0 := fun (r : Option Nat) => [(0, PP (EWk r) (f))]) (sv := fun (r : Option Nat) => .b ((f.wPlan plan))) (X := fun (r : Option Nat) => []) (cs := [.e (.a (.q 1))]) (Xc := [(1, PP (EP.box (PL (EP.sl EP.int) (plan))) ())]) 6 (ren [(1, 5)]) (fun (r : Option Nat) => (c35 f r plan hf)) e35 (fun _ => rfl) rfl SvsOK.rf (fun _ => (by simp [SV.res, El.res, At.res, keys])) (by simp [SV.res, El.res, At.res, keys]) ⟨(lx rfl), trivial⟩) ?_
    refine WPl.cs 7 rfl rfl rfl rfl (o_sig 7 (ren [(0, 0), (1, 1), (2, 6)]) (c34CF f (f.wPlan plan) hf hv) e34 rfl rfl rfl w34CF ⟨(lx rfl), (lx rfl), (lx rfl), trivial⟩ r34CF) ?_
    refine WPl.v rfl (o_move rfl) ?_
    refine WPl.v rfl (o_extract rfl rfl) ?_
    refine WPl.v rfl (o_extract rfl rfl) ?_
    refine WPl.v rfl (o_assign rfl) ?_
    refine WPl.v rfl (o_assign rfl) ?_
    refine WPl.nil (EX.then (WP.seq (WP.seq (WP.region ?_))))
    refine WPl.v rfl (o_move rfl) ?_
    refine WPl.v rfl (o_neq rfl rfl) ?_
    refine WPl.nil (EX.then ?_)
    refine WP.cond rfl (fun hc1 => ?_) (fun hc1 => ?_)
    · try simp only [cnd] at hc1
      refine WP.seq (WP.region ?_)
      refine WPl.v rfl (o_move rfl) ?_
      refine WPl.v rfl (o_assign rfl) ?_
      refine WPl.v rfl (o_assign rfl) ?_
      refine WPl.nil (EX.then (WP.ret (EX.ret_then ?_)))
      have he : f.wOpen (f.wPlan plan) = 1 := by simp [Fnd.wOpen, hf, hv]
      rw [he, show f.wSafeV plan = 0 from by simp [Fnd.wSafeV, he]]
      exact EX.fin id (.inl rfl) rfl (.tmp rfl (.tmp rfl .nil)) rfl (by simp [SV.res, El.res, At.res, keys]) trivial (by simp) (by simp)
    · try simp only [cnd] at hc1
      simp at hc1
  · skip
    refine Sig.intro Try.func15 rfl 3 [(0, .e (.g [ai (f.shop.pounds), ai (f.shop.tl), ai (f.shop.th), ai (f.shop.al), ai (f.shop.ah), ai (f.shop.room), ai (f.shop.tpl), ai (f.shop.tph), ai (f.shop.apl), ai (f.shop.aph), .q 0, .q 1])), (1, .e (.a (.q 2)))] rfl w15 rfl rfl fun I w => ?_
    refine WP.seq (WP.region ?_)
    refine WPl.l 3 4 rfl rfl rfl (o_boxg rfl) ?_
    refine WPl.l 4 5 rfl rfl rfl (o_boxa rfl (.inl ⟨_, (lx rfl), PL.one⟩)) ?_
    refine WPl.v rfl (o_assign rfl) ?_
    refine WPl.v rfl (o_assign rfl) ?_
    refine WPl.nil (EX.then (WP.seq (WP.region ?_)))
    refine WPl.v rfl (o_ldpa G31 rfl rfl rfl) ?_
    refine WPl.imp (Imp.frzb (E := EP.box (PL (EP.sl EP.int) (plan))) (y := ()) 4 5 6 rfl rfl (bok_box (lx rfl)) rfl rfl rfl) ?_
    refine WPl.x 6 7 rfl rfl rfl (o_mkfva (svs := fun (r : Option Nat) => [.e (.a (.q 0))]) (X0 := fun (r : Option Nat) => [(0, PP (EWk r) (f))]) (sv := fun (r : Option Nat) => .b ((f.wPlan plan))) (X := fun (r : Option Nat) => []) (cs := [.e (.a (.q 1))]) (Xc := [(1, PP (EP.box (PL (EP.sl EP.int) (plan))) ())]) 6 (ren [(1, 5)]) (fun (r : Option Nat) => (c35 f r plan hf)) e35 (fun _ => rfl) rfl SvsOK.rf (fun _ => (by simp [SV.res, El.res, At.res, keys])) (by simp [SV.res, El.res, At.res, keys]) ⟨(lx rfl), trivial⟩) ?_
    refine WPl.cM 9 (o_sigm (J := [0]) 7 8 (ren [(0, 0), (1, 1), (2, 6)]) (c34C f (f.wPlan plan) hf hv) e34 rfl rfl SvsOK.rf w34C ⟨(lx rfl), (lx rfl), (lx rfl), trivial⟩ (fun _ => rfl) (by simp [SV.res, El.res, At.res, keys]) rfl) rfl rfl rfl fun b13 => ?_
    refine WPl.v rfl (o_move rfl) ?_
    refine WPl.v rfl (o_extract rfl rfl) ?_
    refine WPl.v rfl (o_extract rfl rfl) ?_
    refine WPl.v rfl (o_assign rfl) ?_
    refine WPl.v rfl (o_assign rfl) ?_
    refine WPl.nil (EX.then (WP.seq (WP.seq (WP.region ?_))))
    refine WPl.v rfl (o_move rfl) ?_
    refine WPl.v rfl (o_neq rfl rfl) ?_
    refine WPl.nil (EX.then ?_)
    refine WP.cond rfl (fun hc1 => ?_) (fun hc1 => ?_)
    · try simp only [cnd] at hc1
      simp at hc1
    · try simp only [cnd] at hc1
      have hp := wPlanB hf hv
      have hcb := Fnd.chkB hf
      have htb := tl_bnd (Fnd.shopOK hf)
      have hpg := Shop.pigsOK (Fnd.shopOK hf)
      refine WP.skip (EX.then (WP.seq (WP.seq (WP.region ?_))))
      refine WPl.v rfl (o_move rfl) ?_
      refine WPl.cs 9 rfl rfl rfl rfl (o_sig 9 (ren [(0, 7)]) (c37 f (some b13) (by omega)) e37 rfl rfl rfl w37 ⟨(lx rfl), trivial⟩ r37) ?_
      refine WPl.v rfl (o_move rfl) ?_
      refine WPl.v rfl (o_extract rfl rfl) ?_
      refine WPl.v rfl (o_extract rfl rfl) ?_
      refine WPl.l 9 10 rfl rfl rfl (o_alloc Z84) ?_
      refine WPl.l 10 11 rfl rfl rfl (o_alloc Z86) ?_
      refine WPl.s1 (o_stag G84 rfl rfl rfl ⟨rfl, rfl, rfl, rfl, rfl, rfl, rfl, trivial⟩ rfl rfl) ?_
      refine WPl.s1 (o_stag G86 rfl rfl rfl ⟨rfl, rfl, rfl, rfl, trivial⟩ rfl rfl) ?_
      refine WPl.nil (EX.then (WP.block (WP.seq (WP.region ?_))))
      refine WPl.v rfl (o_move rfl) ?_
      refine WPl.x 11 12 rfl rfl rfl (o_ldqx S45 rfl (lx rfl) boxx) ?_
      refine WPl.cs 13 rfl rfl rfl rfl (o_sig 12 (ren [(0, 7), (1, 11)]) (c38 f (some b13) plan hf hp) e38 rfl rfl rfl w38 ⟨(lx rfl), (lx rfl), trivial⟩ r38) ?_
      refine WPl.v rfl (o_lenq L32 rfl (lx rfl)) ?_
      refine WPl.v rfl (o_eql rfl rfl) ?_
      refine WPl.v rfl (o_assign rfl) ?_
      refine WPl.nil (EX.then ?_)
      refine WP.cond rfl (fun hc2 => ?_) (fun hc2 => ?_)
      · try simp only [cnd] at hc2
        refine WP.seq (WP.region ?_)
        refine WPl.v rfl (o_assign rfl) ?_
        refine WPl.v rfl (o_assign rfl) ?_
        refine WPl.nil (EX.then (WP.ret (EX.ret_blk (EX.ret_then ?_))))
        have hz : (f.wFails plan).length = 0 := by omega
        have he : f.wOpen (f.wPlan plan) = 0 := by simp [Fnd.wOpen, hf, hv]
        rw [he, show f.wSafeV plan = 1 from by simp [Fnd.wSafeV, he, List.length_eq_zero_iff.1 hz]]
        exact EX.fin id (.inl rfl) rfl (.tmp rfl (.tmp rfl .nil)) rfl (by simp [SV.res, El.res, At.res, keys]) trivial (by simp) (by simp)
      · try simp only [cnd] at hc2
        refine WP.seq (WP.region ?_)
        refine WPl.v rfl (o_move rfl) ?_
        refine WPl.x 13 14 rfl rfl rfl (o_ldqx S45 rfl (lx rfl) boxx) ?_
        refine WPl.v rfl (o_fldp F84_1 rfl) ?_
        refine WPl.v rfl (o_ldpg G23 rfl rfl rfl) ?_
        refine WPl.v rfl (o_fldp F84_2 rfl) ?_
        refine WPl.v rfl (o_ldpg G23 rfl rfl rfl) ?_
        refine WPl.v rfl (o_fldp F84_0 rfl) ?_
        refine WPl.v rfl (o_ldp S3 rfl rfl rfl) ?_
        refine WPl.v rfl (o_build B84 rfl ⟨rfl, trivial⟩ rfl rfl) ?_
        refine WPl.cs 14 rfl rfl rfl rfl (o_sig 14 (ren [(0, 7), (1, 13)]) (c39 f (some b13) plan 0 f.nights.length f.shop.tl f.shop.th f.shop.al f.shop.ah (⟨f.shop.pounds, 0, 0, 0, 0, 0, 0⟩ : Pt) hf hp (by omega) (by omega) (by unfold PtB; simp only []; omega) (by unfold SB; omega) (by unfold SB; omega)) e39 rfl rfl rfl w39 ⟨(lx rfl), (lx rfl), trivial⟩ r39) ?_
        refine WPl.v rfl (o_assign rfl) ?_
        refine WPl.nil (EX.then ?_)
        refine WP.cond rfl (fun hc3 => ?_) (fun hc3 => ?_)
        · try simp only [cnd] at hc3
          refine WP.seq (WP.region ?_)
          refine WPl.v rfl (o_assign rfl) ?_
          refine WPl.v rfl (o_assign rfl) ?_
          refine WPl.nil (EX.then (WP.ret (EX.ret_blk (EX.ret_then ?_))))
          have hz : ¬ (f.wFails plan).length = 0 := by omega
          have hc : f.wCan plan = true := hc3
          have he : f.wOpen (f.wPlan plan) = 0 := by simp [Fnd.wOpen, hf, hv]
          rw [he, show f.wSafeV plan = 3 from by simp only [Fnd.wSafeV, he, if_neg hz, hc]; rfl]
          exact EX.fin id (.inl rfl) rfl (.tmp rfl (.tmp rfl .nil)) rfl (by simp [SV.res, El.res, At.res, keys]) trivial (by simp) (by simp)
        · try simp only [cnd] at hc3
          refine WP.skip (EX.blk (EX.then (WP.seq (WP.region ?_))))
          refine WPl.v rfl (o_assign rfl) ?_
          refine WPl.v rfl (o_assign rfl) ?_
          refine WPl.nil (EX.then (WP.ret ?_))
          have hz : ¬ (f.wFails plan).length = 0 := by omega
          have hc : f.wCan plan = false := hc3
          have he : f.wOpen (f.wPlan plan) = 0 := by simp [Fnd.wOpen, hf, hv]
          rw [he, show f.wSafeV plan = 2 from by simp only [Fnd.wSafeV, he, if_neg hz, hc]; rfl]
          exact EX.fin id (.inl rfl) rfl (.tmp rfl (.tmp rfl .nil)) rfl (by simp [SV.res, El.res, At.res, keys]) trivial (by simp) (by simp)
end Go.Flong
namespace Go.Flong
open Go Go.Eng Go.Proofs
theorem e80 : Enters' Try.prog 80 := Try.call80
theorem w80 {f : Fnd} {r : Option Nat} {p : Pt} {left : List Int} : ∀ x ∈ ([.e (.a (.q 0)), .e (.a (.q 1)), .e (.a (.q 2))] : List SV), x.res (keys (α := Pred) [(0, PP (EP.box (PP (EWk r) (f))) ()), (1, PP EPt (p)), (2, PP (EArr 4) (left))]) := by simp [SV.res, El.res, At.res, keys]
set_option maxHeartbeats 4000000 in
theorem c80 (f : Fnd) (r : Option Nat) (p : Pt) (left : List Int) (m : Int) (hf : f.chk = true) (hp : PtB p m) (hm : m ≤ 10000000) (hl : bnd4 left) : SigI Try.prog 80 [.e (.a (.q 0)), .e (.a (.q 1)), .e (.a (.q 2))] [(0, PP (EP.box (PP (EWk r) (f))) ()), (1, PP EPt (p)), (2, PP (EArr 4) (left))] (f.chItems p left) := by
  have hpg := Shop.pigsOK (Fnd.shopOK hf)
  have hp4 := hpg.2
  have h0b := chBox_pos hl hp4
  have hN0 : 0 < (f.chBox left).length := (List.getElem?_eq_some_iff.1 h0b).1
  refine SigI.intro Try.func80 rfl 4 3 w80 rfl rfl rfl fun I w l Y K F0 hround => ?_
  have hF : ∀ c, F0 c → F0 c := fun _ h => h
  refine WP.seq (WP.region ?_)
  refine WPl.x 4 5 rfl rfl rfl (o_ldqx S78 rfl (lx rfl) boxx) ?_
  refine WPl.v rfl (o_nilq rfl (lx rfl)) ?_
  refine WPl.v rfl (o_fldq F103_0 rfl (lx rfl)) ?_
  refine WPl.v rfl (o_flde F31_0 rfl (lx rfl)) ?_
  refine WPl.v rfl (o_flde F28_4 rfl (lx rfl)) ?_
  refine WPl.x 5 6 rfl rfl rfl (o_ldex S26 rfl (lx rfl) (strS rfl)) ?_
  refine WPl.v rfl (o_lenq L26 rfl (lx rfl)) ?_
  refine WPl.u1 (k := 6) (m := 7) rfl rfl rfl (OpG.newer0 (o_make (z := 0) (E := EP.int) f.shop.pigs.length R32 (fun _ => rfl) rfl rfl (by first | omega | (simp; omega)) (by first | omega | (simp; omega)))) ?_
  refine WPl.v rfl (o_assign rfl) ?_
  refine WPl.nil (EX.then (WP.block ?_))
  refine WP.loop (Gh := Nat × (Nat → Prop)) (fun (⟨i, F⟩ : Nat × (Nat → Prop)) => ⟨7, [(0, .e (.a (.v (yv l)))), (1, .e (.a (.q 0))), (2, .e (.a (.q 1))), (3, .e (.a (.q 2))), (5, .e (.a (.q 6)))], [(0, PP (EP.box (PP (EWk r) (f))) ()), (1, PP EPt (p)), (2, PP (EArr 4) (left)), (6, Pred.newer _)], [(3, .ext ((Y (f.chIdx p left i)).xp F)), (6, .own 3 EP.int.size ((nth (f.chBox left) (i : Int))).length (RP EP.int ((nth (f.chBox left) (i : Int)))))], [], []⟩) (fun (⟨i, F⟩ : Nat × (Nat → Prop)) => i < (f.chBox left).length ∧ ∀ c, F0 c → F c) (fun (⟨i, F⟩ : Nat × (Nat → Prop)) => (f.chBox left).length - i) ((0, F0)) id ?_ (LeR.of ⟨rfl, rfl, rfl, rfl, rfl, trivial⟩ ⟨(lx rfl), (lx rfl), (lx rfl), (lx rfl), trivial⟩ ⟨(congrArg (fun z => some (Ent.ext ((Y z).xp F0))) (show 0 = f.chIdx p left 0 from rfl)), (congrArg (fun z => some (Ent.own 3 EP.int.size (List.length z) (RP EP.int z))) (show (List.replicate f.shop.pigs.length 0) = ((fun (⟨i, F⟩ : Nat × (Nat → Prop)) => (nth (f.chBox left) (i : Int))) (0, F0)) from by dsimp only; rw [nthN hN0]; exact (List.getElem?_eq_some_iff.1 h0b).2.symm)), trivial⟩ rfl rfl rfl rfl rfl) ?_
  · exact ⟨hN0, fun _ h => h⟩
  rintro ⟨i, F⟩ hφ
  obtain ⟨hiN, hF⟩ : i < (f.chBox left).length ∧ ∀ c, F0 c → F c := hφ
  obtain ⟨hrl, hrb, hrm⟩ := chBox_row hl hp4 hiN
  refine WP.block (WP.seq (WP.seq (WP.region ?_)))
  refine WPl.x 7 8 rfl rfl rfl (o_ldqx S78 rfl (lx rfl) boxx) ?_
  refine WPl.v rfl (o_ldqg G84 rfl (lx rfl) (strG rfl) rfl rfl) ?_
  refine WPl.v rfl (o_move rfl) ?_
  have hnb : PtB (p.addL f.shop.pigs (nth (f.chBox left) (i : Int))) (m + 400000) := addTo_bnd hp hpg (by rw [hrl]; exact Nat.le_refl _) (bnd_mono hrb (by omega)) (Nat.le_refl _)
  refine WPl.cs 8 rfl rfl rfl rfl (o_sigbc 8 (ren [(0, 7), (1, 6)]) (Sig.free (c63 f r p (nth (f.chBox left) (i : Int)) m hp (by omega) hpg (by rw [hrl]; exact Nat.le_refl _) (bnd_mono hrb (by omega)))) e63 rfl rfl SvsOK.rf w63 ⟨.x (lx rfl), .own rfl rfl, trivial⟩ r63) ?_
  refine WPl.l 8 9 rfl rfl rfl (o_alloc Z84) ?_
  refine WPl.s1 (o_stag G84 rfl rfl rfl ⟨rfl, rfl, rfl, rfl, rfl, rfl, rfl, trivial⟩ rfl rfl) ?_
  refine WPl.nil (EX.then (WP.seq (WP.region ?_)))
  refine WPl.x 9 10 rfl rfl rfl (o_ldqx S78 rfl (lx rfl) boxx) ?_
  refine WPl.v rfl (o_ldpa G84 rfl rfl rfl) ?_
  refine WPl.cs 10 rfl rfl rfl rfl (o_sig 10 (ren [(0, 9)]) (c61 f r (p.addL f.shop.pigs (nth (f.chBox left) (i : Int))) (m + 400000) hnb (by omega)) e61 rfl rfl rfl w61 ⟨(lx rfl), trivial⟩ r61) ?_
  refine WPl.v rfl (o_move rfl) ?_
  refine WPl.bit 10 11 (f.fitsP (p.addL f.shop.pigs (nth (f.chBox left) (i : Int)))) rfl rfl ?_
  refine WPl.gx 10 11 12 rfl rfl rfl rfl (.plain rfl Iff.rfl rfl) (fun hb => o_ldqx S78 rfl (lx rfl) boxx) ?_
  refine WPl.gv 10 rfl rfl (.plain rfl Iff.rfl rfl) (fun hb => o_ldpa G84 rfl rfl rfl) ?_
  refine WPl.gc0 10 rfl rfl (.plain rfl Iff.rfl rfl) (fun hb => o_sig 12 (ren [(0, 11)]) (c62 f r (p.addL f.shop.pigs (nth (f.chBox left) (i : Int))) (m + 400000) hnb (by omega) (Fnd.shopOK hf)) e62 rfl rfl rfl w62 ⟨(lxi hb rfl), trivial⟩ r62) ?_
  refine WPl.v rfl (o_and rfl rfl rfl id) ?_
  refine WPl.v rfl (o_move rfl) ?_
  rcases Bool.eq_false_or_eq_true ((f.fitsP (p.addL f.shop.pigs (nth (f.chBox left) (i : Int)))) && (f.sureP (p.addL f.shop.pigs (nth (f.chBox left) (i : Int))))) with hs28 | hs28
  · refine WPl.imp (Imp.bitF 28 (b' := true) rfl hs28) ?_
    refine WPl.on rfl ⟨_, _, rfl, rfl, rfl⟩ (o_move rfl) ?_
    refine WPl.on rfl ⟨_, _, rfl, rfl, rfl⟩ (o_move rfl) ?_
    refine WPl.on rfl ⟨_, _, rfl, rfl, rfl⟩ (o_ldpa G84 rfl rfl rfl) ?_
    refine WPl.yield (Y' := Y (f.chIdx p left i + 1)) (K' := K) 3 rfl rfl ⟨_, _, rfl, rfl, rfl⟩ rfl rfl rfl (yieldH (ky := 3) (J := [0]) (it := ⟨[.e (.a (.q 0)), .e (.g [ai ((p.addL f.shop.pigs (nth (f.chBox left) (i : Int))).pounds), ai ((p.addL f.shop.pigs (nth (f.chBox left) (i : Int))).tl), ai ((p.addL f.shop.pigs (nth (f.chBox left) (i : Int))).th), ai ((p.addL f.shop.pigs (nth (f.chBox left) (i : Int))).al), ai ((p.addL f.shop.pigs (nth (f.chBox left) (i : Int))).ah), ai ((p.addL f.shop.pigs (nth (f.chBox left) (i : Int))).dl), ai ((p.addL f.shop.pigs (nth (f.chBox left) (i : Int))).dh)])], [], [(0, PL EP.int ((nth (f.chBox left) (i : Int))))]⟩) (ren [(0, 6)]) (hround (f.chIdx p left i) _ (chIdx_at hiN hs28)) rfl (hF) SvsOK.rf (by simp [SV.res, El.res, At.res, keys]) trivial ⟨.own rfl rfl (fun _ _ _ _ h => h), trivial⟩) fun by32 F1 hF1 => ?_
    have hF : ∀ c, F0 c → F1 c := fun c hc => hF1 c (hF c hc)
    cases by32
    · skip
      refine WPl.on rfl ⟨_, _, rfl, rfl, rfl⟩ (o_not rfl) ?_
      refine WPl.v rfl (o_pickT rfl rfl) ?_
      refine WPl.nil (EX.then ?_)
      refine WP.cond rfl (fun _ => ?_) (fun h => by cases h)
      refine WP.ret (EX.ret_then (EX.ret_blk (EX.ret_then (EX.ret_blk ?_))))
      exact EX.finI (.inl rfl) rfl rfl (ky := 3) (Y := K) rfl (fun _ _ h => .inr h)
    · skip
      refine WPl.on rfl ⟨_, _, rfl, rfl, rfl⟩ (o_not rfl) ?_
      refine WPl.v rfl (o_pickT rfl rfl) ?_
      refine WPl.nil (EX.then ?_)
      refine WP.cond rfl (fun h => by cases h) (fun _ => ?_)
      refine WP.skip (EX.then (WP.seq (WP.region ?_)))
      refine WPl.v rfl (o_move rfl) ?_
      refine WPl.v rfl (o_leno L32 rfl rfl) ?_
      refine WPl.v rfl (o_sub rfl rfl (by first | omega | (simp; omega)) (by first | omega | (simp; omega))) ?_
      refine WPl.v rfl (o_assign rfl) ?_
      refine WPl.nil (EX.then (WP.seq (WP.block ?_)))
      refine WP.loop (Gh := Nat) (fun j => ⟨12, [(0, .e (.a (.v (yv l)))), (1, .e (.a (.q 0))), (2, .e (.a (.q 1))), (3, .e (.a (.q 2))), (5, .e (.a (.q 6))), (16, .e (.a (.q 7))), (17, .e (.g [ai (p.pounds), ai (p.tl), ai (p.th), ai (p.al), ai (p.ah), ai (p.dl), ai (p.dh)])), (18, .e (.a (.q 6))), (19, .e (.g [ai ((p.addL f.shop.pigs (nth (f.chBox left) (i : Int))).pounds), ai ((p.addL f.shop.pigs (nth (f.chBox left) (i : Int))).tl), ai ((p.addL f.shop.pigs (nth (f.chBox left) (i : Int))).th), ai ((p.addL f.shop.pigs (nth (f.chBox left) (i : Int))).al), ai ((p.addL f.shop.pigs (nth (f.chBox left) (i : Int))).ah), ai ((p.addL f.shop.pigs (nth (f.chBox left) (i : Int))).dl), ai ((p.addL f.shop.pigs (nth (f.chBox left) (i : Int))).dh)])), (6, .e (.a (.p 8 (0)))), (20, .e (.a (.q 9))), (21, .e (.g [ai ((p.addL f.shop.pigs (nth (f.chBox left) (i : Int))).pounds), ai ((p.addL f.shop.pigs (nth (f.chBox left) (i : Int))).tl), ai ((p.addL f.shop.pigs (nth (f.chBox left) (i : Int))).th), ai ((p.addL f.shop.pigs (nth (f.chBox left) (i : Int))).al), ai ((p.addL f.shop.pigs (nth (f.chBox left) (i : Int))).ah), ai ((p.addL f.shop.pigs (nth (f.chBox left) (i : Int))).dl), ai ((p.addL f.shop.pigs (nth (f.chBox left) (i : Int))).dh)])), (22, .b (f.fitsP (p.addL f.shop.pigs (nth (f.chBox left) (i : Int))))), (23, .b (f.fitsP (p.addL f.shop.pigs (nth (f.chBox left) (i : Int))))), (27, .b ((f.fitsP (p.addL f.shop.pigs (nth (f.chBox left) (i : Int)))) && (f.sureP (p.addL f.shop.pigs (nth (f.chBox left) (i : Int)))))), (28, .b (true)), (29, .e (.a (.v (yv l)))), (30, .e (.a (.q 6))), (31, .e (.g [ai ((p.addL f.shop.pigs (nth (f.chBox left) (i : Int))).pounds), ai ((p.addL f.shop.pigs (nth (f.chBox left) (i : Int))).tl), ai ((p.addL f.shop.pigs (nth (f.chBox left) (i : Int))).th), ai ((p.addL f.shop.pigs (nth (f.chBox left) (i : Int))).al), ai ((p.addL f.shop.pigs (nth (f.chBox left) (i : Int))).ah), ai ((p.addL f.shop.pigs (nth (f.chBox left) (i : Int))).dl), ai ((p.addL f.shop.pigs (nth (f.chBox left) (i : Int))).dh)])), (32, .b (true)), (33, .b (false)), (34, .b (false)), (35, .e (.a (.q 6))), (36, .i (((nth (f.chBox left) (i : Int)).length : Int))), (37, .i (((nth (f.chBox left) (i : Int)).length : Int) - 1)), (7, .i ((f.shop.pigs.length : Int) - 1 - (j : Int)))], [(0, PP (EP.box (PP (EWk r) (f))) ()), (1, PP EPt (p)), (2, PP (EArr 4) (left)), (6, Pred.newer _), (7, PP (EWk r) (f)), (9, PP (EWk r) (f))], [(3, .ext ((Y (f.chIdx p left i + 1)).xp F1)), (6, .own 3 EP.int.size (zr (nth (f.chBox left) (i : Int)) j).length (RP EP.int (zr (nth (f.chBox left) (i : Int)) j))), (8, .blk [ai ((p.addL f.shop.pigs (nth (f.chBox left) (i : Int))).pounds), ai ((p.addL f.shop.pigs (nth (f.chBox left) (i : Int))).tl), ai ((p.addL f.shop.pigs (nth (f.chBox left) (i : Int))).th), ai ((p.addL f.shop.pigs (nth (f.chBox left) (i : Int))).al), ai ((p.addL f.shop.pigs (nth (f.chBox left) (i : Int))).ah), ai ((p.addL f.shop.pigs (nth (f.chBox left) (i : Int))).dl), ai ((p.addL f.shop.pigs (nth (f.chBox left) (i : Int))).dh)] 84)], [], []⟩) (fun j => j ≤ f.shop.pigs.length ∧ ∀ a : Nat, f.shop.pigs.length - j ≤ a → a < f.shop.pigs.length → nth (nth (f.chBox left) (i : Int)) a = nth left a) (fun j => f.shop.pigs.length - j) (0) id ?_ (LeR.of ⟨rfl, rfl, rfl, rfl, rfl, rfl, rfl, rfl, rfl, rfl, rfl, rfl, rfl, rfl, rfl, rfl, rfl, rfl, rfl, rfl, rfl, rfl, rfl, rfl, rfl, (congrArg (fun z => some (SV.i z)) (show (((nth (f.chBox left) (i : Int)).length : Int) - 1) = ((fun j => (f.shop.pigs.length : Int) - 1 - (j : Int)) 0) from by rw [hrl]; simp)), trivial⟩ ⟨(lx rfl), (lx rfl), (lx rfl), (lx rfl), (lx rfl), (lx rfl), trivial⟩ ⟨rfl, (congrArg (fun z => some (Ent.own 3 EP.int.size (List.length z) (RP EP.int z))) (show ((nth (f.chBox left) (i : Int))) = ((fun j => zr (nth (f.chBox left) (i : Int)) j) 0) from by simp [zr])), rfl, trivial⟩ rfl rfl rfl rfl rfl) ?_
      · exact ⟨by omega, fun a h1 h2 => by omega⟩
      intro j hφ
      obtain ⟨hj1, hj2⟩ := hφ
      have hzl : (zr (nth (f.chBox left) (i : Int)) j).length = f.shop.pigs.length := by rw [zr_len (by omega)]; exact hrl
      have hzn : j < f.shop.pigs.length → nth (zr (nth (f.chBox left) (i : Int)) j) ((f.shop.pigs.length : Int) - 1 - (j : Int)) = nth (nth (f.chBox left) (i : Int)) ((f.shop.pigs.length : Int) - 1 - (j : Int)) := fun h => by rw [← hrl]; exact zr_nth (by omega)
      refine WP.seq (WP.seq ?_)
      refine WP.imp (Imp.bit 12 13 (decide (0 ≤ ((f.shop.pigs.length : Int) - 1 - (j : Int)))) rfl rfl) ?_
      refine WP.draw (nf := 13) [⟨[], [], [], [], []⟩, ⟨[], [], [], [], [0]⟩, ⟨[], [], [], [], [0, 1]⟩, ⟨[42, 45, 46, 47], [], [], [], [0, 1, 2]⟩, ⟨[41, 45, 46, 47], [], [], [], [0, 1, 2]⟩, ⟨[45, 46, 47], [], [], [], [0, 1, 2, 3, 4]⟩, ⟨[45, 46, 47], [], [], [], [0, 1, 2, 3, 4, 5]⟩, ⟨[41, 42, 43, 44], [], [], [], [0, 1, 2]⟩, ⟨[41, 42, 43, 44], [], [], [], [0, 1, 2, 7]⟩, ⟨[41, 42, 43, 44], [], [], [], [0, 1, 2, 7, 8]⟩, ⟨[], [], [], [], [0, 1, 2, 3, 4, 5, 6, 7, 8, 9]⟩, ⟨[], [], [], [], [0, 1, 2, 3, 4, 5, 6, 7, 8, 9, 10]⟩] (by kernel_rfl) (by kernel_rfl) ?_
      refine DRQ.v rfl rfl rfl (o_move rfl) ?_
      refine DRQ.v rfl rfl rfl (o_geq rfl rfl) ?_
      refine DRQ.v rfl rfl rfl (o_move rfl) ?_
      refine DRQ.gv 12 rfl rfl (.plain rfl Iff.rfl rfl) rfl (fun hb => o_move rfl) ?_
      refine DRQ.gv 12 rfl rfl (.plain rfl Iff.rfl rfl) rfl (fun hb => o_move rfl) ?_
      refine DRQ.gv 12 rfl rfl (.plain rfl Iff.rfl rfl) rfl (fun hb => have hb2 := of_decide_eq_true hb; o_idxo L32 rfl rfl rfl (by first | omega | (simp; omega)) (by first | omega | (simp; omega))) ?_
      refine DRQ.gv 12 rfl rfl (.plain rfl Iff.rfl rfl) rfl (fun hb => have hb2 := of_decide_eq_true hb; o_ldoi S3 rfl rfl rfl rfl (by first | omega | (simp; omega)) (by first | omega | (simp; omega))) ?_
      refine DRQ.gv 12 rfl rfl (.plain rfl Iff.rfl rfl) rfl (fun hb => o_move rfl) ?_
      refine DRQ.gv 12 rfl rfl (.plain rfl Iff.rfl rfl) rfl (fun hb => have hb2 := of_decide_eq_true hb; o_idxq A86 rfl (lx rfl) rfl (by first | omega | (simp; omega)) (by first | omega | (simp; omega))) ?_
      refine DRQ.gv 12 rfl rfl (.plain rfl Iff.rfl rfl) rfl (fun hb => have hb2 := of_decide_eq_true hb; o_lde S3 rfl (lx rfl) (arr_get (by first | omega | (simp; omega)) (by first | omega | (simp; omega)))) ?_
      refine DRQ.gv 12 rfl rfl (.plain rfl Iff.rfl rfl) rfl (fun hb => o_eql rfl rfl) ?_
      refine DRQ.v rfl rfl rfl (o_and rfl rfl rfl id) ?_
      refine DRQ.nil' ?_
      refine EX.then ?_
      refine WP.cond rfl (fun hc2 => ?_) (fun hc2 => ?_)
      · try simp only [cnd] at hc2
        obtain ⟨hge, heq⟩ := hc2
        refine WP.skip (EX.then (WP.seq (WP.block (WP.region ?_))))
        refine WPl.v rfl (o_move rfl) ?_
        refine WPl.v rfl (o_move rfl) ?_
        refine WPl.v rfl (o_idxo L32 rfl rfl rfl (by first | omega | (simp; omega)) (by first | omega | (simp; omega))) ?_
        refine WPl.s1 (o_steE2 Try.sizeOf3 rfl rfl rfl rfl eok_int rfl rfl rfl (by first | omega | (simp; omega)) (by first | omega | (simp; omega))) ?_
        refine WPl.nil (EX.blk (EX.then (WP.region ?_)))
        refine WPl.v rfl (o_move rfl) ?_
        refine WPl.v rfl (o_sub rfl rfl (by first | omega | (simp; omega)) (by first | omega | (simp; omega))) ?_
        refine WPl.v rfl (o_assign rfl) ?_
        refine WPl.nil ?_
        refine EX.again (j + 1) id (by exact ⟨by omega, fun a h1 h2 => by by_cases h3 : f.shop.pigs.length - j ≤ a; exact hj2 a h3 h2; have h4 : (a : Int) = (f.shop.pigs.length : Int) - 1 - (j : Int) := (by omega); rw [h4, ← hzn (by omega)]; exact heq⟩) (by omega) (LeR.of ⟨rfl, rfl, rfl, rfl, rfl, rfl, rfl, rfl, rfl, rfl, rfl, rfl, rfl, rfl, rfl, rfl, rfl, rfl, rfl, rfl, rfl, rfl, rfl, rfl, rfl, (congrArg (fun z => some (SV.i z)) (show (((f.shop.pigs.length : Int) - 1 - (j : Int)) - 1) = ((fun j => (f.shop.pigs.length : Int) - 1 - (j : Int)) (j + 1)) from by show (f.shop.pigs.length : Int) - 1 - (j : Int) - 1 = (f.shop.pigs.length : Int) - 1 - ((j + 1 : Nat) : Int); omega)), trivial⟩ ⟨(lx rfl), (lx rfl), (lx rfl), (lx rfl), (lx rfl), (lx rfl), trivial⟩ ⟨rfl, (congrArg (fun z => some (Ent.own 3 EP.int.size (List.length z) (RP EP.int z))) (show (lset (zr (nth (f.chBox left) (i : Int)) j) ((f.shop.pigs.length : Int) - 1 - (j : Int)) 0) = ((fun j => zr (nth (f.chBox left) (i : Int)) j) (j + 1)) from by dsimp only; rw [← hrl]; exact zr_step (by omega))), rfl, trivial⟩ rfl rfl rfl rfl rfl)
      · try simp only [cnd] at hc2
        refine WP.exit (EX.exit_then (EX.exit_then (EX.exit_blk (EX.then (WP.seq (WP.seq (WP.region ?_)))))))
        refine WPl.v rfl (o_move rfl) ?_
        refine WPl.v rfl (o_lss rfl rfl) ?_
        refine WPl.nil (EX.then ?_)
        refine WP.cond rfl (fun hc3 => ?_) (fun hc3 => ?_)
        · try simp only [cnd] at hc3
          refine WP.ret (EX.ret_then (EX.ret_blk (EX.ret_then (EX.ret_blk ?_))))
          have hend : f.chIdx p left i + 1 = (f.chItems p left).length := by rw [← chIdx_end, ← (ch_next hl hp4 hiN hj2).1 (by omega), chIdx_succ hiN, show f.chOK p (nth (f.chBox left) (i : Int)) = true from hs28]; rfl
          exact EX.finI (.inl rfl) rfl rfl (ky := 3) (Y := Y (f.chIdx p left i + 1)) rfl (fun _ _ h => .inl (by rw [hend] at h; exact h))
        · try simp only [cnd] at hc3
          refine WP.skip (EX.then (WP.region ?_))
          refine WPl.v rfl (o_move rfl) ?_
          refine WPl.v rfl (o_move rfl) ?_
          refine WPl.v rfl (o_idxo L32 rfl rfl rfl (by first | omega | (simp; omega)) (by first | omega | (simp; omega))) ?_
          refine WPl.v rfl (o_ldoi S3 rfl rfl rfl rfl (by first | omega | (simp; omega)) (by first | omega | (simp; omega))) ?_
          have hbb := hrb (f.shop.pigs.length - 1 - j) (by omega)
          rw [show ((f.shop.pigs.length - 1 - j : Nat) : Int) = (f.shop.pigs.length : Int) - 1 - (j : Int) by omega, ← hzn (by omega)] at hbb
          refine WPl.v rfl (o_add rfl rfl (by first | omega | (simp; omega)) (by first | omega | (simp; omega))) ?_
          refine WPl.v rfl (o_idxo L32 rfl rfl rfl (by first | omega | (simp; omega)) (by first | omega | (simp; omega))) ?_
          refine WPl.s1 (o_steE2 Try.sizeOf3 rfl rfl rfl rfl eok_int rfl rfl rfl (by first | omega | (simp; omega)) (by first | omega | (simp; omega))) ?_
          refine WPl.nil (EX.blk ?_)
          have hne := hc2.resolve_left (by omega)
          rw [hzn (by omega)] at hne
          have hnx := (ch_next hl hp4 hiN hj2).2 (by omega) hne
          refine EX.again ((i + 1, F1)) id (by exact ⟨hnx.1, hF⟩) (by first | omega | (dsimp only; omega) | (simp only []; omega)) (LeR.of ⟨rfl, rfl, rfl, rfl, rfl, trivial⟩ ⟨(lx rfl), (lx rfl), (lx rfl), (lx rfl), trivial⟩ ⟨(congrArg (fun z => some (Ent.ext ((Y z).xp F1))) (show f.chIdx p left i + 1 = f.chIdx p left (i + 1) from by rw [chIdx_succ hiN, show f.chOK p (nth (f.chBox left) (i : Int)) = true from hs28]; rfl)), (congrArg (fun z => some (Ent.own 3 EP.int.size (List.length z) (RP EP.int z))) (show (lset (zr (nth (f.chBox left) (i : Int)) j) ((f.shop.pigs.length : Int) - 1 - (j : Int)) ((nth (zr (nth (f.chBox left) (i : Int)) j) ((f.shop.pigs.length : Int) - 1 - (j : Int))) + 1)) = ((fun (⟨i, F⟩ : Nat × (Nat → Prop)) => (nth (f.chBox left) (i : Int))) (i + 1, F1)) from hnx.2)), trivial⟩ rfl rfl rfl rfl rfl)
  · refine WPl.imp (Imp.bitF 28 (b' := false) rfl hs28) ?_
    refine WPl.off rfl ⟨_, _, rfl, rfl, rfl⟩ ?_
    refine WPl.off rfl ⟨_, _, rfl, rfl, rfl⟩ ?_
    refine WPl.off rfl ⟨_, _, rfl, rfl, rfl⟩ ?_
    refine WPl.off rfl ⟨_, _, rfl, rfl, rfl⟩ ?_
    refine WPl.off rfl ⟨_, _, rfl, rfl, rfl⟩ ?_
    refine WPl.v rfl (o_pickF rfl rfl) ?_
    refine WPl.nil (EX.then ?_)
    refine WP.cond rfl (fun h => by cases h) (fun _ => ?_)
    refine WP.skip (EX.then (WP.seq (WP.region ?_)))
    refine WPl.v rfl (o_move rfl) ?_
    refine WPl.v rfl (o_leno L32 rfl rfl) ?_
    refine WPl.v rfl (o_sub rfl rfl (by first | omega | (simp; omega)) (by first | omega | (simp; omega))) ?_
    refine WPl.v rfl (o_assign rfl) ?_
    refine WPl.nil (EX.then (WP.seq (WP.block ?_)))
    refine WP.loop (Gh := Nat) (fun j => ⟨12, [(0, .e (.a (.v (yv l)))), (1, .e (.a (.q 0))), (2, .e (.a (.q 1))), (3, .e (.a (.q 2))), (5, .e (.a (.q 6))), (16, .e (.a (.q 7))), (17, .e (.g [ai (p.pounds), ai (p.tl), ai (p.th), ai (p.al), ai (p.ah), ai (p.dl), ai (p.dh)])), (18, .e (.a (.q 6))), (19, .e (.g [ai ((p.addL f.shop.pigs (nth (f.chBox left) (i : Int))).pounds), ai ((p.addL f.shop.pigs (nth (f.chBox left) (i : Int))).tl), ai ((p.addL f.shop.pigs (nth (f.chBox left) (i : Int))).th), ai ((p.addL f.shop.pigs (nth (f.chBox left) (i : Int))).al), ai ((p.addL f.shop.pigs (nth (f.chBox left) (i : Int))).ah), ai ((p.addL f.shop.pigs (nth (f.chBox left) (i : Int))).dl), ai ((p.addL f.shop.pigs (nth (f.chBox left) (i : Int))).dh)])), (6, .e (.a (.p 8 (0)))), (20, .e (.a (.q 9))), (21, .e (.g [ai ((p.addL f.shop.pigs (nth (f.chBox left) (i : Int))).pounds), ai ((p.addL f.shop.pigs (nth (f.chBox left) (i : Int))).tl), ai ((p.addL f.shop.pigs (nth (f.chBox left) (i : Int))).th), ai ((p.addL f.shop.pigs (nth (f.chBox left) (i : Int))).al), ai ((p.addL f.shop.pigs (nth (f.chBox left) (i : Int))).ah), ai ((p.addL f.shop.pigs (nth (f.chBox left) (i : Int))).dl), ai ((p.addL f.shop.pigs (nth (f.chBox left) (i : Int))).dh)])), (22, .b (f.fitsP (p.addL f.shop.pigs (nth (f.chBox left) (i : Int))))), (23, .b (f.fitsP (p.addL f.shop.pigs (nth (f.chBox left) (i : Int))))), (27, .b ((f.fitsP (p.addL f.shop.pigs (nth (f.chBox left) (i : Int)))) && (f.sureP (p.addL f.shop.pigs (nth (f.chBox left) (i : Int)))))), (28, .b (false)), (29, .e (.a (.v (undef)))), (30, .e (.a (.v (undef)))), (31, .e (.a (.v (undef)))), (32, .e (.a (.v (undef)))), (33, .e (.a (.v (undef)))), (34, .b (false)), (35, .e (.a (.q 6))), (36, .i (((nth (f.chBox left) (i : Int)).length : Int))), (37, .i (((nth (f.chBox left) (i : Int)).length : Int) - 1)), (7, .i ((f.shop.pigs.length : Int) - 1 - (j : Int)))], [(0, PP (EP.box (PP (EWk r) (f))) ()), (1, PP EPt (p)), (2, PP (EArr 4) (left)), (6, Pred.newer _), (7, PP (EWk r) (f)), (9, PP (EWk r) (f))], [(3, .ext ((Y (f.chIdx p left i)).xp F)), (6, .own 3 EP.int.size (zr (nth (f.chBox left) (i : Int)) j).length (RP EP.int (zr (nth (f.chBox left) (i : Int)) j))), (8, .blk [ai ((p.addL f.shop.pigs (nth (f.chBox left) (i : Int))).pounds), ai ((p.addL f.shop.pigs (nth (f.chBox left) (i : Int))).tl), ai ((p.addL f.shop.pigs (nth (f.chBox left) (i : Int))).th), ai ((p.addL f.shop.pigs (nth (f.chBox left) (i : Int))).al), ai ((p.addL f.shop.pigs (nth (f.chBox left) (i : Int))).ah), ai ((p.addL f.shop.pigs (nth (f.chBox left) (i : Int))).dl), ai ((p.addL f.shop.pigs (nth (f.chBox left) (i : Int))).dh)] 84)], [], []⟩) (fun j => j ≤ f.shop.pigs.length ∧ ∀ a : Nat, f.shop.pigs.length - j ≤ a → a < f.shop.pigs.length → nth (nth (f.chBox left) (i : Int)) a = nth left a) (fun j => f.shop.pigs.length - j) (0) id ?_ (LeR.of ⟨rfl, rfl, rfl, rfl, rfl, rfl, rfl, rfl, rfl, rfl, rfl, rfl, rfl, rfl, rfl, rfl, rfl, rfl, rfl, rfl, rfl, rfl, rfl, rfl, rfl, (congrArg (fun z => some (SV.i z)) (show (((nth (f.chBox left) (i : Int)).length : Int) - 1) = ((fun j => (f.shop.pigs.length : Int) - 1 - (j : Int)) 0) from by rw [hrl]; simp)), trivial⟩ ⟨(lx rfl), (lx rfl), (lx rfl), (lx rfl), (lx rfl), (lx rfl), trivial⟩ ⟨rfl, (congrArg (fun z => some (Ent.own 3 EP.int.size (List.length z) (RP EP.int z))) (show ((nth (f.chBox left) (i : Int))) = ((fun j => zr (nth (f.chBox left) (i : Int)) j) 0) from by simp [zr])), rfl, trivial⟩ rfl rfl rfl rfl rfl) ?_
    · exact ⟨by omega, fun a h1 h2 => by omega⟩
    intro j hφ
    obtain ⟨hj1, hj2⟩ := hφ
    have hzl : (zr (nth (f.chBox left) (i : Int)) j).length = f.shop.pigs.length := by rw [zr_len (by omega)]; exact hrl
    have hzn : j < f.shop.pigs.length → nth (zr (nth (f.chBox left) (i : Int)) j) ((f.shop.pigs.length : Int) - 1 - (j : Int)) = nth (nth (f.chBox left) (i : Int)) ((f.shop.pigs.length : Int) - 1 - (j : Int)) := fun h => by rw [← hrl]; exact zr_nth (by omega)
    refine WP.seq (WP.seq ?_)
    refine WP.imp (Imp.bit 12 13 (decide (0 ≤ ((f.shop.pigs.length : Int) - 1 - (j : Int)))) rfl rfl) ?_
    refine WP.draw (nf := 13) [⟨[], [], [], [], []⟩, ⟨[], [], [], [], [0]⟩, ⟨[], [], [], [], [0, 1]⟩, ⟨[42, 45, 46, 47], [], [], [], [0, 1, 2]⟩, ⟨[41, 45, 46, 47], [], [], [], [0, 1, 2]⟩, ⟨[45, 46, 47], [], [], [], [0, 1, 2, 3, 4]⟩, ⟨[45, 46, 47], [], [], [], [0, 1, 2, 3, 4, 5]⟩, ⟨[41, 42, 43, 44], [], [], [], [0, 1, 2]⟩, ⟨[41, 42, 43, 44], [], [], [], [0, 1, 2, 7]⟩, ⟨[41, 42, 43, 44], [], [], [], [0, 1, 2, 7, 8]⟩, ⟨[], [], [], [], [0, 1, 2, 3, 4, 5, 6, 7, 8, 9]⟩, ⟨[], [], [], [], [0, 1, 2, 3, 4, 5, 6, 7, 8, 9, 10]⟩] (by kernel_rfl) (by kernel_rfl) ?_
    refine DRQ.v rfl rfl rfl (o_move rfl) ?_
    refine DRQ.v rfl rfl rfl (o_geq rfl rfl) ?_
    refine DRQ.v rfl rfl rfl (o_move rfl) ?_
    refine DRQ.gv 12 rfl rfl (.plain rfl Iff.rfl rfl) rfl (fun hb => o_move rfl) ?_
    refine DRQ.gv 12 rfl rfl (.plain rfl Iff.rfl rfl) rfl (fun hb => o_move rfl) ?_
    refine DRQ.gv 12 rfl rfl (.plain rfl Iff.rfl rfl) rfl (fun hb => have hb2 := of_decide_eq_true hb; o_idxo L32 rfl rfl rfl (by first | omega | (simp; omega)) (by first | omega | (simp; omega))) ?_
    refine DRQ.gv 12 rfl rfl (.plain rfl Iff.rfl rfl) rfl (fun hb => have hb2 := of_decide_eq_true hb; o_ldoi S3 rfl rfl rfl rfl (by first | omega | (simp; omega)) (by first | omega | (simp; omega))) ?_
    refine DRQ.gv 12 rfl rfl (.plain rfl Iff.rfl rfl) rfl (fun hb => o_move rfl) ?_
    refine DRQ.gv 12 rfl rfl (.plain rfl Iff.rfl rfl) rfl (fun hb => have hb2 := of_decide_eq_true hb; o_idxq A86 rfl (lx rfl) rfl (by first | omega | (simp; omega)) (by first | omega | (simp; omega))) ?_
    refine DRQ.gv 12 rfl rfl (.plain rfl Iff.rfl rfl) rfl (fun hb => have hb2 := of_decide_eq_true hb; o_lde S3 rfl (lx rfl) (arr_get (by first | omega | (simp; omega)) (by first | omega | (simp; omega)))) ?_
    refine DRQ.gv 12 rfl rfl (.plain rfl Iff.rfl rfl) rfl (fun hb => o_eql rfl rfl) ?_
    refine DRQ.v rfl rfl rfl (o_and rfl rfl rfl id) ?_
    refine DRQ.nil' ?_
    refine EX.then ?_
    refine WP.cond rfl (fun hc2 => ?_) (fun hc2 => ?_)
    · try simp only [cnd] at hc2
      obtain ⟨hge, heq⟩ := hc2
      refine WP.skip (EX.then (WP.seq (WP.block (WP.region ?_))))
      refine WPl.v rfl (o_move rfl) ?_
      refine WPl.v rfl (o_move rfl) ?_
      refine WPl.v rfl (o_idxo L32 rfl rfl rfl (by first | omega | (simp; omega)) (by first | omega | (simp; omega))) ?_
      refine WPl.s1 (o_steE2 Try.sizeOf3 rfl rfl rfl rfl eok_int rfl rfl rfl (by first | omega | (simp; omega)) (by first | omega | (simp; omega))) ?_
      refine WPl.nil (EX.blk (EX.then (WP.region ?_)))
      refine WPl.v rfl (o_move rfl) ?_
      refine WPl.v rfl (o_sub rfl rfl (by first | omega | (simp; omega)) (by first | omega | (simp; omega))) ?_
      refine WPl.v rfl (o_assign rfl) ?_
      refine WPl.nil ?_
      refine EX.again (j + 1) id (by exact ⟨by omega, fun a h1 h2 => by by_cases h3 : f.shop.pigs.length - j ≤ a; exact hj2 a h3 h2; have h4 : (a : Int) = (f.shop.pigs.length : Int) - 1 - (j : Int) := (by omega); rw [h4, ← hzn (by omega)]; exact heq⟩) (by omega) (LeR.of ⟨rfl, rfl, rfl, rfl, rfl, rfl, rfl, rfl, rfl, rfl, rfl, rfl, rfl, rfl, rfl, rfl, rfl, rfl, rfl, rfl, rfl, rfl, rfl, rfl, rfl, (congrArg (fun z => some (SV.i z)) (show (((f.shop.pigs.length : Int) - 1 - (j : Int)) - 1) = ((fun j => (f.shop.pigs.length : Int) - 1 - (j : Int)) (j + 1)) from by show (f.shop.pigs.length : Int) - 1 - (j : Int) - 1 = (f.shop.pigs.length : Int) - 1 - ((j + 1 : Nat) : Int); omega)), trivial⟩ ⟨(lx rfl), (lx rfl), (lx rfl), (lx rfl), (lx rfl), (lx rfl), trivial⟩ ⟨rfl, (congrArg (fun z => some (Ent.own 3 EP.int.size (List.length z) (RP EP.int z))) (show (lset (zr (nth (f.chBox left) (i : Int)) j) ((f.shop.pigs.length : Int) - 1 - (j : Int)) 0) = ((fun j => zr (nth (f.chBox left) (i : Int)) j) (j + 1)) from by dsimp only; rw [← hrl]; exact zr_step (by omega))), rfl, trivial⟩ rfl rfl rfl rfl rfl)
    · try simp only [cnd] at hc2
      refine WP.exit (EX.exit_then (EX.exit_then (EX.exit_blk (EX.then (WP.seq (WP.seq (WP.region ?_)))))))
      refine WPl.v rfl (o_move rfl) ?_
      refine WPl.v rfl (o_lss rfl rfl) ?_
      refine WPl.nil (EX.then ?_)
      refine WP.cond rfl (fun hc3 => ?_) (fun hc3 => ?_)
      · try simp only [cnd] at hc3
        refine WP.ret (EX.ret_then (EX.ret_blk (EX.ret_then (EX.ret_blk ?_))))
        have hend : f.chIdx p left i = (f.chItems p left).length := by rw [← chIdx_end, ← (ch_next hl hp4 hiN hj2).1 (by omega), chIdx_succ hiN, show f.chOK p (nth (f.chBox left) (i : Int)) = false from hs28]; rfl
        exact EX.finI (.inl rfl) rfl rfl (ky := 3) (Y := Y (f.chIdx p left i)) rfl (fun _ _ h => .inl (by rw [hend] at h; exact h))
      · try simp only [cnd] at hc3
        refine WP.skip (EX.then (WP.region ?_))
        refine WPl.v rfl (o_move rfl) ?_
        refine WPl.v rfl (o_move rfl) ?_
        refine WPl.v rfl (o_idxo L32 rfl rfl rfl (by first | omega | (simp; omega)) (by first | omega | (simp; omega))) ?_
        refine WPl.v rfl (o_ldoi S3 rfl rfl rfl rfl (by first | omega | (simp; omega)) (by first | omega | (simp; omega))) ?_
        have hbb := hrb (f.shop.pigs.length - 1 - j) (by omega)
        rw [show ((f.shop.pigs.length - 1 - j : Nat) : Int) = (f.shop.pigs.length : Int) - 1 - (j : Int) by omega, ← hzn (by omega)] at hbb
        refine WPl.v rfl (o_add rfl rfl (by first | omega | (simp; omega)) (by first | omega | (simp; omega))) ?_
        refine WPl.v rfl (o_idxo L32 rfl rfl rfl (by first | omega | (simp; omega)) (by first | omega | (simp; omega))) ?_
        refine WPl.s1 (o_steE2 Try.sizeOf3 rfl rfl rfl rfl eok_int rfl rfl rfl (by first | omega | (simp; omega)) (by first | omega | (simp; omega))) ?_
        refine WPl.nil (EX.blk ?_)
        have hne := hc2.resolve_left (by omega)
        rw [hzn (by omega)] at hne
        have hnx := (ch_next hl hp4 hiN hj2).2 (by omega) hne
        refine EX.again ((i + 1, F)) id (by exact ⟨hnx.1, hF⟩) (by first | omega | (dsimp only; omega) | (simp only []; omega)) (LeR.of ⟨rfl, rfl, rfl, rfl, rfl, trivial⟩ ⟨(lx rfl), (lx rfl), (lx rfl), (lx rfl), trivial⟩ ⟨(congrArg (fun z => some (Ent.ext ((Y z).xp F))) (show f.chIdx p left i = f.chIdx p left (i + 1) from by rw [chIdx_succ hiN, show f.chOK p (nth (f.chBox left) (i : Int)) = false from hs28]; rfl)), (congrArg (fun z => some (Ent.own 3 EP.int.size (List.length z) (RP EP.int z))) (show (lset (zr (nth (f.chBox left) (i : Int)) j) ((f.shop.pigs.length : Int) - 1 - (j : Int)) ((nth (zr (nth (f.chBox left) (i : Int)) j) ((f.shop.pigs.length : Int) - 1 - (j : Int))) + 1)) = ((fun (⟨i, F⟩ : Nat × (Nat → Prop)) => (nth (f.chBox left) (i : Int))) (i + 1, F)) from hnx.2)), trivial⟩ rfl rfl rfl rfl rfl)
theorem w77 {f : Fnd} {r : Option Nat} {p : Pt} {left : List Int} : ∀ x ∈ ([.e (.a (.q 0)), .e (.g [ai (p.pounds), ai (p.tl), ai (p.th), ai (p.al), ai (p.ah), ai (p.dl), ai (p.dh)]), .e (.g [ai (nth left 0), ai (nth left 1), ai (nth left 2), ai (nth left 3)])] : List SV), x.res (keys (α := Pred) [(0, PP (EWk r) (f))]) := by simp [SV.res, El.res, At.res, keys]
theorem r77 {f : Fnd} {p : Pt} {left : List Int} : SV.res (keys (α := Pred) [(0, ItP Try.prog (f.chItems p left))]) (.e (.a (.q 0))) := by simp [SV.res, El.res, At.res, keys]
set_option maxHeartbeats 4000000 in
theorem c77 (f : Fnd) (r : Option Nat) (p : Pt) (left : List Int) (m : Int) (hf : f.chk = true) (hp : PtB p m) (hm : m ≤ 10000000) (hl : bnd4 left) : Sig Try.prog 77 [.e (.a (.q 0)), .e (.g [ai (p.pounds), ai (p.tl), ai (p.th), ai (p.al), ai (p.ah), ai (p.dl), ai (p.dh)]), .e (.g [ai (nth left 0), ai (nth left 1), ai (nth left 2), ai (nth left 3)])] [(0, PP (EWk r) (f))] (.e (.a (.q 0))) [(0, ItP Try.prog (f.chItems p left))] := by
  have hl4 := hl.1
  refine Sig.intro Try.func77 rfl 1 [(0, .e (.a (.q 0))), (1, .e (.g [ai (p.pounds), ai (p.tl), ai (p.th), ai (p.al), ai (p.ah), ai (p.dl), ai (p.dh)])), (2, .e (.g [ai (nth left 0), ai (nth left 1), ai (nth left 2), ai (nth left 3)]))] rfl w77 rfl rfl fun I w => ?_
  refine WP.seq (WP.region ?_)
  refine WPl.l 1 2 rfl rfl rfl (o_boxa rfl (.inl ⟨_, (lx rfl), PP.one⟩)) ?_
  refine WPl.l 2 3 rfl rfl rfl (o_boxg rfl) ?_
  refine WPl.l 3 4 rfl rfl rfl (o_boxg rfl) ?_
  refine WPl.v rfl (o_assign rfl) ?_
  refine WPl.nil (EX.then (WP.seq (WP.region ?_)))
  refine WPl.imp (Imp.frzb (E := EP.box (PP (EWk r) (f))) (y := ()) 1 4 5 rfl rfl (bok_box (lx rfl)) rfl rfl rfl) ?_
  refine WPl.imp (Imp.frzb (E := EPt) (y := p) 2 5 6 rfl rfl (bok_str ⟨rfl, rfl, rfl, rfl, rfl, rfl, rfl, trivial⟩) rfl rfl rfl) ?_
  refine WPl.imp (Imp.frzb (E := (EArr 4)) (y := left) 3 6 7 rfl rfl (fun _ _ _ _ _ _ => rfl) rfl rfl rfl) ?_
  refine WPl.x 7 8 rfl rfl rfl (o_mkit 7 (ren [(0, 4), (1, 5), (2, 6)]) (c80 f r p left m hf hp hm hl) e80 rfl SvsOK.rf w80 ⟨(lx rfl), (lx rfl), (lx rfl), trivial⟩) ?_
  refine WPl.v rfl (o_assign rfl) ?_
  refine WPl.nil (EX.then (WP.ret ?_))
  exact EX.fin (ren [(0, 7)]) (.inl rfl) rfl (.tmp rfl .nil) rfl r77 ⟨(lx rfl), trivial⟩ (by simp) (by simp)
theorem w78 {f : Fnd} {r : Option Nat} {left row : List Int} : ∀ x ∈ ([.e (.a (.q 0)), .e (.g [ai (nth left 0), ai (nth left 1), ai (nth left 2), ai (nth left 3)]), .e (.a (.q 1))] : List SV), x.res (keys (α := Pred) [(0, PP (EWk r) (f)), (1, PL EP.int (row))]) := by simp [SV.res, El.res, At.res, keys]
theorem r78 {f : Fnd} {left row : List Int} : SV.res (keys (α := Pred) []) (.t [.g [ai (nth (takeL left row) 0), ai (nth (takeL left row) 1), ai (nth (takeL left row) 2), ai (nth (takeL left row) 3)], .a (ai (sumOf Pig.pence f.shop.pigs row))]) := by simp [SV.res, El.res, At.res, keys]
set_option maxHeartbeats 4000000 in
theorem c78 (f : Fnd) (r : Option Nat) (left row : List Int) (hp : PigsOK f.shop.pigs) (hl : left.length = 4) (hb : bnd left 5) (hr : row.length = f.shop.pigs.length) (hrb : bnd row 5) : Sig Try.prog 78 [.e (.a (.q 0)), .e (.g [ai (nth left 0), ai (nth left 1), ai (nth left 2), ai (nth left 3)]), .e (.a (.q 1))] [(0, PP (EWk r) (f)), (1, PL EP.int (row))] (.t [.g [ai (nth (takeL left row) 0), ai (nth (takeL left row) 1), ai (nth (takeL left row) 2), ai (nth (takeL left row) 3)], .a (ai (sumOf Pig.pence f.shop.pigs row))]) [] := by
  have hp4 := hp.2
  have hsb := fun i hi => sumTo_bnd (f := Pig.pence) (pigs := f.shop.pigs) (bnd_mono hrb (show (5 : Int) ≤ 1000 by omega)) (fun j hj => by have := Pig.bnds (hp.at (show j < f.shop.pigs.length by omega)); omega) i hi
  refine Sig.intro Try.func78 rfl 2 [(0, .e (.a (.q 0))), (1, .e (.g [ai (nth left 0), ai (nth left 1), ai (nth left 2), ai (nth left 3)])), (2, .e (.a (.q 1)))] rfl w78 rfl rfl fun I w => ?_
  refine WP.seq (WP.region ?_)
  refine WPl.l 2 3 rfl rfl rfl (o_boxg rfl) ?_
  refine WPl.l 3 4 rfl rfl rfl (o_alloc Z86) ?_
  refine WPl.v rfl (o_assign rfl) ?_
  refine WPl.nil (EX.then (WP.seq (WP.region ?_)))
  refine WPl.v rfl (o_assign rfl) ?_
  refine WPl.nil (EX.then (WP.seq (WP.seq (WP.region ?_))))
  refine WPl.v rfl (o_move rfl) ?_
  refine WPl.v rfl (o_lenq L32 rfl (lx rfl)) ?_
  refine WPl.v rfl (o_move rfl) ?_
  refine WPl.nil (EX.then (WP.block ?_))
  refine WP.loop (Gh := Nat) (fun i => ⟨4, [(0, .e (.a (.q 0))), (4, .e (.a (.p 2 (0)))), (6, .e (.a (.p 3 (0)))), (7, .i (0)), (8, .i (sumTo Pig.pence f.shop.pigs row i)), (11, .e (.a (.q 1))), (12, .i ((row.length : Int))), (13, .i ((i : Int)))], [(0, PP (EWk r) (f)), (1, PL EP.int (row))], [(2, .blk [ai (nth (takeTo left row i) 0), ai (nth (takeTo left row i) 1), ai (nth (takeTo left row i) 2), ai (nth (takeTo left row i) 3)] 86), (3, .blk [ai (0), ai (0), ai (0), ai (0)] 86)], [], []⟩) (fun i => i ≤ row.length) (fun i => row.length - i) (0) id ?_ (LeR.of ⟨rfl, rfl, rfl, rfl, rfl, rfl, rfl, rfl, trivial⟩ ⟨(lx rfl), (lx rfl), trivial⟩ ⟨rfl, rfl, trivial⟩ rfl rfl rfl rfl rfl) ?_
  · first | trivial | omega | (constructor <;> omega) | simp
  intro i hφ
  have hi : i ≤ row.length := hφ
  refine WP.seq (WP.region ?_)
  refine WPl.v rfl (o_lss rfl rfl) ?_
  refine WPl.nil (EX.then (WP.seq ?_))
  refine WP.cond rfl (fun hc1 => ?_) (fun hc1 => ?_)
  · try simp only [cnd] at hc1
    refine WP.skip (EX.then (WP.seq (WP.block (WP.seq (WP.region ?_)))))
    refine WPl.v rfl (o_move rfl) ?_
    refine WPl.x 4 5 rfl rfl rfl (o_idx L32 rfl (lx rfl) rfl (by first | omega | (simp; omega)) (by first | omega | (simp; omega))) ?_
    refine WPl.v rfl (o_ldq S3 rfl (lx rfl) intc) ?_
    refine WPl.v rfl (o_assign rfl) ?_
    refine WPl.v rfl (o_assign rfl) ?_
    refine WPl.nil (EX.then (WP.seq (WP.region ?_)))
    refine WPl.v rfl (o_move rfl) ?_
    refine WPl.v rfl (o_idxp A86 rfl rfl (by first | omega | (simp; omega)) (by first | omega | (simp; omega))) ?_
    refine WPl.v rfl (o_ldpn (n := 4) (l := takeTo left row i) S3 rfl rfl rfl (by first | omega | (simp; omega)) (by first | omega | (simp; omega))) ?_
    refine WPl.v rfl (o_move rfl) ?_
    have h1 := takeTo_other left row hl i i (Nat.le_refl _) (by omega)
    have h2 := hb i (by omega)
    have h3 := hrb i (by omega)
    refine WPl.v rfl (o_sub rfl rfl (by first | omega | (simp; omega)) (by first | omega | (simp; omega))) ?_
    refine WPl.v rfl (o_idxp A86 rfl rfl (by first | omega | (simp; omega)) (by first | omega | (simp; omega))) ?_
    refine WPl.s1 (o_stpn (n := 4) (l := takeTo left row i) (cs' := [ai (nth (lset (takeTo left row i) (i : Int) ((nth (takeTo left row i) (i : Int)) - (nth row (i : Int)))) 0), ai (nth (lset (takeTo left row i) (i : Int) ((nth (takeTo left row i) (i : Int)) - (nth row (i : Int)))) 1), ai (nth (lset (takeTo left row i) (i : Int) ((nth (takeTo left row i) (i : Int)) - (nth row (i : Int)))) 2), ai (nth (lset (takeTo left row i) (i : Int) ((nth (takeTo left row i) (i : Int)) - (nth row (i : Int)))) 3)]) S3 rfl rfl rfl rfl rfl (by rw [takeTo_len]; exact hl) (by first | omega | (simp; omega)) (by first | omega | (simp; omega))) ?_
    refine WPl.nil (EX.then (WP.region ?_))
    refine WPl.v rfl (o_move rfl) ?_
    refine WPl.v rfl (o_move rfl) ?_
    refine WPl.v rfl (o_move rfl) ?_
    refine WPl.v rfl (o_nilq rfl (lx rfl)) ?_
    refine WPl.v rfl (o_fldq F103_0 rfl (lx rfl)) ?_
    refine WPl.v rfl (o_flde F31_0 rfl (lx rfl)) ?_
    refine WPl.v rfl (o_flde F28_4 rfl (lx rfl)) ?_
    refine WPl.x 5 6 rfl rfl rfl (o_ldex S26 rfl (lx rfl) (strS rfl)) ?_
    refine WPl.v rfl (o_move rfl) ?_
    refine WPl.x 6 7 rfl rfl rfl (o_idx L26 rfl (lx rfl) rfl (by first | omega | (simp; omega)) (by first | omega | (simp; omega))) ?_
    refine WPl.v rfl (o_fldq F53_3 rfl (lx rfl)) ?_
    refine WPl.v rfl (o_lde S3 rfl (lx rfl) (strI rfl)) ?_
    have h4 := Pig.bnds (hp.at (show i < f.shop.pigs.length by omega))
    have h5 := hsb i (by omega)
    have h6 := mulb (A := 5) (B := 99) h3.1 h3.2 h4.2.2.2.2.2.2.1 h4.2.2.2.2.2.2.2.1
    refine WPl.v rfl (o_mul rfl rfl (by first | omega | (simp; omega)) (by first | omega | (simp; omega))) ?_
    refine WPl.v rfl (o_add rfl rfl (by first | omega | (simp; omega)) (by first | omega | (simp; omega))) ?_
    refine WPl.v rfl (o_assign rfl) ?_
    refine WPl.nil (EX.blk (EX.then (WP.region ?_)))
    refine WPl.v rfl (o_add rfl rfl (by first | omega | (simp; omega)) (by first | omega | (simp; omega))) ?_
    refine WPl.v rfl (o_move rfl) ?_
    refine WPl.nil ?_
    refine EX.again (i + 1) id (by first | omega | (constructor <;> omega)) (by omega) (LeR.of ⟨rfl, rfl, rfl, rfl, rfl, rfl, rfl, rfl, trivial⟩ ⟨(lx rfl), (lx rfl), trivial⟩ ⟨rfl, rfl, trivial⟩ rfl rfl rfl rfl rfl)
  · try simp only [cnd] at hc1
    refine WP.exit (EX.exit_then (EX.exit_then (EX.exit_blk (EX.then (WP.seq (WP.region ?_))))))
    refine WPl.v rfl (o_ldpa G86 rfl rfl rfl) ?_
    refine WPl.v rfl (o_move rfl) ?_
    refine WPl.s1 (o_stag G86 rfl rfl rfl ⟨rfl, rfl, rfl, rfl, trivial⟩ rfl rfl) ?_
    refine WPl.v rfl (o_assign rfl) ?_
    refine WPl.nil (EX.then (WP.ret ?_))
    have he : i = row.length := by omega
    subst he
    exact EX.fin id (.inl rfl) rfl (.cellg G86 rfl rfl rfl (.tmp rfl .nil)) rfl (by simp [SV.res, El.res, At.res, keys]) trivial (by simp) (by simp)
end Go.Flong
namespace Go.Eng
open Go
section
variable {cx : Cx} {Q : Exit → Act → World → Prop} {ops : Array Oper} {n : Nat} {fr : List (Nat × SV)} {X : List (Nat × Pred)} {L : List (Nat × Ent)} {D : List Nat} {G : List (Nat × Bool)} {rest : List Oper} {dst : Option Tmp} {op : Op} {ty : TypeId} {pos : String} {af : Array Edge} {gd : Option (Nat × Bool)}
theorem WPl.ung (hg : GOK ops fr gd true) (K : WPl cx ops ⟨n, fr, X, L, D, G⟩ (⟨dst, op, ty, pos, af, none⟩ :: rest) Q) : WPl cx ops ⟨n, fr, X, L, D, G⟩ (⟨dst, op, ty, pos, af, gd⟩ :: rest) Q := by
  intro ε I a w hs
  have h := K ε I a w hs
  have h1 : Region.wanted (⟨dst, op, ty, pos, af, none⟩ : Oper) (yielded ops a.tmps) = true := rfl
  have h2 : Region.wanted (⟨dst, op, ty, pos, af, gd⟩ : Oper) (yielded ops a.tmps) = true := GOK.wanted (o := ⟨dst, op, ty, pos, af, gd⟩) hs hg
  simp only [wpListIn] at h ⊢
  rw [if_pos h1] at h
  rw [if_pos h2]
  exact h
end
end Go.Eng
namespace Go.Eng
open Go
def Pred.typ (T : TypeId) : Pred := ⟨fun I v => ∀ b, v.ownBlock = some b → ∃ c q, I b = some (.cells c T q), fun hI h b hb => by
  obtain ⟨c, q, e⟩ := h b hb
  exact ⟨c, q, hI b _ e⟩⟩
def PT {α : Type} (E : EP α) (l : List α) (T : TypeId) : Pred := (PL E l).and (Pred.typ T)
def PTN {α : Type} (E : EP α) (T : TypeId) : Pred := (PT E ([] : List α) T).and (Pred.is (.slice none 0 0))
section
variable {α : Type} {E : EP α} {T : TypeId} {X : List (Nat × Pred)} {j : Nat} {l : List α}
theorem lxt (h : look j X = some (PT E l T)) : Has X j (PL E l) := ⟨_, h, fun _ _ h => h.1⟩
theorem ptn_ok : ∀ I, (PTN E T).h I (.slice none 0 0) := fun I => ⟨⟨pl_nil, fun b hb => by cases hb⟩, rfl⟩
theorem ptnf_ok {n : Nat} : ∀ I, ((Pred.from n (PT E [] T)).and (Pred.is (.slice none 0 0))).h I (.slice none 0 0) := fun I => ⟨⟨pl_nil, fun b hb => by cases hb⟩, rfl⟩
end
section
variable {cx : Cx} {n : Nat} {fr : List (Nat × SV)} {X : List (Nat × Pred)} {L : List (Nat × Ent)} {D : List Nat} {G : List (Nat × Bool)}
theorem owns_typ {w : World} {b0 : Nat} {T : TypeId} {s : Nat} {v : Value} {n : Nat} {xs : List Value} (h : w.ownsRow b0 T s v n xs) {b : Nat} (hb : v.ownBlock = some b) : ∃ c q, w.heap[b]? = some (.cells c T q) := by
  rcases h.2 with ⟨rfl, _⟩ | ⟨g, cap, cur, rfl, _, hg, _⟩
  · cases hb
  · cases hb; exact ⟨_, _, hg⟩
theorem Imp.frzft {α : Type} {E : EP α} (k : Nat) {T : TypeId} {l : List α} (hm : ∀ I I' cs x, E.h I cs x → E.h I' cs x) (hE : cx.E = Emp) (hk : look k L = some (.own T E.size l.length (RP E l))) :
    Imp cx ⟨n, fr, X, L, D, G⟩ ⟨n, fr, (k, Pred.from cx.w0.heap.size (PT E l T)) :: X, (k, .dead) :: L, D, G⟩ :=
  Imp.app n (Gh.frz (Pred.from cx.w0.heap.size (PT E l T)) hE hk fun _ _ _ _ _ h1 h2 hI hb => ⟨own_pl h1 h2 (fun _ _ h => hm _ _ _ _ h) fun b h => by
    unfold IH.from; rw [if_pos (hb b h).1]; exact (hb b h).2, fun b h => by
    obtain ⟨c, q, e⟩ := owns_typ h1 h
    refine ⟨c, q, ?_⟩
    unfold IH.from; rw [if_pos (hb b h).1, (hb b h).2]; exact e⟩) (fun _ h => by cases h) (Nat.le_refl _)
end
def PTs (T : TypeId) : List (Nat × Pred) → Prop
  | [] => True
  | (_, R) :: t => (∃ l : List Int, R = PT EP.int l T) ∧ PTs T t
theorem PTs.get {T : TypeId} : ∀ {X : List (Nat × Pred)}, PTs T X → ∀ j R, look j X = some R → ∃ l : List Int, R = PT EP.int l T
  | (i, R') :: t, h, j, R, hj => by
    rw [look_cons] at hj
    by_cases e : i = j
    · rw [if_pos e] at hj; cases hj; exact h.1
    · rw [if_neg e] at hj; exact PTs.get h.2 j R hj
theorem Sig.typ {P : Program} {f : FuncId} {svs : List SV} {i0 : Nat} {α : Type} {E : EP α} {l : List α} {sv : SV} {X : List (Nat × Pred)} {T T0 : TypeId} (hs : Sig P f svs [(i0, PL E l)] sv X) {w : World} {ν : Nat → Value} {I : IH} {xs : List Value}
    (h1 : w.ownsRow 0 T E.size (ν i0) l.length xs) (h2 : (RP E l).h I xs) (hT : T ≠ T0) (hfree : ∀ I I' cs x, E.h I cs x → E.h I' cs x) (hX : PTs T0 X) :
    Ct P f (svs.map (den0 ν)).toArray (World.all w) w Emp sv (X.map fun p => (p.1, Pred.from w.heap.size p.2)) := by
  let I2 : IH := fun b => if (ν i0).ownBlock = some b then w.heap[b]? else none
  have hon : I2.on w := fun b o hb => by
    by_cases e : (ν i0).ownBlock = some b
    · simp only [I2, if_pos e] at hb; exact hb
    · simp only [I2, if_neg e] at hb; cases hb
  have hf : (PL E l).h I2 (ν i0) := own_pl h1 h2 (fun _ _ h => hfree _ _ _ _ h) fun b hb => if_pos hb
  have := hs I2 w ν hon ⟨hf, trivial⟩
  refine CallsIn.mono this ?_
  rintro e w' ⟨I', us, rfl, hk, hle, hon', hfr, hXs⟩
  refine ⟨fun b => if b < w.heap.size then w.heap[b]? else I' b, us, rfl, hk, fun b o hb => ?_, fun b o hb => ?_, fun b o hb => ?_, fun j R hj => ?_⟩
  · have hlt : b < w.heap.size := by
      have hb2 : w.heap[b]? = some o := hb
      exact (Array.getElem?_eq_some_iff.1 hb2).1
    show (if b < w.heap.size then w.heap[b]? else I' b) = some o
    rw [if_pos hlt]; exact hb
  · have hb2 : (if b < w.heap.size then w.heap[b]? else I' b) = some o := hb
    by_cases hlt : b < w.heap.size
    · rw [if_pos hlt] at hb2
      rw [hk.block b hlt (fun h => h)]; exact hb2
    · rw [if_neg hlt] at hb2; exact hon' b o hb2
  · by_cases hlt : b < w.heap.size
    · left
      have hb2 : (if b < w.heap.size then w.heap[b]? else I' b) = some o := hb
      rw [if_pos hlt] at hb2; exact hb2
    · right; omega
  · obtain ⟨R0, hj0, rfl⟩ : ∃ R0, look j X = some R0 ∧ R = Pred.from w.heap.size R0 := by
      have : ∀ {X : List (Nat × Pred)}, look j (X.map fun p => (p.1, Pred.from w.heap.size p.2)) = some R → ∃ R0, look j X = some R0 ∧ R = Pred.from w.heap.size R0 := by
        intro X
        induction X with
        | nil => intro h; cases h
        | cons p t ih =>
          obtain ⟨i, R'⟩ := p
          intro h
          rw [List.map_cons, look_cons] at h
          rw [look_cons]
          by_cases e : i = j
          · rw [if_pos e] at h ⊢; cases h; exact ⟨_, rfl, rfl⟩
          · rw [if_neg e] at h ⊢; exact ih h
      exact this hj
    obtain ⟨l', rfl⟩ := hX.get j R0 hj0
    obtain ⟨hp, ht⟩ := hXs j _ hj0
    have hnew : ∀ b, (us j).ownBlock = some b → w.heap.size ≤ b := fun b hb => by
      obtain ⟨c, q, he⟩ := ht b hb
      rcases hfr b _ he with h | h
      · exfalso
        by_cases e : (ν i0).ownBlock = some b
        · simp only [I2, if_pos e] at h
          obtain ⟨c', q', he'⟩ := owns_typ h1 e
          rw [he'] at h
          cases h; exact hT rfl
        · simp only [I2, if_neg e] at h; cases h
      · exact h
    have hsame : ∀ b, (us j).ownBlock = some b → IH.from w.heap.size (fun b => if b < w.heap.size then w.heap[b]? else I' b) b = I' b := fun b hb => by
      have := hnew b hb
      unfold IH.from
      rw [if_pos this]
      show (if b < w.heap.size then w.heap[b]? else I' b) = I' b
      rw [if_neg (by omega)]
    refine ⟨?_, fun b hb => ?_⟩
    · obtain ⟨a, cap, hv, hc, hcell⟩ := hp
      refine ⟨a, cap, hv, hc, fun i hi => ?_⟩
      obtain ⟨cs, ad, g1, g2, g3, g4⟩ := hcell i hi
      refine ⟨cs, ad, g1, g2, g3, fun k y hy => ?_⟩
      have g5 := g4 k y hy
      have hb : (us j).ownBlock = some ad.block := by rw [hv, g2]; rfl
      obtain ⟨bk, off, spot⟩ := ad
      simp only at g3
      subst g3
      rw [Addr.add_plain] at g5 ⊢
      unfold IH.cell at g5 ⊢
      have h6 := hsame bk hb
      simp only at g5 ⊢
      rw [h6]; exact g5
    · obtain ⟨c, q, he⟩ := ht b hb
      exact ⟨c, q, by rw [hsame b hb]; exact he⟩
section ops
variable {cx : Cx} {S : St} {dst : Option Tmp} {ty : TypeId} {pos : String} {af : Array Edge} {gd : Option (Nat × Bool)}
theorem o_sigl {P : Program} {f : FuncId} {l : List Operand} {ts : Array TypeId} {svs svs' : List SV} {i0 : Nat} {α : Type} {E : EP α} {z : List α} {sv : SV} {X : List (Nat × Pred)} {T T0 : TypeId} (m : Nat) (ρ : Nat → Nat) (hs : Sig P f svs [(i0, PL E z)] sv X) (hf : Enters' P f) (hP : cx.P = P) (hl : S.ops l = some svs') (hren : SvsOK S svs' (svs.map (SV.ren ρ)))
    (hwf : ∀ x ∈ svs, x.res (keys [(i0, PL E z)])) (hk : look (ρ i0) S.L = some (.own T E.size z.length (RP E z))) (hT : T ≠ T0) (hfree : ∀ I I' cs x, E.h I cs x → E.h I' cs x) (hX : PTs T0 X) (hres : sv.res (keys X)) :
    OpG cx S ⟨dst, .call { callee := .value (.func f), args := l.toArray, argTypes := ts }, ty, pos, af, gd⟩ ⟨sv.ren (m + ·), keys (sh m X), sh m X, [], []⟩ := by
  subst hP
  refine o_callb hf hl (by rw [keys_sh]; exact SV.ren_res hres) fun M ε I a w h => ?_
  obtain ⟨xs, h1, h2⟩ := h.L _ _ hk
  have := Sig.typ (ν := fun j => ε.ν (ρ j)) hs h1 h2 hT hfree hX
  rw [hren.den h, svs_ren hwf, ← sh_map]
  exact CallsIn.mono this fun e w' h => CtR.shift (by
    have : keys (X.map fun p => (p.1, Pred.from w.heap.size p.2)) = keys X := by simp [keys]
    rw [this]; exact hres) h
end ops
end Go.Eng
namespace Go.Flong
open Go Go.Eng Go.Proofs
theorem Z3 : Zero Try.prog 3 [ai (0)] := .mk Try.zeroValue3 rfl rfl
theorem Z45 : Zero Try.prog 45 [.v (.slice none 0 0)] := .mk Try.zeroValue45 rfl rfl
theorem e77 : Enters' Try.prog 77 := Try.call77
theorem e78 : Enters' Try.prog 78 := Try.call78
theorem S92 : TyS Try.prog 92 := ⟨Try.isAgg92, Try.sizeOf92⟩
theorem e66 : Enters' Try.prog 66 := Try.call66
abbrev OfP (g : Int → List Int → Int) : Pred := Pred.all fun (x : Int × BL) => FvP Try.prog [.i (x.1), .e (.a (.q 0))] [(0, PL EP.int (x.2.1))] (.i (g x.1 x.2.1)) []
theorem e69 : Enters' Try.prog 69 := Try.call69
theorem R45 : RowT Try.prog 45 32 1 24 [.slice none 0 0] := ⟨Try.underlying45, ⟨Try.t32, _, by kernel_rfl, rfl, rfl, rfl, rfl⟩, rfl, by decide⟩
theorem e41 : Enters' Try.prog 41 := Try.call41
theorem e40 : Enters' Try.prog 40 := Try.call40
theorem w69 {l : List Int} : ∀ x ∈ ([.e (.a (.q 0))] : List SV), x.res (keys (α := Pred) [(0, PL EP.int (l))]) := by simp [SV.res, El.res, At.res, keys]
theorem r69 {l : List Int} : SV.res (keys (α := Pred) [(0, PT EP.int (l) 3)]) (.e (.a (.q 0))) := by simp [SV.res, El.res, At.res, keys]
set_option maxHeartbeats 4000000 in
theorem c69 (l : List Int) (h : l.length ≤ 1000) : SigF Try.prog 69 [.e (.a (.q 0))] [(0, PL EP.int (l))] (.e (.a (.q 0))) [(0, PT EP.int (l) 3)] := by
  refine SigF.intro Try.func69 rfl 1 [(0, .e (.a (.q 0)))] rfl w69 rfl rfl fun I w => ?_
  refine WP.seq (WP.region ?_)
  refine WPl.v rfl (o_assign rfl) ?_
  refine WPl.nil (EX.then (WP.seq (WP.seq (WP.region ?_))))
  refine WPl.v rfl (o_move rfl) ?_
  refine WPl.eqnil Try.underlying32 rfl rfl (lx rfl) fun bn4 hbn4 => ?_
  refine WPl.nil (EX.then ?_)
  refine WP.cond rfl (fun hc1 => ?_) (fun hc1 => ?_)
  · try simp only [cnd] at hc1
    obtain rfl : l = [] := hbn4 hc1
    refine WP.seq (WP.region ?_)
    refine WPl.v rfl (o_assign rfl) ?_
    refine WPl.nil (EX.then (WP.ret (EX.ret_then ?_)))
    refine EX.imp (Imp.nam 1 2 (.slice none 0 0) (R := (Pred.from w.heap.size (PT EP.int [] 3)).and (Pred.is (.slice none 0 0))) ptnf_ok rfl rfl) ?_
    refine EX.imp (Imp.swF 2 1 rfl (lxr rfl)) ?_
    exact EX.fin (ren [(0, 1)]) (.inl rfl) rfl (.tmp rfl .nil) rfl (by simp [SV.res, El.res, At.res, keys]) ⟨lxl rfl, trivial⟩ (by simp) (by simp)
  · try simp only [cnd] at hc1
    refine WP.skip (EX.then (WP.seq (WP.region ?_)))
    refine WPl.l 1 2 rfl rfl rfl (o_bsl (E := EP.int) (l := []) R32 rfl rfl (.nil) rfl rfl) ?_
    refine WPl.v rfl (o_move rfl) ?_
    refine WPl.u1 (k := 2) (m := 3) rfl rfl rfl (o_apps R32 EP.int_one rfl rfl rfl (lx rfl) (by first | omega | (simp; omega) | (simp at *; omega)) (by first | omega | (simp; omega) | (simp at *; omega))) ?_
    refine WPl.v rfl (o_assign rfl) ?_
    refine WPl.nil (EX.then (WP.ret ?_))
    refine EX.imp (Imp.frzft (E := EP.int) (l := [] ++ l) 2 EP.fix_free rfl rfl) ?_
    exact EX.fin (ren [(0, 2)]) (.inl rfl) rfl (.tmp rfl .nil) rfl (by simp [SV.res, El.res, At.res, keys]) ⟨(lx rfl), trivial⟩ (by simp) (by simp)
theorem w41 {a : Int} {l : List Int} : ∀ x ∈ ([.i (a), .e (.a (.q 0))] : List SV), x.res (keys (α := Pred) [(0, PL EP.int (l))]) := by simp [SV.res, El.res, At.res, keys]
theorem r41 {a : Int} {l : List Int} : SV.res (keys (α := Pred) []) (.i (costG a l)) := by simp [SV.res, El.res, At.res, keys]
set_option maxHeartbeats 4000000 in
theorem c41 (a : Int) (l : List Int)  : Sig Try.prog 41 [.i (a), .e (.a (.q 0))] [(0, PL EP.int (l))] (.i (costG a l)) [] := by
  refine Sig.intro Try.func41 rfl 1 [(0, .i (a)), (1, .e (.a (.q 0)))] rfl w41 rfl rfl fun I w => ?_
  refine WP.seq (WP.region ?_)
  refine WPl.v rfl (o_assign rfl) ?_
  refine WPl.nil (EX.then (WP.seq (WP.region ?_)))
  refine WPl.v rfl (o_move rfl) ?_
  refine WPl.v rfl (o_assign rfl) ?_
  refine WPl.nil (EX.then (WP.ret ?_))
  exact EX.fin id (.inl rfl) rfl (.tmp rfl .nil) rfl r41 trivial (by simp) (by simp)
theorem w66 {f : Fnd} {r : Option Nat} {g : Int → List Int → Int} {night : Int} {p : Pt} {left : List Int} : ∀ x ∈ ([.e (.a (.q 0)), .i (night), .e (.g [ai (p.pounds), ai (p.tl), ai (p.th), ai (p.al), ai (p.ah), ai (p.dl), ai (p.dh)]), .e (.g [ai (nth left 0), ai (nth left 1), ai (nth left 2), ai (nth left 3)]), .e (.a (.q 1))] : List SV), x.res (keys (α := Pred) [(0, PP (EWk r) (f)), (1, OfP g)]) := by simp [SV.res, El.res, At.res, keys]
theorem r66 {f : Fnd} {g : Int → List Int → Int} {n : Nat} {night : Int} {p : Pt} {left : List Int} : SV.res (keys (α := Pred) [(0, PL (EP.sl EP.int) ((f.bestW g n night p left).2.1))]) (.t [.a (ai ((f.bestW g n night p left).1)), .a (.q 0), .a (.v (.bool ((f.bestW g n night p left).2.2)))]) := by simp [SV.res, El.res, At.res, keys]
set_option maxHeartbeats 4000000 in
theorem c66 (f : Fnd) (r : Option Nat) (g : Int → List Int → Int) (n : Nat) (night : Int) (p : Pt) (left : List Int) (hf : f.chk = true) (hg : OfB g) (hnt : night + n = f.nights.length) (hn0 : 0 ≤ night) (hp : PtB p (1000 + 400018 * night)) (hl : bnd4 left) : Sig Try.prog 66 [.e (.a (.q 0)), .i (night), .e (.g [ai (p.pounds), ai (p.tl), ai (p.th), ai (p.al), ai (p.ah), ai (p.dl), ai (p.dh)]), .e (.g [ai (nth left 0), ai (nth left 1), ai (nth left 2), ai (nth left 3)]), .e (.a (.q 1))] [(0, PP (EWk r) (f)), (1, OfP g)] (.t [.a (ai ((f.bestW g n night p left).1)), .a (.q 0), .a (.v (.bool ((f.bestW g n night p left).2.2)))]) [(0, PL (EP.sl EP.int) ((f.bestW g n night p left).2.1))] := by
  have hpg := Shop.pigsOK (Fnd.shopOK hf)
  have hp4 := hpg.2
  have hn := Fnd.nightsOK hf
  have hn4 := hn.2
  refine Sig.intro Try.func66 rfl 2 [(0, .e (.a (.q 0))), (1, .i (night)), (2, .e (.g [ai (p.pounds), ai (p.tl), ai (p.th), ai (p.al), ai (p.ah), ai (p.dl), ai (p.dh)])), (3, .e (.g [ai (nth left 0), ai (nth left 1), ai (nth left 2), ai (nth left 3)])), (4, .e (.a (.q 1)))] rfl w66 rfl rfl fun I w => ?_
  refine WP.seq (WP.region ?_)
  refine WPl.l 2 3 rfl rfl rfl (o_boxa rfl (.inl ⟨_, (lx rfl), PP.one⟩)) ?_
  refine WPl.l 3 4 rfl rfl rfl (o_boxa rfl rfl) ?_
  refine WPl.l 4 5 rfl rfl rfl (o_boxg rfl) ?_
  refine WPl.l 5 6 rfl rfl rfl (o_boxg rfl) ?_
  refine WPl.l 6 7 rfl rfl rfl (o_boxa rfl (.inl ⟨_, (lx rfl), FvP.onea⟩)) ?_
  refine WPl.l 7 8 rfl rfl rfl (o_alloc Z3) ?_
  refine WPl.l 8 9 rfl rfl rfl (o_alloc Z45) ?_
  refine WPl.l 9 10 rfl rfl rfl (o_alloc Z4) ?_
  refine WPl.nil (EX.then (WP.seq (WP.seq ?_)))
  refine WP.draw (nf := 11) [⟨[21, 22, 23, 24, 25, 26], [10], [], [], []⟩, ⟨[20], [], [], [], []⟩, ⟨[20], [], [], [], [1]⟩, ⟨[20], [], [], [], [1, 2]⟩, ⟨[20], [], [], [], [1, 2, 3]⟩, ⟨[20], [], [10], [10], [1, 2, 3, 4]⟩, ⟨[20], [], [], [], [1, 2, 3, 4, 5]⟩, ⟨[], [], [], [], [0, 1, 2, 3, 4, 5, 6]⟩] (by kernel_rfl) (by kernel_rfl) ?_
  refine DRQ.v rfl rfl rfl (o_ldp S3 rfl rfl rfl) ?_
  refine DRQ.v rfl rfl rfl (o_ldp S78 rfl rfl rfl) ?_
  refine DRQ.v rfl rfl rfl (o_nilq rfl (lx rfl)) ?_
  refine DRQ.v rfl rfl rfl (o_fldq F103_0 rfl (lx rfl)) ?_
  refine DRQ.v rfl rfl rfl (o_flde F31_1 rfl (lx rfl)) ?_
  refine DRQ.x 10 rfl rfl rfl rfl (o_ldex S29 rfl (lx rfl) (strS rfl)) ?_
  refine DRQ.v rfl rfl rfl (o_lenq L29 rfl (lx rfl)) ?_
  refine DRQ.v rfl rfl rfl (o_eql rfl rfl) ?_
  refine DRQ.nil' ?_
  refine EX.then ?_
  refine WP.cond rfl (fun hc1 => ?_) (fun hc1 => ?_)
  · try simp only [cnd] at hc1
    obtain rfl : n = 0 := by omega
    refine WP.seq (WP.region ?_)
    refine WPl.s1 (o_sta S3 rfl rfl rfl rfl rfl) ?_
    refine WPl.s1 (o_sta S45 rfl rfl rfl rfl rfl) ?_
    refine WPl.s1 (o_sta S4 rfl rfl rfl rfl rfl) ?_
    refine WPl.nil (EX.then (WP.ret (EX.ret_then ?_)))
    refine EX.imp (Imp.nam 11 12 (.slice none 0 0) (R := PN (EP.sl EP.int)) pn_ok rfl rfl) ?_
    refine EX.imp (Imp.swL 8 0 11 rfl rfl (lxr rfl)) ?_
    exact EX.fin (ren [(0, 11)]) (.inl rfl) rfl (.cell1 S3 rfl rfl (.cell1 S45 rfl rfl (.cell1 S4 rfl rfl (.nil)))) rfl r66 ⟨lxl rfl, trivial⟩ (by simp) (by simp)
  · try simp only [cnd] at hc1
    obtain ⟨k, rfl⟩ : ∃ k, n = k + 1 := ⟨n - 1, by omega⟩
    have hnc := hn.at (show night.toNat < f.nights.length by omega)
    rw [show ((night.toNat : Nat) : Int) = night by omega] at hnc
    refine WP.skip (EX.then (WP.seq (WP.seq (WP.region ?_))))
    refine WPl.v rfl (o_ldp S78 rfl rfl rfl) ?_
    refine WPl.v rfl (o_ldpa G84 rfl rfl rfl) ?_
    refine WPl.v rfl (o_ldpa G86 rfl rfl rfl) ?_
    refine WPl.cs 12 rfl rfl rfl rfl (o_sig 11 (ren [(0, 0)]) (c77 f r p left (1000 + 400018 * night) hf hp (by omega) hl) e77 rfl rfl rfl w77 ⟨(lx rfl), trivial⟩ r77) ?_
    refine WPl.nil (EX.then (WP.block ?_))
    refine WP.leR (S' := ⟨12, [(5, .e (.a (.p 2 (0)))), (6, .e (.a (.p 3 (0)))), (8, .e (.a (.p 5 (0)))), (9, .e (.a (.p 6 (0)))), (10, .e (.a (.p 7 (0)))), (11, .e (.a (.p 8 (0)))), (12, .e (.a (.p 9 (0)))), (31, .e (.a (.q 11)))], [(0, PP (EWk r) (f)), (1, OfP g), (11, ItP Try.prog (f.chItems p left))], [(2, .blk [.q 0] 78), (3, .blk [ai (night)] 3), (5, .blk [ai (nth left 0), ai (nth left 1), ai (nth left 2), ai (nth left 3)] 86), (6, .blk [.q 1] 92), (7, .blk [ai (0)] 3), (8, .blk [.v (.slice none 0 0)] 45), (9, .blk [.v (.bool (false))] 4)], [], []⟩) id (LeR.of ⟨rfl, rfl, rfl, rfl, rfl, rfl, rfl, rfl, trivial⟩ ⟨(lx rfl), (lx rfl), (lx rfl), trivial⟩ ⟨rfl, rfl, rfl, rfl, rfl, rfl, rfl, trivial⟩ rfl rfl rfl rfl rfl) ?_
    refine WP.imp (Imp.nam 12 13 (.slice none 0 0) (R := PN (EP.sl EP.int)) pn_ok rfl rfl) ?_
    refine WP.imp (Imp.swL 8 0 12 rfl rfl (lxr rfl)) ?_
    refine WP.rangeG 16 1 ((f.chL p left).length) (fun i => ⟨[.e (.a (.q 0)), .e (.g [ai ((p.addL f.shop.pigs (nth (f.chL p left) (i : Int))).pounds), ai ((p.addL f.shop.pigs (nth (f.chL p left) (i : Int))).tl), ai ((p.addL f.shop.pigs (nth (f.chL p left) (i : Int))).th), ai ((p.addL f.shop.pigs (nth (f.chL p left) (i : Int))).al), ai ((p.addL f.shop.pigs (nth (f.chL p left) (i : Int))).ah), ai ((p.addL f.shop.pigs (nth (f.chL p left) (i : Int))).dl), ai ((p.addL f.shop.pigs (nth (f.chL p left) (i : Int))).dh)])], [], [(0, PL EP.int ((nth (f.chL p left) (i : Int))))]⟩) (fun i => ⟨16, [(5, .e (.a (.p 2 (0)))), (6, .e (.a (.p 3 (0)))), (8, .e (.a (.p 5 (0)))), (9, .e (.a (.p 6 (0)))), (10, .e (.a (.p 7 (0)))), (11, .e (.a (.p 8 (0)))), (12, .e (.a (.p 9 (0)))), (31, .e (.a (.q 11)))], [(0, PP (EWk r) (f)), (1, OfP g), (11, ItP Try.prog (f.chItems p left)), (15, PL (EP.sl EP.int) ((bestRows g f.shop.pigs (fun r => f.bestW g k (night + 1) ((p.addL f.shop.pigs r).lose (nth f.nights night)) (takeL left r)) (f.chL p left) i).2.1))], [(2, .blk [.q 0] 78), (3, .blk [ai (night)] 3), (5, .blk [ai (nth left 0), ai (nth left 1), ai (nth left 2), ai (nth left 3)] 86), (6, .blk [.q 1] 92), (7, .blk [ai ((bestRows g f.shop.pigs (fun r => f.bestW g k (night + 1) ((p.addL f.shop.pigs r).lose (nth f.nights night)) (takeL left r)) (f.chL p left) i).1)] 3), (8, .blk [.q 15] 45), (9, .blk [.v (.bool ((bestRows g f.shop.pigs (fun r => f.bestW g k (night + 1) ((p.addL f.shop.pigs r).lose (nth f.nights night)) (takeL left r)) (f.chL p left) i).2.2))] 4), (13, .ob (.deferred (some [])))], [13], []⟩) (fun _ _ => False) rfl rfl (lx rfl) (rfl) (fun _ => RSt.of rfl rfl rfl rfl rfl rfl) (fun _ _ h => h.elim) rfl rfl rfl (fun _ _ => ItemOK.of rfl) rfl rfl (ren [(15, 12)]) (LeR.of ⟨rfl, rfl, rfl, rfl, rfl, rfl, rfl, rfl, trivial⟩ ⟨(lx rfl), (lx rfl), (lx rfl), (lxl rfl), trivial⟩ ⟨rfl, rfl, rfl, rfl, rfl, rfl, rfl, rfl, trivial⟩ rfl rfl rfl rfl rfl) ?_ ?_ ?_
    · intro i hi w1 E1 I1 R1 pβ1 pν1 us1
      have hr := chL_at (p := p) hl hp4 hi
      have hr40 : ((nth (f.chL p left) (i : Int))).length ≤ 40 := by have := hr.1; omega
      have hpn : PtB (p.addL f.shop.pigs (nth (f.chL p left) (i : Int))) (1000 + 400018 * night + 400000) := addTo_bnd hp hpg (by rw [hr.1]; exact Nat.le_refl _) (bnd_mono hr.2.1 (by omega)) (Nat.le_refl _)
      have hpe := pence_bnd hpg hr.1 hr.2.1
      have hgb := hg _ (nth (f.chL p left) (i : Int)) hpe.1 hpe.2
      have hwb := bestW_bnd hg hpg k (night + 1) ((p.addL f.shop.pigs (nth (f.chL p left) (i : Int))).lose (nth f.nights night)) (takeL left (nth (f.chL p left) (i : Int))) hr.2.2
      have hwl := bestW_len (f := f) (g := g) k (night + 1) ((p.addL f.shop.pigs (nth (f.chL p left) (i : Int))).lose (nth f.nights night)) (takeL left (nth (f.chL p left) (i : Int)))
      refine WP.seq (WP.region ?_)
      refine WPl.v rfl (o_assign rfl) ?_
      refine WPl.nil (EX.then (WP.region ?_))
      refine WPl.l 17 18 rfl rfl rfl (o_alloc Z84) ?_
      refine WPl.s1 (o_stag G84 rfl rfl rfl ⟨rfl, rfl, rfl, rfl, rfl, rfl, rfl, trivial⟩ rfl rfl) ?_
      refine WPl.nil ?_
      refine EX.beg rfl ?_
      refine WP.block (WP.seq (WP.region ?_))
      refine WPl.v rfl (o_ldp S78 rfl rfl rfl) ?_
      refine WPl.v rfl (o_ldpa G86 rfl rfl rfl) ?_
      refine WPl.v rfl (o_move rfl) ?_
      refine WPl.cs 18 rfl rfl rfl rfl (o_sigbc 18 (ren [(0, 0), (1, 16)]) (Sig.free (c78 f r left (nth (f.chL p left) (i : Int)) hpg hl.1 (fun j hj => hl.2 j (by rw [← hl.1]; exact hj)) hr.1 hr.2.1)) e78 rfl rfl SvsOK.rf w78 ⟨.x (lx rfl), .ext (lx rfl) rfl, trivial⟩ r78) ?_
      refine WPl.v rfl (o_move rfl) ?_
      refine WPl.v rfl (o_extract rfl rfl) ?_
      refine WPl.v rfl (o_extract rfl rfl) ?_
      refine WPl.l 18 19 rfl rfl rfl (o_alloc Z86) ?_
      refine WPl.s1 (o_stag G86 rfl rfl rfl ⟨rfl, rfl, rfl, rfl, trivial⟩ rfl rfl) ?_
      refine WPl.v rfl (o_assign rfl) ?_
      refine WPl.nil (EX.then (WP.seq ?_))
      refine WP.draw (nf := 22) [⟨[43, 44, 45, 46, 47, 48, 49, 50, 51, 52, 53, 54, 55, 56], [19, 20], [], [], []⟩, ⟨[42, 45, 46, 47, 48, 49, 50, 51, 52, 53, 54, 55, 56], [19, 20], [], [], []⟩, ⟨[42, 45, 46, 47, 48, 49, 50, 51, 52, 53, 54, 55, 56], [19, 20], [], [], [1]⟩, ⟨[42, 43, 44, 46, 47, 48, 49, 50, 51, 52, 53, 55, 56], [19, 20], [], [], []⟩, ⟨[42, 43, 44, 45, 51, 55, 56], [], [], [], []⟩, ⟨[42, 43, 44, 45, 51, 55, 56], [], [], [], [4]⟩, ⟨[42, 43, 44, 45, 51, 55, 56], [], [], [], [4, 5]⟩, ⟨[42, 43, 44, 45, 51, 55, 56], [], [], [], [4, 5, 6]⟩, ⟨[42, 43, 44, 45, 51, 55, 56], [], [19], [19], [4, 5, 6, 7]⟩, ⟨[42, 43, 44, 45, 46, 47, 48, 49, 50, 55, 56], [19], [], [], []⟩, ⟨[42, 43, 44, 45, 55, 56], [], [20], [20], [4, 5, 6, 7, 8, 9]⟩, ⟨[42, 43, 44, 45, 55, 56], [], [], [], [4, 5, 6, 7, 8, 9, 10]⟩, ⟨[42, 43, 44, 55, 56], [], [], [], [3, 4, 5, 6, 7, 8, 9, 10, 11]⟩, ⟨[42, 43, 44, 45, 46, 47, 48, 49, 50, 51, 52, 53, 54, 56], [19, 20], [], [], []⟩, ⟨[42, 43, 44, 45, 46, 47, 48, 49, 50, 51, 52, 53, 54, 55], [19, 20], [], [], []⟩, ⟨[], [], [21], [21], [0, 1, 2, 3, 4, 5, 6, 7, 8, 9, 10, 11, 12, 13, 14]⟩, ⟨[], [], [], [], [0, 1, 2, 3, 4, 5, 6, 7, 8, 9, 10, 11, 12, 13, 14, 15]⟩, ⟨[59, 60], [], [], [], [0, 1, 2, 3, 4, 5, 6, 7, 8, 9, 10, 11, 12, 13, 14, 15, 16]⟩, ⟨[58, 60, 17], [], [], [], [0, 1, 2, 3, 4, 5, 6, 7, 8, 9, 10, 11, 12, 13, 14, 15, 16]⟩, ⟨[58, 59, 17, 18], [], [], [], [0, 1, 2, 3, 4, 5, 6, 7, 8, 9, 10, 11, 12, 13, 14, 15, 16]⟩, ⟨[59, 60], [], [], [], [0, 1, 2, 3, 4, 5, 6, 7, 8, 9, 10, 11, 12, 13, 14, 15, 16, 17]⟩, ⟨[60], [], [], [], [0, 1, 2, 3, 4, 5, 6, 7, 8, 9, 10, 11, 12, 13, 14, 15, 16, 17, 18, 20]⟩, ⟨[], [], [], [], [0, 1, 2, 3, 4, 5, 6, 7, 8, 9, 10, 11, 12, 13, 14, 15, 16, 17, 18, 19, 20, 21]⟩] (by kernel_rfl) (by kernel_rfl) ?_
      refine DRQ.v rfl rfl rfl (o_ldp S78 rfl rfl rfl) ?_
      refine DRQ.v rfl rfl rfl (o_ldp S3 rfl rfl rfl) ?_
      refine DRQ.v rfl rfl rfl (o_add rfl rfl (by first | omega | (simp; omega)) (by first | omega | (simp; omega))) ?_
      refine DRQ.v rfl rfl rfl (o_ldpa G84 rfl rfl rfl) ?_
      refine DRQ.v rfl rfl rfl (o_ldp S78 rfl rfl rfl) ?_
      refine DRQ.v rfl rfl rfl (o_nilq rfl (lx rfl)) ?_
      refine DRQ.v rfl rfl rfl (o_fldq F103_0 rfl (lx rfl)) ?_
      refine DRQ.v rfl rfl rfl (o_flde F31_1 rfl (lx rfl)) ?_
      refine DRQ.x 19 rfl rfl rfl rfl (o_ldex S29 rfl (lx rfl) (strS rfl)) ?_
      refine DRQ.v rfl rfl rfl (o_ldp S3 rfl rfl rfl) ?_
      refine DRQ.x 20 rfl rfl rfl rfl (o_idx L29 rfl (lx rfl) rfl (by first | omega | (simp; omega)) (by first | omega | (simp; omega))) ?_
      refine DRQ.v rfl rfl rfl (o_ldqg G43 rfl (lx rfl) (strG rfl) rfl rfl) ?_
      refine DRQ.cs rfl rfl rfl rfl (o_sig 21 id (c76 (p.addL f.shop.pigs (nth (f.chL p left) (i : Int))) (nth f.nights night) (1000 + 400018 * night + 400000) hpn (by omega) hnc) e76 rfl rfl rfl w76 trivial r76) ?_
      refine DRQ.v rfl rfl rfl (o_ldpa G86 rfl rfl rfl) ?_
      refine DRQ.v rfl rfl rfl (o_ldp S92 rfl rfl rfl) ?_
      refine DRQ.cs rfl rfl rfl rfl (o_sig 21 (ren [(0, 0), (1, 1)]) (c66 f r g k (night + 1) ((p.addL f.shop.pigs (nth (f.chL p left) (i : Int))).lose (nth f.nights night)) (takeL left (nth (f.chL p left) (i : Int))) hf hg (by omega) (by omega) (PtB.mono (lose_bnd hpn hnc) (by omega)) hr.2.2) e66 rfl rfl rfl w66 ⟨(lx rfl), (lx rfl), trivial⟩ r66) ?_
      refine DRQ.v rfl rfl rfl (o_move rfl) ?_
      refine DRQ.v rfl rfl rfl (o_extract rfl rfl) ?_
      refine DRQ.v rfl rfl rfl (o_extract rfl rfl) ?_
      refine DRQ.v rfl rfl rfl (o_extract rfl rfl) ?_
      refine DRQ.v rfl rfl rfl (o_assign rfl) ?_
      refine DRQ.v rfl rfl rfl (o_assign rfl) ?_
      refine DRQ.v rfl rfl rfl (o_assign rfl) ?_
      refine DRQ.nil' ?_
      refine EX.then (WP.seq (WP.region ?_))
      refine WPl.v rfl (o_move rfl) ?_
      refine WPl.v rfl (o_ldp S92 rfl rfl rfl) ?_
      refine WPl.v rfl (o_move rfl) ?_
      refine WPl.v rfl (o_move rfl) ?_
      refine WPl.cs 22 rfl rfl rfl rfl (o_callfvb (svs := [.i ((sumOf Pig.pence f.shop.pigs (nth (f.chL p left) (i : Int)), (⟨(nth (f.chL p left) (i : Int)), hr40⟩ : BL)).1), .e (.a (.q 0))]) 22 (ren [(0, 16)]) rfl (Has.of (lx rfl) fun _ _ h => h ((sumOf Pig.pence f.shop.pigs (nth (f.chL p left) (i : Int)), (⟨(nth (f.chL p left) (i : Int)), hr40⟩ : BL)))) rfl rfl SvsOK.rf (by simp [SV.res, El.res, At.res, keys]) ⟨.ext (lx rfl) rfl, trivial⟩ (by simp [SV.res, El.res, At.res, keys])) ?_
      refine WPl.v rfl (o_add rfl rfl (by first | omega | (simp; omega)) (by first | omega | (simp; omega))) ?_
      refine WPl.v rfl (o_assign rfl) ?_
      refine WPl.nil (EX.then (WP.seq (WP.region ?_)))
      refine WPl.v rfl (o_move rfl) ?_
      refine WPl.v rfl (o_move rfl) ?_
      refine WPl.bit 22 23 ((f.bestW g k (night + 1) ((p.addL f.shop.pigs (nth (f.chL p left) (i : Int))).lose (nth f.nights night)) (takeL left (nth (f.chL p left) (i : Int)))).2.2) rfl rfl ?_
      refine WPl.gv 22 rfl rfl (.plain rfl Iff.rfl rfl) (fun hb => o_ldp S4 rfl rfl rfl) ?_
      refine WPl.gv 22 rfl rfl (.plain rfl Iff.rfl rfl) (fun hb => o_not rfl) ?_
      refine WPl.gv 22 rfl rfl (.plain rfl Iff.rfl rfl) (fun hb => o_move rfl) ?_
      refine WPl.bit 23 24 (((f.bestW g k (night + 1) ((p.addL f.shop.pigs (nth (f.chL p left) (i : Int))).lose (nth f.nights night)) (takeL left (nth (f.chL p left) (i : Int)))).2.2) && !(!((bestRows g f.shop.pigs (fun r => f.bestW g k (night + 1) ((p.addL f.shop.pigs r).lose (nth f.nights night)) (takeL left r)) (f.chL p left) i).2.2))) rfl rfl ?_
      refine WPl.gv 23 rfl rfl (.nest rfl rfl (by simp) rfl) (fun hb => o_move rfl) ?_
      refine WPl.gv 23 rfl rfl (.nest rfl rfl (by simp) rfl) (fun hb => o_ldp S3 rfl rfl rfl) ?_
      refine WPl.gv 23 rfl rfl (.nest rfl rfl (by simp) rfl) (fun hb => o_lss rfl rfl) ?_
      refine WPl.gv 22 rfl rfl (.plain rfl Iff.rfl rfl) (fun hb => o_or rfl rfl rfl (by first | (simp; done) | simp_all)) ?_
      refine WPl.v rfl (o_and rfl rfl rfl id) ?_
      refine WPl.nil (EX.then ?_)
      refine WP.cond rfl (fun hc2 => ?_) (fun hc2 => ?_)
      · try simp only [cnd] at hc2
        refine WP.region ?_
        refine WPl.v rfl (o_move rfl) ?_
        refine WPl.v rfl (o_move rfl) ?_
        refine WPl.cs 25 rfl rfl rfl rfl (o_sigbc 24 (ren [(0, 16)]) (c69 (nth (f.chL p left) (i : Int)) (by have := hr.1; omega)) e69 rfl rfl SvsOK.rf w69 ⟨.ext (lx rfl) rfl, trivial⟩ r69) ?_
        refine WPl.u1 (k := 25) (m := 26) rfl rfl rfl (OpG.newer0 (o_bsl (E := (EP.sl EP.int)) (l := [(nth (f.chL p left) (i : Int))]) R45 rfl rfl (.cons ((.inl ⟨_, (lxt rfl), PL.one⟩)) rfl (eok_sl (lxt rfl)) (.nil)) rfl rfl)) ?_
        refine WPl.v rfl (o_move rfl) ?_
        refine WPl.u1 (k := 26) (m := 27) rfl rfl rfl (OpG.newer1 (lx rfl) rfl (o_apps R45 EP.sl_one rfl rfl rfl (lx rfl) (by first | omega | (simp; omega) | (simp at *; omega)) (by first | omega | (simp; omega) | (simp at *; omega)))) ?_
        refine WPl.s1 (o_sta S3 rfl rfl rfl rfl rfl) ?_
        refine WPl.s1 (o_sta S45 rfl rfl rfl (.inr ⟨_, _, _, _, rfl⟩) rfl) ?_
        refine WPl.s1 (o_sta S4 rfl rfl rfl rfl rfl) ?_
        refine WPl.nil (EX.blk ?_)
        have hbr : bestRows g f.shop.pigs (fun r => f.bestW g k (night + 1) ((p.addL f.shop.pigs r).lose (nth f.nights night)) (takeL left r)) (f.chL p left) (i + 1) = ((f.bestW g k (night + 1) ((p.addL f.shop.pigs (nth (f.chL p left) (i : Int))).lose (nth f.nights night)) (takeL left (nth (f.chL p left) (i : Int)))).1 + g (sumOf Pig.pence f.shop.pigs (nth (f.chL p left) (i : Int))) (nth (f.chL p left) (i : Int)), (nth (f.chL p left) (i : Int)) :: (f.bestW g k (night + 1) ((p.addL f.shop.pigs (nth (f.chL p left) (i : Int))).lose (nth f.nights night)) (takeL left (nth (f.chL p left) (i : Int)))).2.1, true) := by simp only [bestRows, bestRow]; rw [if_pos (by simpa using hc2)]
        refine EX.imp (Imp.frzN (E := (EP.sl EP.int)) (l := [(nth (f.chL p left) (i : Int))] ++ ((f.bestW g k (night + 1) ((p.addL f.shop.pigs (nth (f.chL p left) (i : Int))).lose (nth f.nights night)) (takeL left (nth (f.chL p left) (i : Int)))).2.1)) 26 (lx rfl) rfl) ?_
        exact EX.next (ren [(15, 26)]) (LeR.of trivial ⟨(lx rfl), (lx rfl), (lx rfl), (has_eq (F := fun z => PL (EP.sl EP.int) z) (show ([(nth (f.chL p left) (i : Int))] ++ ((f.bestW g k (night + 1) ((p.addL f.shop.pigs (nth (f.chL p left) (i : Int))).lose (nth f.nights night)) (takeL left (nth (f.chL p left) (i : Int)))).2.1)) = ((fun i => (bestRows g f.shop.pigs (fun r => f.bestW g k (night + 1) ((p.addL f.shop.pigs r).lose (nth f.nights night)) (takeL left r)) (f.chL p left) i).2.1) (i + 1)) from by dsimp only; rw [hbr]; try rfl) (lx rfl)), trivial⟩ ⟨rfl, rfl, rfl, rfl, rfl, (congrArg (fun z => some (Ent.blk z 3)) (List.cons_eq_cons.2 ⟨(congrArg (fun z => ai z) (show (((f.bestW g k (night + 1) ((p.addL f.shop.pigs (nth (f.chL p left) (i : Int))).lose (nth f.nights night)) (takeL left (nth (f.chL p left) (i : Int)))).1) + (g (sumOf Pig.pence f.shop.pigs (nth (f.chL p left) (i : Int)), (⟨(nth (f.chL p left) (i : Int)), hr40⟩ : BL)).1 (sumOf Pig.pence f.shop.pigs (nth (f.chL p left) (i : Int)), (⟨(nth (f.chL p left) (i : Int)), hr40⟩ : BL)).2.1)) = ((fun i => (bestRows g f.shop.pigs (fun r => f.bestW g k (night + 1) ((p.addL f.shop.pigs r).lose (nth f.nights night)) (takeL left r)) (f.chL p left) i).1) (i + 1)) from by dsimp only; rw [hbr]; try rfl)), (Eq.refl [])⟩)), rfl, (congrArg (fun z => some (Ent.blk z 4)) (List.cons_eq_cons.2 ⟨(congrArg (fun z => At.v (Value.bool z)) (show (true) = ((fun i => (bestRows g f.shop.pigs (fun r => f.bestW g k (night + 1) ((p.addL f.shop.pigs r).lose (nth f.nights night)) (takeL left r)) (f.chL p left) i).2.2) (i + 1)) from by dsimp only; rw [hbr]; try rfl)), (Eq.refl [])⟩)), rfl, trivial⟩ rfl rfl rfl rfl rfl)
      · try simp only [cnd] at hc2
        refine WP.skip (EX.blk ?_)
        have hbr : bestRows g f.shop.pigs (fun r => f.bestW g k (night + 1) ((p.addL f.shop.pigs r).lose (nth f.nights night)) (takeL left r)) (f.chL p left) (i + 1) = (bestRows g f.shop.pigs (fun r => f.bestW g k (night + 1) ((p.addL f.shop.pigs r).lose (nth f.nights night)) (takeL left r)) (f.chL p left) i) := by simp only [bestRows, bestRow]; rw [if_neg (by simp at hc2 ⊢; intro h; exact hc2.resolve_left (by rw [h]; simp))]
        exact EX.next id (LeR.of trivial ⟨(lx rfl), (lx rfl), (lx rfl), (has_eq (F := fun z => PL (EP.sl EP.int) z) (show ((bestRows g f.shop.pigs (fun r => f.bestW g k (night + 1) ((p.addL f.shop.pigs r).lose (nth f.nights night)) (takeL left r)) (f.chL p left) i).2.1) = ((fun i => (bestRows g f.shop.pigs (fun r => f.bestW g k (night + 1) ((p.addL f.shop.pigs r).lose (nth f.nights night)) (takeL left r)) (f.chL p left) i).2.1) (i + 1)) from by dsimp only; rw [hbr]; try rfl) (lx rfl)), trivial⟩ ⟨rfl, rfl, rfl, rfl, rfl, (congrArg (fun z => some (Ent.blk z 3)) (List.cons_eq_cons.2 ⟨(congrArg (fun z => ai z) (show ((bestRows g f.shop.pigs (fun r => f.bestW g k (night + 1) ((p.addL f.shop.pigs r).lose (nth f.nights night)) (takeL left r)) (f.chL p left) i).1) = ((fun i => (bestRows g f.shop.pigs (fun r => f.bestW g k (night + 1) ((p.addL f.shop.pigs r).lose (nth f.nights night)) (takeL left r)) (f.chL p left) i).1) (i + 1)) from by dsimp only; rw [hbr]; try rfl)), (Eq.refl [])⟩)), rfl, (congrArg (fun z => some (Ent.blk z 4)) (List.cons_eq_cons.2 ⟨(congrArg (fun z => At.v (Value.bool z)) (show ((bestRows g f.shop.pigs (fun r => f.bestW g k (night + 1) ((p.addL f.shop.pigs r).lose (nth f.nights night)) (takeL left r)) (f.chL p left) i).2.2) = ((fun i => (bestRows g f.shop.pigs (fun r => f.bestW g k (night + 1) ((p.addL f.shop.pigs r).lose (nth f.nights night)) (takeL left r)) (f.chL p left) i).2.2) (i + 1)) from by dsimp only; rw [hbr]; try rfl)), (Eq.refl [])⟩)), rfl, trivial⟩ rfl rfl rfl rfl rfl)
    · exact fun _ _ h => h.elim
    · skip
      refine EX.blk (EX.then (WP.seq ?_))
      refine WP.draw (nf := 16) [⟨[84, 85], [], [], [], []⟩, ⟨[83, 85], [7], [], [], []⟩, ⟨[83, 84], [7, 8], [], [], []⟩, ⟨[84, 85], [], [], [7], [0]⟩, ⟨[85], [], [], [8], [0, 1, 3]⟩, ⟨[], [], [], [9], [0, 1, 2, 3, 4]⟩] (by kernel_rfl) (by kernel_rfl) ?_
      refine DRQ.v rfl rfl rfl (o_ldp S3 rfl rfl rfl) ?_
      refine DRQ.v rfl rfl rfl (o_ldp S45 rfl rfl rfl) ?_
      refine DRQ.v rfl rfl rfl (o_ldp S4 rfl rfl rfl) ?_
      refine DRQ.s 7 rfl rfl rfl (o_sta S3 rfl rfl rfl rfl rfl) ?_
      refine DRQ.s 8 rfl rfl rfl (o_sta S45 rfl rfl rfl (.inl ⟨_, (lx rfl), PL.one⟩) rfl) ?_
      refine DRQ.s 9 rfl rfl rfl (o_sta S4 rfl rfl rfl rfl rfl) ?_
      refine DRQ.nil' ?_
      refine EX.then (WP.ret ?_)
      exact EX.fin (ren [(0, 15)]) (.inl rfl) rfl (.cell1 S3 rfl rfl (.cell1 S45 rfl rfl (.cell1 S4 rfl rfl (.nil)))) rfl r66 ⟨(lx rfl), trivial⟩ (marks rfl) (by simp)
termination_by n
decreasing_by all_goals omega
theorem w40 {f : Fnd} {g : Int → List Int → Int} : ∀ x ∈ ([.e (.g [ai (f.shop.pounds), ai (f.shop.tl), ai (f.shop.th), ai (f.shop.al), ai (f.shop.ah), ai (f.shop.room), ai (f.shop.tpl), ai (f.shop.tph), ai (f.shop.apl), ai (f.shop.aph), .q 0, .q 1]), .e (.a (.q 2))] : List SV), x.res (keys (α := Pred) [(0, PL EPig (f.shop.pigs)), (1, PL ENight (f.nights)), (2, OfP g)]) := by simp [SV.res, El.res, At.res, keys]
theorem r40 {f : Fnd} {g : Int → List Int → Int} : SV.res (keys (α := Pred) []) (.t [.a (ai (f.leastV g)), .a (ai (f.leastE g))]) := by simp [SV.res, El.res, At.res, keys]
set_option maxHeartbeats 4000000 in
theorem c40 (f : Fnd) (g : Int → List Int → Int) (hl : f.shop.pigs.length ≤ 40) (hgb : OfB g) : Sig Try.prog 40 [.e (.g [ai (f.shop.pounds), ai (f.shop.tl), ai (f.shop.th), ai (f.shop.al), ai (f.shop.ah), ai (f.shop.room), ai (f.shop.tpl), ai (f.shop.tph), ai (f.shop.apl), ai (f.shop.aph), .q 0, .q 1]), .e (.a (.q 2))] [(0, PL EPig (f.shop.pigs)), (1, PL ENight (f.nights)), (2, OfP g)] (.t [.a (ai (f.leastV g)), .a (ai (f.leastE g))]) [] := by
  rcases Bool.eq_false_or_eq_true f.chk with hf | hf
  · skip
    refine Sig.intro Try.func40 rfl 3 [(0, .e (.g [ai (f.shop.pounds), ai (f.shop.tl), ai (f.shop.th), ai (f.shop.al), ai (f.shop.ah), ai (f.shop.room), ai (f.shop.tpl), ai (f.shop.tph), ai (f.shop.apl), ai (f.shop.aph), .q 0, .q 1])), (1, .e (.a (.q 2)))] rfl w40 rfl rfl fun I w => ?_
    refine WP.seq (WP.region ?_)
    refine WPl.l 3 4 rfl rfl rfl (o_boxg rfl) ?_
    refine WPl.v rfl (o_assign rfl) ?_
    refine WPl.v rfl (o_assign rfl) ?_
    refine WPl.nil (EX.then (WP.seq (WP.region ?_)))
    refine WPl.v rfl (o_ldpa G31 rfl rfl rfl) ?_
    refine WPl.cM 6 (o_sigm (J := [0]) 4 5 (ren [(0, 0), (1, 1)]) (c34N f hf) e34 rfl rfl SvsOK.rf w34N ⟨(lx rfl), (lx rfl), trivial⟩ (fun _ => rfl) (by simp [SV.res, El.res, At.res, keys]) rfl) rfl rfl rfl fun b15 => ?_
    refine WPl.v rfl (o_move rfl) ?_
    refine WPl.v rfl (o_extract rfl rfl) ?_
    refine WPl.v rfl (o_extract rfl rfl) ?_
    refine WPl.v rfl (o_assign rfl) ?_
    refine WPl.v rfl (o_assign rfl) ?_
    refine WPl.nil (EX.then (WP.seq (WP.seq (WP.region ?_))))
    refine WPl.v rfl (o_move rfl) ?_
    refine WPl.v rfl (o_neq rfl rfl) ?_
    refine WPl.nil (EX.then ?_)
    refine WP.cond rfl (fun hc1 => ?_) (fun hc1 => ?_)
    · try simp only [cnd] at hc1
      simp at hc1
    · try simp only [cnd] at hc1
      have hcb := Fnd.chkB hf
      have hpg := Shop.pigsOK (Fnd.shopOK hf)
      refine WP.skip (EX.then (WP.seq (WP.region ?_)))
      refine WPl.v rfl (o_move rfl) ?_
      refine WPl.cs 6 rfl rfl rfl rfl (o_sig 6 (ren [(0, 4)]) (c37 f (some b15) (by omega)) e37 rfl rfl rfl w37 ⟨(lx rfl), trivial⟩ r37) ?_
      refine WPl.v rfl (o_move rfl) ?_
      refine WPl.v rfl (o_extract rfl rfl) ?_
      refine WPl.v rfl (o_extract rfl rfl) ?_
      refine WPl.l 6 7 rfl rfl rfl (o_alloc Z84) ?_
      refine WPl.l 7 8 rfl rfl rfl (o_alloc Z86) ?_
      refine WPl.s1 (o_stag G84 rfl rfl rfl ⟨rfl, rfl, rfl, rfl, rfl, rfl, rfl, trivial⟩ rfl rfl) ?_
      refine WPl.s1 (o_stag G86 rfl rfl rfl ⟨rfl, rfl, rfl, rfl, trivial⟩ rfl rfl) ?_
      refine WPl.nil (EX.then (WP.seq (WP.region ?_)))
      refine WPl.v rfl (o_move rfl) ?_
      refine WPl.v rfl (o_ldpa G84 rfl rfl rfl) ?_
      refine WPl.v rfl (o_ldpa G86 rfl rfl rfl) ?_
      refine WPl.v rfl (o_move rfl) ?_
      refine WPl.cs 9 rfl rfl rfl rfl (o_sig 8 (ren [(0, 4), (1, 2)]) (c66 f (some b15) g f.nights.length 0 f.pt0 (left0 f.shop.pigs) hf hgb (by omega) (by omega) (PtB.mono (pt0_bnd hf) (by omega)) (left0_b hpg)) e66 rfl rfl rfl w66 ⟨(lx rfl), (lx rfl), trivial⟩ r66) ?_
      refine WPl.v rfl (o_move rfl) ?_
      refine WPl.v rfl (o_extract rfl rfl) ?_
      refine WPl.v rfl (o_extract rfl rfl) ?_
      refine WPl.v rfl (o_extract rfl rfl) ?_
      refine WPl.v rfl (o_assign rfl) ?_
      refine WPl.v rfl (o_assign rfl) ?_
      refine WPl.v rfl (o_assign rfl) ?_
      refine WPl.nil (EX.then (WP.seq (WP.seq (WP.region ?_))))
      refine WPl.v rfl (o_move rfl) ?_
      refine WPl.v rfl (o_not rfl) ?_
      refine WPl.nil (EX.then ?_)
      refine WP.cond rfl (fun hc2 => ?_) (fun hc2 => ?_)
      · try simp only [cnd] at hc2
        have hno : (f.bestF g).2.2 = false := by unfold Fnd.bestF; simpa using hc2
        refine WP.seq (WP.region ?_)
        refine WPl.v rfl (o_assign rfl) ?_
        refine WPl.v rfl (o_assign rfl) ?_
        refine WPl.nil (EX.then (WP.ret (EX.ret_then ?_)))
        have hE : f.leastE g = 3 := by simp [Fnd.leastE, hf, hno]
        rw [hE, show f.leastV g = 0 from by simp [Fnd.leastV, hE]]
        exact EX.fin id (.inl rfl) rfl (.tmp rfl (.tmp rfl .nil)) rfl (by simp [SV.res, El.res, At.res, keys]) trivial (by simp) (by simp)
      · try simp only [cnd] at hc2
        have hyes : (f.bestF g).2.2 = true := by unfold Fnd.bestF; simpa using hc2
        refine WP.skip (EX.then (WP.seq (WP.region ?_)))
        refine WPl.v rfl (o_move rfl) ?_
        refine WPl.v rfl (o_assign rfl) ?_
        refine WPl.v rfl (o_assign rfl) ?_
        refine WPl.nil (EX.then (WP.ret ?_))
        have hE : f.leastE g = 0 := by simp [Fnd.leastE, hf, hyes]
        rw [hE, show f.leastV g = (f.bestF g).1 from by simp [Fnd.leastV, hE]]
        exact EX.fin id (.inl rfl) rfl (.tmp rfl (.tmp rfl .nil)) rfl (by simp [SV.res, El.res, At.res, keys]) trivial (by simp) (by simp)
  · skip
    refine Sig.intro Try.func40 rfl 3 [(0, .e (.g [ai (f.shop.pounds), ai (f.shop.tl), ai (f.shop.th), ai (f.shop.al), ai (f.shop.ah), ai (f.shop.room), ai (f.shop.tpl), ai (f.shop.tph), ai (f.shop.apl), ai (f.shop.aph), .q 0, .q 1])), (1, .e (.a (.q 2)))] rfl w40 rfl rfl fun I w => ?_
    refine WP.seq (WP.region ?_)
    refine WPl.l 3 4 rfl rfl rfl (o_boxg rfl) ?_
    refine WPl.v rfl (o_assign rfl) ?_
    refine WPl.v rfl (o_assign rfl) ?_
    refine WPl.nil (EX.then (WP.seq (WP.region ?_)))
    refine WPl.v rfl (o_ldpa G31 rfl rfl rfl) ?_
    refine WPl.cs 4 rfl rfl rfl rfl (o_sig 4 (ren [(0, 0), (1, 1)]) (c34NE f hf hl) e34 rfl rfl rfl w34NE ⟨(lx rfl), (lx rfl), trivial⟩ r34NE) ?_
    refine WPl.v rfl (o_move rfl) ?_
    refine WPl.v rfl (o_extract rfl rfl) ?_
    refine WPl.v rfl (o_extract rfl rfl) ?_
    refine WPl.v rfl (o_assign rfl) ?_
    refine WPl.v rfl (o_assign rfl) ?_
    refine WPl.nil (EX.then (WP.seq (WP.seq (WP.region ?_))))
    refine WPl.v rfl (o_move rfl) ?_
    refine WPl.v rfl (o_neq rfl rfl) ?_
    refine WPl.nil (EX.then ?_)
    refine WP.cond rfl (fun hc1 => ?_) (fun hc1 => ?_)
    · try simp only [cnd] at hc1
      refine WP.seq (WP.region ?_)
      refine WPl.v rfl (o_move rfl) ?_
      refine WPl.v rfl (o_assign rfl) ?_
      refine WPl.v rfl (o_assign rfl) ?_
      refine WPl.nil (EX.then (WP.ret (EX.ret_then ?_)))
      have hE : f.leastE g = 130 := by simp [Fnd.leastE, hf]
      rw [hE, show f.leastV g = 0 from by simp [Fnd.leastV, hE]]
      exact EX.fin id (.inl rfl) rfl (.tmp rfl (.tmp rfl .nil)) rfl (by simp [SV.res, El.res, At.res, keys]) trivial (by simp) (by simp)
    · try simp only [cnd] at hc1
      simp at hc1
theorem w16 {f : Fnd} : ∀ x ∈ ([.e (.g [ai (f.shop.pounds), ai (f.shop.tl), ai (f.shop.th), ai (f.shop.al), ai (f.shop.ah), ai (f.shop.room), ai (f.shop.tpl), ai (f.shop.tph), ai (f.shop.apl), ai (f.shop.aph), .q 0, .q 1])] : List SV), x.res (keys (α := Pred) [(0, PL EPig (f.shop.pigs)), (1, PL ENight (f.nights))]) := by simp [SV.res, El.res, At.res, keys]
theorem r16 {f : Fnd} : SV.res (keys (α := Pred) []) (.t [.a (ai (f.leastV costG)), .a (ai (f.leastE costG))]) := by simp [SV.res, El.res, At.res, keys]
set_option maxHeartbeats 4000000 in
theorem c16 (f : Fnd) (hl : f.shop.pigs.length ≤ 40) : Sig Try.prog 16 [.e (.g [ai (f.shop.pounds), ai (f.shop.tl), ai (f.shop.th), ai (f.shop.al), ai (f.shop.ah), ai (f.shop.room), ai (f.shop.tpl), ai (f.shop.tph), ai (f.shop.apl), ai (f.shop.aph), .q 0, .q 1])] [(0, PL EPig (f.shop.pigs)), (1, PL ENight (f.nights))] (.t [.a (ai (f.leastV costG)), .a (ai (f.leastE costG))]) [] := by
  refine Sig.intro Try.func16 rfl 2 [(0, .e (.g [ai (f.shop.pounds), ai (f.shop.tl), ai (f.shop.th), ai (f.shop.al), ai (f.shop.ah), ai (f.shop.room), ai (f.shop.tpl), ai (f.shop.tph), ai (f.shop.apl), ai (f.shop.aph), .q 0, .q 1]))] rfl w16 rfl rfl fun I w => ?_
  refine WP.seq (WP.region ?_)
  refine WPl.l 2 3 rfl rfl rfl (o_boxg rfl) ?_
  refine WPl.v rfl (o_assign rfl) ?_
  refine WPl.v rfl (o_assign rfl) ?_
  refine WPl.nil (EX.then (WP.seq (WP.region ?_)))
  refine WPl.v rfl (o_ldpa G31 rfl rfl rfl) ?_
  refine WPl.imp (Imp.nam 3 4 (.func (.func 41) #[] #[]) (R := (OfP costG).and (Pred.is (.func (.func 41) #[] #[]))) (fun I => FvP.namea (fun (x : Int × BL) => (c41 x.1 x.2.1)) e41 (fun _ => (by simp [SV.res, El.res, At.res, keys])) I) rfl rfl) ?_
  refine WPl.cs 4 rfl rfl rfl rfl (o_sigc 4 (ren [(0, 0), (1, 1), (2, 3)]) (c40 f costG hl costG_b) e40 rfl rfl ⟨.inl rfl, .inr ⟨_, _, rfl, fun _ => rfl, (lxr rfl)⟩, trivial⟩ w40 ⟨(lx rfl), (lx rfl), (lxl rfl), trivial⟩ r40) ?_
  refine WPl.v rfl (o_extract rfl rfl) ?_
  refine WPl.v rfl (o_extract rfl rfl) ?_
  refine WPl.v rfl (o_assign rfl) ?_
  refine WPl.v rfl (o_assign rfl) ?_
  refine WPl.nil (EX.then (WP.ret ?_))
  exact EX.fin id (.inl rfl) rfl (.tmp rfl (.tmp rfl .nil)) rfl r16 trivial (by simp) (by simp)
end Go.Flong
namespace Go.Flong
open Go Go.Eng Go.Proofs
theorem B123 : BldT Try.prog 123 [(0, 1), (1, 7), (8, 4)] [.int .i64 0, .int .i64 0, .int .i64 0, .int .i64 0, .int .i64 0, .int .i64 0, .int .i64 0, .int .i64 0, .int .i64 0, .int .i64 0, .int .i64 0, .int .i64 0] := BldT.mk (ns := [1, 7, 4]) Try.underlying123 ⟨Try.sizeOf3, Try.sizeOf84, Try.sizeOf86, trivial⟩ rfl Try.zeroValue123 rfl
theorem Z123 : Zero Try.prog 123 [ai (0), ai (0), ai (0), ai (0), ai (0), ai (0), ai (0), ai (0), ai (0), ai (0), ai (0), ai (0)] := .mk Try.zeroValue123 rfl rfl
theorem F103_1 : Fld Try.prog 103 1 12 := .mk Try.underlying103 rfl rfl rfl Try.sizeOf101 rfl
theorem S101 : TyS Try.prog 101 := ⟨Try.isAgg101, Try.sizeOf101⟩
theorem e43 : Enters' Try.prog 43 := Try.call43
theorem e67 : Enters' Try.prog 67 := Try.call67
theorem e68 : Enters' Try.prog 68 := Try.call68
theorem w43 {f : Fnd} {b : Nat} {night : Int} {p : Pt} {left : List Int} : ∀ x ∈ ([.e (.a (.q 0)), .i (night), .e (.g [ai (p.pounds), ai (p.tl), ai (p.th), ai (p.al), ai (p.ah), ai (p.dl), ai (p.dh)]), .e (.g [ai (nth left 0), ai (nth left 1), ai (nth left 2), ai (nth left 3)])] : List SV), x.res (keys (α := Pred) [(0, PP (EWk (some b)) (f))]) := by simp [SV.res, El.res, At.res, keys]
theorem r43 {f : Fnd} {n : Nat} {night : Int} {p : Pt} {left : List Int} : SV.res (keys (α := Pred) []) (.i (f.ahW n night p left)) := by simp [SV.res, El.res, At.res, keys]
theorem w67 {f : Fnd} {b : Nat} {night : Int} {p : Pt} {left : List Int} : ∀ x ∈ ([.e (.a (.q 0)), .i (night), .e (.g [ai (p.pounds), ai (p.tl), ai (p.th), ai (p.al), ai (p.ah), ai (p.dl), ai (p.dh)]), .e (.g [ai (nth left 0), ai (nth left 1), ai (nth left 2), ai (nth left 3)])] : List SV), x.res (keys (α := Pred) [(0, PP (EWk (some b)) (f))]) := by simp [SV.res, El.res, At.res, keys]
theorem r67 {f : Fnd} {n : Nat} {night : Int} {p : Pt} {left : List Int} : SV.res (keys (α := Pred) []) (.i (f.chW n night p left)) := by simp [SV.res, El.res, At.res, keys]
set_option maxHeartbeats 4000000 in
theorem c67 (f : Fnd) (b : Nat) (n : Nat) (night : Int) (p : Pt) (left : List Int) (hf : f.chk = true) (hnt : night + n = f.nights.length) (hn0 : 0 ≤ night) (hp : ChB p night) (hl : bnd4 left) (ahC : ∀ (k : Nat), n = k + 1 → ∀ (p : Pt) (left : List Int), AhB p (night + 1) → bnd4 left → SigX Try.prog 43 [.e (.a (.q 0)), .i ((night + 1)), .e (.g [ai (p.pounds), ai (p.tl), ai (p.th), ai (p.al), ai (p.ah), ai (p.dl), ai (p.dh)]), .e (.g [ai (nth left 0), ai (nth left 1), ai (nth left 2), ai (nth left 3)])] [(0, PP (EWk (some b)) (f))] (memoXP true 12 b (MemoK f)) (.i (f.ahW k (night + 1) p left)) []) : SigX Try.prog 67 [.e (.a (.q 0)), .i (night), .e (.g [ai (p.pounds), ai (p.tl), ai (p.th), ai (p.al), ai (p.ah), ai (p.dl), ai (p.dh)]), .e (.g [ai (nth left 0), ai (nth left 1), ai (nth left 2), ai (nth left 3)])] [(0, PP (EWk (some b)) (f))] (memoXP true 12 b (MemoK f)) (.i (f.chW n night p left)) [] := by
  have hpg := Shop.pigsOK (Fnd.shopOK hf)
  have hp4 := hpg.2
  have hn := Fnd.nightsOK hf
  have hn4 := hn.2
  refine SigX.intro memoXP.plain Try.func67 rfl 2 1 [(0, .e (.a (.q 0))), (1, .i (night)), (2, .e (.g [ai (p.pounds), ai (p.tl), ai (p.th), ai (p.al), ai (p.ah), ai (p.dl), ai (p.dh)])), (3, .e (.g [ai (nth left 0), ai (nth left 1), ai (nth left 2), ai (nth left 3)]))] rfl w67 rfl rfl rfl fun I w => ?_
  refine WP.seq (WP.region ?_)
  refine WPl.l 2 3 rfl rfl rfl (o_boxa rfl (.inl ⟨_, (lx rfl), PP.one⟩)) ?_
  refine WPl.l 3 4 rfl rfl rfl (o_boxa rfl rfl) ?_
  refine WPl.l 4 5 rfl rfl rfl (o_boxg rfl) ?_
  refine WPl.l 5 6 rfl rfl rfl (o_boxg rfl) ?_
  refine WPl.v rfl (o_assign rfl) ?_
  refine WPl.nil (EX.then (WP.seq (WP.seq ?_)))
  refine WP.draw (nf := 7) [⟨[18, 19, 20, 21, 22, 23], [6], [], [], []⟩, ⟨[17], [], [], [], []⟩, ⟨[17], [], [], [], [1]⟩, ⟨[17], [], [], [], [1, 2]⟩, ⟨[17], [], [], [], [1, 2, 3]⟩, ⟨[17], [], [6], [6], [1, 2, 3, 4]⟩, ⟨[17], [], [], [], [1, 2, 3, 4, 5]⟩, ⟨[], [], [], [], [0, 1, 2, 3, 4, 5, 6]⟩] (by kernel_rfl) (by kernel_rfl) ?_
  refine DRQ.v rfl rfl rfl (o_ldp S3 rfl rfl rfl) ?_
  refine DRQ.v rfl rfl rfl (o_ldp S78 rfl rfl rfl) ?_
  refine DRQ.v rfl rfl rfl (o_nilq rfl (lx rfl)) ?_
  refine DRQ.v rfl rfl rfl (o_fldq F103_0 rfl (lx rfl)) ?_
  refine DRQ.v rfl rfl rfl (o_flde F31_1 rfl (lx rfl)) ?_
  refine DRQ.x 6 rfl rfl rfl rfl (o_ldex S29 rfl (lx rfl) (strS rfl)) ?_
  refine DRQ.v rfl rfl rfl (o_lenq L29 rfl (lx rfl)) ?_
  refine DRQ.v rfl rfl rfl (o_eql rfl rfl) ?_
  refine DRQ.nil' ?_
  refine EX.then ?_
  refine WP.cond rfl (fun hc1 => ?_) (fun hc1 => ?_)
  · try simp only [cnd] at hc1
    obtain rfl : n = 0 := by omega
    refine WP.seq (WP.region ?_)
    refine WPl.v rfl (o_assign rfl) ?_
    refine WPl.nil (EX.then (WP.ret (EX.ret_then ?_)))
    rw [show f.chW 0 night p left = 0 from rfl]
    exact EX.finX id 1 rfl (.inl rfl) rfl (.tmp rfl .nil) rfl (by simp [SV.res, El.res, At.res, keys]) trivial rfl (by simp) (by simp)
  · try simp only [cnd] at hc1
    obtain ⟨k, rfl⟩ : ∃ k, n = k + 1 := ⟨n - 1, by omega⟩
    have hnc := hn.at (show night.toNat < f.nights.length by omega)
    rw [show ((night.toNat : Nat) : Int) = night by omega] at hnc
    have hpb := hp.1
    refine WP.skip (EX.then (WP.seq (WP.region ?_)))
    refine WPl.v rfl (o_ldp S3 rfl rfl rfl) ?_
    refine WPl.v rfl (o_ldpa G84 rfl rfl rfl) ?_
    refine WPl.v rfl (o_ldpa G86 rfl rfl rfl) ?_
    refine WPl.v rfl (o_build B123 rfl ⟨rfl, trivial⟩ rfl rfl) ?_
    refine WPl.l 7 8 rfl rfl rfl (o_alloc Z123) ?_
    refine WPl.s1 (o_stag G123 rfl rfl rfl ⟨rfl, rfl, rfl, rfl, rfl, rfl, rfl, rfl, rfl, rfl, rfl, rfl, trivial⟩ rfl rfl) ?_
    refine WPl.nil (EX.then (WP.seq (WP.seq ?_)))
    refine WP.openX (km := 1) rfl fun ml hml => ?_
    refine WP.draw (nf := 8) [⟨[34], [], [], [], []⟩, ⟨[34], [], [], [], [0]⟩, ⟨[34], [], [], [], [0, 1]⟩, ⟨[34], [], [], [], [0, 1, 2]⟩, ⟨[30, 31, 32, 33], [], [], [], []⟩, ⟨[], [], [], [], [0, 1, 2, 3, 4]⟩, ⟨[], [], [], [], [0, 1, 2, 3, 4, 5]⟩, ⟨[37], [], [], [], [0, 1, 2, 3, 4, 5, 6]⟩, ⟨[36, 10], [], [], [], [0, 1, 2, 3, 4, 5, 6]⟩, ⟨[37], [], [], [], [0, 1, 2, 3, 4, 5, 6, 7]⟩, ⟨[], [], [], [], [0, 1, 2, 3, 4, 5, 6, 7, 8, 9]⟩] (by kernel_rfl) (by kernel_rfl) ?_
    refine DRQ.v rfl rfl rfl (o_ldp S78 rfl rfl rfl) ?_
    refine DRQ.v rfl rfl rfl (o_nilq rfl (lx rfl)) ?_
    refine DRQ.v rfl rfl rfl (o_fldq F103_1 rfl (lx rfl)) ?_
    refine DRQ.v rfl rfl rfl (o_lde S101 rfl (lx rfl) (strV rfl)) ?_
    refine DRQ.v rfl rfl rfl (o_ldpa G123 rfl rfl rfl) ?_
    refine DRQ.v rfl rfl rfl (o_look2 (km := 1) (a := [night, p.pounds, p.tl, p.th, p.al, p.ah, p.dl, p.dh, nth left 0, nth left 1, nth left 2, nth left 3]) M101 rfl rfl isKey.g rfl rfl) ?_
    refine DRQ.v rfl rfl rfl (o_move rfl) ?_
    refine DRQ.v rfl rfl rfl (o_extract rfl rfl) ?_
    refine DRQ.v rfl rfl rfl (o_extract rfl rfl) ?_
    refine DRQ.v rfl rfl rfl (o_assign rfl) ?_
    refine DRQ.v rfl rfl rfl (o_assign rfl) ?_
    refine DRQ.nil' ?_
    refine EX.then (WP.seq (WP.region ?_))
    refine WPl.v rfl (o_move rfl) ?_
    refine WPl.nil (EX.then ?_)
    refine WP.cond rfl (fun hc2 => ?_) (fun hc2 => ?_)
    · try simp only [cnd] at hc2
      refine WP.imp (Imp.closeX (km := 1) (Kp := (MemoK f)) rfl hml) ?_
      refine WP.seq (WP.region ?_)
      refine WPl.v rfl (o_move rfl) ?_
      refine WPl.v rfl (o_assign rfl) ?_
      refine WPl.nil (EX.then (WP.ret (EX.ret_then ?_)))
      rw [show f.chW (k + 1) night p left = (mget ml [night, p.pounds, p.tl, p.th, p.al, p.ah, p.dl, p.dh, nth left 0, nth left 1, nth left 2, nth left 3]).getD 0 from (memo_get hl.1 hnt hml hc2).symm]
      exact EX.finX id 1 rfl (.inl rfl) rfl (.tmp rfl .nil) rfl (by simp [SV.res, El.res, At.res, keys]) trivial rfl (by simp) (by simp)
    · try simp only [cnd] at hc2
      refine WP.imp (Imp.closeX (km := 1) (Kp := (MemoK f)) rfl hml) ?_
      refine WP.skip (EX.then (WP.seq (WP.region ?_)))
      refine WPl.l 8 9 rfl rfl rfl (o_alloc Z3) ?_
      refine WPl.s1 (o_sta S3 rfl rfl rfl rfl rfl) ?_
      refine WPl.nil (EX.then (WP.seq (WP.seq (WP.region ?_))))
      refine WPl.v rfl (o_ldp S78 rfl rfl rfl) ?_
      refine WPl.v rfl (o_ldpa G84 rfl rfl rfl) ?_
      refine WPl.v rfl (o_ldpa G86 rfl rfl rfl) ?_
      refine WPl.cs 10 rfl rfl rfl rfl (o_sig 9 (ren [(0, 0)]) (c77 f (some b) p left (1040 + 400100 * night) hf hpb (by omega) hl) e77 rfl rfl rfl w77 ⟨(lx rfl), trivial⟩ r77) ?_
      refine WPl.nil (EX.then (WP.block ?_))
      refine WP.leR (S' := ⟨10, [(4, .e (.a (.p 2 (0)))), (5, .e (.a (.p 3 (0)))), (7, .e (.a (.p 5 (0)))), (8, .i (0)), (9, .e (.a (.p 7 (0)))), (12, .e (.a (.p 8 (0)))), (43, .e (.a (.q 9)))], [(0, PP (EWk (some b)) (f)), (9, ItP Try.prog (f.chItems p left))], [(1, .ext (memoXP true 12 b (MemoK f))), (2, .blk [.q 0] 78), (3, .blk [ai (night)] 3), (5, .blk [ai (nth left 0), ai (nth left 1), ai (nth left 2), ai (nth left 3)] 86), (7, .blk [ai (night), ai (p.pounds), ai (p.tl), ai (p.th), ai (p.al), ai (p.ah), ai (p.dl), ai (p.dh), ai (nth left 0), ai (nth left 1), ai (nth left 2), ai (nth left 3)] 123), (8, .blk [ai (1073741824)] 3)], [], []⟩) id (LeR.of ⟨rfl, rfl, rfl, rfl, rfl, rfl, rfl, trivial⟩ ⟨(lx rfl), (lx rfl), trivial⟩ ⟨rfl, rfl, rfl, rfl, rfl, rfl, trivial⟩ rfl rfl rfl rfl rfl) ?_
      refine WP.rangeG 12 1 ((f.chL p left).length) (fun i => ⟨[.e (.a (.q 0)), .e (.g [ai ((p.addL f.shop.pigs (nth (f.chL p left) (i : Int))).pounds), ai ((p.addL f.shop.pigs (nth (f.chL p left) (i : Int))).tl), ai ((p.addL f.shop.pigs (nth (f.chL p left) (i : Int))).th), ai ((p.addL f.shop.pigs (nth (f.chL p left) (i : Int))).al), ai ((p.addL f.shop.pigs (nth (f.chL p left) (i : Int))).ah), ai ((p.addL f.shop.pigs (nth (f.chL p left) (i : Int))).dl), ai ((p.addL f.shop.pigs (nth (f.chL p left) (i : Int))).dh)])], [], [(0, PL EP.int ((nth (f.chL p left) (i : Int))))]⟩) (fun i => ⟨12, [(4, .e (.a (.p 2 (0)))), (5, .e (.a (.p 3 (0)))), (7, .e (.a (.p 5 (0)))), (8, .i (0)), (9, .e (.a (.p 7 (0)))), (12, .e (.a (.p 8 (0)))), (43, .e (.a (.q 9)))], [(0, PP (EWk (some b)) (f)), (9, ItP Try.prog (f.chItems p left))], [(1, .ext (memoXP true 12 b (MemoK f))), (2, .blk [.q 0] 78), (3, .blk [ai (night)] 3), (5, .blk [ai (nth left 0), ai (nth left 1), ai (nth left 2), ai (nth left 3)] 86), (7, .blk [ai (night), ai (p.pounds), ai (p.tl), ai (p.th), ai (p.al), ai (p.ah), ai (p.dl), ai (p.dh), ai (nth left 0), ai (nth left 1), ai (nth left 2), ai (nth left 3)] 123), (8, .blk [ai (chRows f.shop.pigs (fun r => f.aheadOf (fun q => f.chW k (night + 1) q (takeL left r)) (night + 1) ((p.addL f.shop.pigs r).lose (nth f.nights night))) (f.chL p left) i)] 3), (10, .ob (.deferred (some [])))], [10], []⟩) (fun _ _ => False) rfl rfl (lx rfl) (rfl) (fun _ => RSt.of1 1 rfl rfl rfl rfl rfl rfl memoXP.plain rfl) (fun _ _ h => h.elim) rfl rfl rfl (fun _ _ => ItemOK.of rfl) rfl rfl id (LeR.of ⟨rfl, rfl, rfl, rfl, rfl, rfl, rfl, trivial⟩ ⟨(lx rfl), (lx rfl), trivial⟩ ⟨rfl, rfl, rfl, rfl, rfl, (congrArg (fun z => some (Ent.blk z 3)) (List.cons_eq_cons.2 ⟨(congrArg (fun z => ai z) (show (1073741824) = ((fun i => chRows f.shop.pigs (fun r => f.aheadOf (fun q => f.chW k (night + 1) q (takeL left r)) (night + 1) ((p.addL f.shop.pigs r).lose (nth f.nights night))) (f.chL p left) i) 0) from rfl)), (Eq.refl [])⟩)), rfl, trivial⟩ rfl rfl rfl rfl rfl) ?_ ?_ ?_
      · intro i hi w1 E1 I1 R1 pβ1 pν1 us1
        have hr := chL_at (p := p) hl hp4 hi
        have hnx := ChB.next hp hn0 hpg hr.1 hr.2.1 hnc
        have hpe := pence_bnd hpg hr.1 hr.2.1
        have hab := ahW_bnd hpg k (night + 1) ((p.addL f.shop.pigs (nth (f.chL p left) (i : Int))).lose (nth f.nights night)) hr.2.2
        have hnv : neverC = 1073741824 := rfl
        refine WP.seq (WP.region ?_)
        refine WPl.v rfl (o_assign rfl) ?_
        refine WPl.nil (EX.then (WP.region ?_))
        refine WPl.l 13 14 rfl rfl rfl (o_alloc Z84) ?_
        refine WPl.s1 (o_stag G84 rfl rfl rfl ⟨rfl, rfl, rfl, rfl, rfl, rfl, rfl, trivial⟩ rfl rfl) ?_
        refine WPl.nil ?_
        refine EX.beg rfl ?_
        refine WP.block (WP.seq (WP.region ?_))
        refine WPl.v rfl (o_ldp S78 rfl rfl rfl) ?_
        refine WPl.v rfl (o_ldpa G86 rfl rfl rfl) ?_
        refine WPl.v rfl (o_move rfl) ?_
        refine WPl.cs 14 rfl rfl rfl rfl (o_sigbc 14 (ren [(0, 0), (1, 12)]) (Sig.free (c78 f (some b) left (nth (f.chL p left) (i : Int)) hpg hl.1 (fun j hj => hl.2 j (by rw [← hl.1]; exact hj)) hr.1 hr.2.1)) e78 rfl rfl SvsOK.rf w78 ⟨.x (lx rfl), .ext (lx rfl) rfl, trivial⟩ r78) ?_
        refine WPl.v rfl (o_move rfl) ?_
        refine WPl.v rfl (o_extract rfl rfl) ?_
        refine WPl.v rfl (o_extract rfl rfl) ?_
        refine WPl.l 14 15 rfl rfl rfl (o_alloc Z86) ?_
        refine WPl.s1 (o_stag G86 rfl rfl rfl ⟨rfl, rfl, rfl, rfl, trivial⟩ rfl rfl) ?_
        refine WPl.v rfl (o_assign rfl) ?_
        refine WPl.nil (EX.then ?_)
        refine WP.draw (nf := 17) [⟨[54, 55, 56, 57, 58, 59, 60, 61, 62, 63, 64, 65, 66, 67, 68, 69, 70], [1, 15, 16], [], [], []⟩, ⟨[53, 55, 56, 57, 58, 59, 60, 61, 62, 63, 64, 65, 66, 67, 68, 69], [1, 15, 16], [], [], []⟩, ⟨[53, 54, 56, 57, 58, 59, 60, 61, 62, 63, 64, 65, 66, 67, 68], [15, 16], [], [], []⟩, ⟨[53, 54, 55, 58, 59, 60, 61, 62, 63, 64, 65, 66, 67, 68], [15, 16], [], [], []⟩, ⟨[53, 54, 55, 58, 59, 60, 61, 62, 63, 64, 65, 66, 67, 68], [15, 16], [], [], [3]⟩, ⟨[53, 54, 55, 56, 57, 59, 60, 61, 62, 63, 64, 65, 66, 68], [15, 16], [], [], []⟩, ⟨[53, 54, 55, 56, 57, 58, 64, 68], [], [], [], []⟩, ⟨[53, 54, 55, 56, 57, 58, 64, 68], [], [], [], [6]⟩, ⟨[53, 54, 55, 56, 57, 58, 64, 68], [], [], [], [6, 7]⟩, ⟨[53, 54, 55, 56, 57, 58, 64, 68], [], [], [], [6, 7, 8]⟩, ⟨[53, 54, 55, 56, 57, 58, 64, 68], [], [15], [15], [6, 7, 8, 9]⟩, ⟨[53, 54, 55, 56, 57, 58, 59, 60, 61, 62, 63, 68], [15], [], [], []⟩, ⟨[53, 54, 55, 56, 57, 58, 68], [], [16], [16], [6, 7, 8, 9, 10, 11]⟩, ⟨[53, 54, 55, 56, 57, 58, 68], [], [], [], [6, 7, 8, 9, 10, 11, 12]⟩, ⟨[53, 54, 55, 56, 57, 68], [], [], [], [5, 6, 7, 8, 9, 10, 11, 12, 13]⟩, ⟨[53, 54, 55, 56, 57, 58, 59, 60, 61, 62, 63, 64, 65, 66, 67], [15, 16], [], [], []⟩, ⟨[53, 54], [], [], [1], [2, 3, 4, 5, 6, 7, 8, 9, 10, 11, 12, 13, 14, 15]⟩, ⟨[53], [], [], [], [1, 2, 3, 4, 5, 6, 7, 8, 9, 10, 11, 12, 13, 14, 15, 16]⟩, ⟨[], [], [], [], [0, 1, 2, 3, 4, 5, 6, 7, 8, 9, 10, 11, 12, 13, 14, 15, 16, 17]⟩, ⟨[], [], [], [8], [0, 1, 2, 3, 4, 5, 6, 7, 8, 9, 10, 11, 12, 13, 14, 15, 16, 17, 18]⟩] (by kernel_rfl) (by kernel_rfl) ?_
        refine DRQ.v rfl rfl rfl (o_ldp S3 rfl rfl rfl) ?_
        refine DRQ.v rfl rfl rfl (o_move rfl) ?_
        refine DRQ.v rfl rfl rfl (o_ldp S78 rfl rfl rfl) ?_
        refine DRQ.v rfl rfl rfl (o_ldp S3 rfl rfl rfl) ?_
        refine DRQ.v rfl rfl rfl (o_add rfl rfl (by first | omega | (simp; omega)) (by first | omega | (simp; omega))) ?_
        refine DRQ.v rfl rfl rfl (o_ldpa G84 rfl rfl rfl) ?_
        refine DRQ.v rfl rfl rfl (o_ldp S78 rfl rfl rfl) ?_
        refine DRQ.v rfl rfl rfl (o_nilq rfl (lx rfl)) ?_
        refine DRQ.v rfl rfl rfl (o_fldq F103_0 rfl (lx rfl)) ?_
        refine DRQ.v rfl rfl rfl (o_flde F31_1 rfl (lx rfl)) ?_
        refine DRQ.x 15 rfl rfl rfl rfl (o_ldex S29 rfl (lx rfl) (strS rfl)) ?_
        refine DRQ.v rfl rfl rfl (o_ldp S3 rfl rfl rfl) ?_
        refine DRQ.x 16 rfl rfl rfl rfl (o_idx L29 rfl (lx rfl) rfl (by first | omega | (simp; omega)) (by first | omega | (simp; omega))) ?_
        refine DRQ.v rfl rfl rfl (o_ldqg G43 rfl (lx rfl) (strG rfl) rfl rfl) ?_
        refine DRQ.cs rfl rfl rfl rfl (o_sig 17 id (c76 (p.addL f.shop.pigs (nth (f.chL p left) (i : Int))) (nth f.nights night) (1040 + 400100 * night + 400000) hnx.1 (by omega) hnc) e76 rfl rfl rfl w76 trivial r76) ?_
        refine DRQ.v rfl rfl rfl (o_ldpa G86 rfl rfl rfl) ?_
        refine DRQ.cL (X' := []) rfl rfl rfl rfl (o_sigx 17 (ren [(0, 0)]) 1 (ahC k rfl ((p.addL f.shop.pigs (nth (f.chL p left) (i : Int))).lose (nth f.nights night)) (takeL left (nth (f.chL p left) (i : Int))) hnx.2 hr.2.2) memoXP.plain e43 rfl rfl rfl SvsOK.rf w43 ⟨(lx rfl), trivial⟩ r43) ?_
        refine DRQ.v rfl rfl rfl (o_add rfl rfl (by first | omega | (simp; omega)) (by first | omega | (simp; omega))) ?_
        refine DRQ.v rfl rfl rfl (o_min rfl rfl) ?_
        refine DRQ.s 8 rfl rfl rfl (o_sta S3 rfl rfl rfl rfl rfl) ?_
        refine DRQ.nil' ?_
        refine EX.blk ?_
        exact EX.next id (LeR.of trivial ⟨(lx rfl), (lx rfl), trivial⟩ ⟨rfl, rfl, rfl, rfl, rfl, rfl, (congrArg (fun z => some (Ent.blk z 3)) (List.cons_eq_cons.2 ⟨(congrArg (fun z => ai z) (show (min (chRows f.shop.pigs (fun r => f.aheadOf (fun q => f.chW k (night + 1) q (takeL left r)) (night + 1) ((p.addL f.shop.pigs r).lose (nth f.nights night))) (f.chL p left) i) ((sumOf Pig.pence f.shop.pigs (nth (f.chL p left) (i : Int))) + (f.ahW k (night + 1) ((p.addL f.shop.pigs (nth (f.chL p left) (i : Int))).lose (nth f.nights night)) (takeL left (nth (f.chL p left) (i : Int)))))) = ((fun i => chRows f.shop.pigs (fun r => f.aheadOf (fun q => f.chW k (night + 1) q (takeL left r)) (night + 1) ((p.addL f.shop.pigs r).lose (nth f.nights night))) (f.chL p left) i) (i + 1)) from rfl)), (Eq.refl [])⟩)), rfl, trivial⟩ rfl rfl rfl rfl rfl)
      · exact fun _ _ h => h.elim
      · skip
        refine EX.blk (EX.then (WP.seq (WP.region ?_)))
        refine WPl.v rfl (o_ldp S3 rfl rfl rfl) ?_
        refine WPl.v rfl (o_min rfl rfl) ?_
        refine WPl.s1 (o_sta S3 rfl rfl rfl rfl rfl) ?_
        refine WPl.nil (EX.then (WP.seq ?_))
        refine WP.openX (km := 1) rfl fun mm hmm => ?_
        refine WP.draw (nf := 12) [⟨[78, 79], [], [], [], []⟩, ⟨[78, 79], [], [], [], [0]⟩, ⟨[78, 79], [], [], [], [0, 1]⟩, ⟨[78, 79], [], [], [], [0, 1, 2]⟩, ⟨[74, 75, 76, 77, 79], [], [], [], []⟩, ⟨[74, 75, 76, 77, 78], [], [], [], []⟩, ⟨[], [], [], [1], [0, 1, 2, 3, 4, 5]⟩] (by kernel_rfl) (by kernel_rfl) ?_
        refine DRQ.v rfl rfl rfl (o_ldp S78 rfl rfl rfl) ?_
        refine DRQ.v rfl rfl rfl (o_nilq rfl (lx rfl)) ?_
        refine DRQ.v rfl rfl rfl (o_fldq F103_1 rfl (lx rfl)) ?_
        refine DRQ.v rfl rfl rfl (o_lde S101 rfl (lx rfl) (strV rfl)) ?_
        refine DRQ.v rfl rfl rfl (o_ldpa G123 rfl rfl rfl) ?_
        refine DRQ.v rfl rfl rfl (o_ldp S3 rfl rfl rfl) ?_
        refine DRQ.s 1 rfl rfl rfl (o_mapup (km := 1) (a := [night, p.pounds, p.tl, p.th, p.al, p.ah, p.dl, p.dh, nth left 0, nth left 1, nth left 2, nth left 3]) M101 rfl rfl isKey.g rfl rfl rfl) ?_
        refine DRQ.nil' ?_
        refine EX.then (WP.seq (WP.region ?_))
        refine WPl.v rfl (o_ldp S3 rfl rfl rfl) ?_
        refine WPl.v rfl (o_assign rfl) ?_
        refine WPl.nil (EX.then (WP.ret ?_))
        refine EX.imp (Imp.closeX (km := 1) (Kp := (MemoK f)) rfl (mset_all hmm ⟨k + 1, night, p, left, hl.1, hnt, rfl, rfl⟩)) ?_
        rw [show f.chW (k + 1) night p left = min (chRows f.shop.pigs (fun r => f.aheadOf (fun q => f.chW k (night + 1) q (takeL left r)) (night + 1) ((p.addL f.shop.pigs r).lose (nth f.nights night))) (f.chL p left) (f.chL p left).length) 1073741824 from rfl]
        exact EX.finX id 1 rfl (.inl rfl) rfl (.tmp rfl .nil) rfl (by simp [SV.res, El.res, At.res, keys]) trivial rfl (marks rfl) (by simp)
theorem w68 {n : Int} : ∀ x ∈ ([.i (n)] : List SV), x.res (keys (α := Pred) []) := by simp [SV.res, El.res, At.res, keys]
theorem r68 {n : Int} : SV.res (keys (α := Pred) []) (.e (.g [ai (n), ai (n)])) := by simp [SV.res, El.res, At.res, keys]
set_option maxHeartbeats 4000000 in
theorem c68 (n : Int)  : Sig Try.prog 68 [.i (n)] [] (.e (.g [ai (n), ai (n)])) [] := by
  refine Sig.intro Try.func68 rfl 0 [(0, .i (n))] rfl w68 rfl rfl fun I w => ?_
  refine WP.seq (WP.region ?_)
  refine WPl.l 0 1 rfl rfl rfl (o_alloc Z23) ?_
  refine WPl.nil (EX.then (WP.seq (WP.region ?_)))
  refine WPl.v rfl (o_move rfl) ?_
  refine WPl.v rfl (o_move rfl) ?_
  refine WPl.v rfl (o_build B23 rfl ⟨rfl, rfl, trivial⟩ rfl rfl) ?_
  refine WPl.s1 (o_stag G23 rfl rfl rfl ⟨rfl, rfl, trivial⟩ rfl rfl) ?_
  refine WPl.nil (EX.then (WP.ret ?_))
  exact EX.fin id (.inl rfl) rfl (.cellg G23 rfl rfl rfl (.nil)) rfl r68 trivial (by simp) (by simp)
set_option maxHeartbeats 4000000 in
theorem c43 (f : Fnd) (b : Nat) (n : Nat) (night : Int) (p : Pt) (left : List Int) (hf : f.chk = true) (hnt : night + n = f.nights.length) (hn0 : 0 ≤ night) (hp : AhB p night) (hl : bnd4 left) : SigX Try.prog 43 [.e (.a (.q 0)), .i (night), .e (.g [ai (p.pounds), ai (p.tl), ai (p.th), ai (p.al), ai (p.ah), ai (p.dl), ai (p.dh)]), .e (.g [ai (nth left 0), ai (nth left 1), ai (nth left 2), ai (nth left 3)])] [(0, PP (EWk (some b)) (f))] (memoXP true 12 b (MemoK f)) (.i (f.ahW n night p left)) [] := by
  have hpg := Shop.pigsOK (Fnd.shopOK hf)
  have hp4 := hpg.2
  have hn := Fnd.nightsOK hf
  have hn4 := hn.2
  have hpb := hp.1
  have hpd := hp.2
  unfold PtB at hpb
  have hcw := fun q => chW_bnd hpg n night q left hl
  refine SigX.intro memoXP.plain Try.func43 rfl 2 1 [(0, .e (.a (.q 0))), (1, .i (night)), (2, .e (.g [ai (p.pounds), ai (p.tl), ai (p.th), ai (p.al), ai (p.ah), ai (p.dl), ai (p.dh)])), (3, .e (.g [ai (nth left 0), ai (nth left 1), ai (nth left 2), ai (nth left 3)]))] rfl w43 rfl rfl rfl fun I w => ?_
  refine WP.seq (WP.region ?_)
  refine WPl.l 2 3 rfl rfl rfl (o_boxg rfl) ?_
  refine WPl.l 3 4 rfl rfl rfl (o_boxg rfl) ?_
  refine WPl.v rfl (o_assign rfl) ?_
  refine WPl.nil (EX.then (WP.seq (WP.seq (WP.region ?_))))
  refine WPl.v rfl (o_move rfl) ?_
  refine WPl.v rfl (o_move rfl) ?_
  refine WPl.v rfl (o_nilq rfl (lx rfl)) ?_
  refine WPl.v rfl (o_fldq F103_0 rfl (lx rfl)) ?_
  refine WPl.v rfl (o_flde F31_1 rfl (lx rfl)) ?_
  refine WPl.x 4 5 rfl rfl rfl (o_ldex S29 rfl (lx rfl) (strS rfl)) ?_
  refine WPl.v rfl (o_lenq L29 rfl (lx rfl)) ?_
  refine WPl.v rfl (o_eql rfl rfl) ?_
  refine WPl.v rfl (o_move rfl) ?_
  refine WPl.bit 5 6 (!(decide (night = (f.nights.length : Int)))) rfl rfl ?_
  refine WPl.gv 5 rfl rfl (.plain rfl (by simp) rfl) (fun hb => o_move rfl) ?_
  refine WPl.gv 5 rfl rfl (.plain rfl (by simp) rfl) (fun hb => o_nilq rfl (lx rfl)) ?_
  refine WPl.gv 5 rfl rfl (.plain rfl (by simp) rfl) (fun hb => o_fldq F103_0 rfl (lx rfl)) ?_
  refine WPl.gv 5 rfl rfl (.plain rfl (by simp) rfl) (fun hb => o_flde F31_1 rfl (lx rfl)) ?_
  refine WPl.gx 5 6 7 rfl rfl rfl rfl (.plain rfl (by simp) rfl) (fun hb => o_ldex S29 rfl (lx rfl) (strS rfl)) ?_
  refine WPl.gv 5 rfl rfl (.plain rfl (by simp) rfl) (fun hb => o_move rfl) ?_
  refine WPl.gx 5 7 8 rfl rfl rfl rfl (.plain rfl (by simp) rfl) (fun hb => have hb2 : ¬ night = f.nights.length := (by simpa using hb); o_idx L29 rfl (lxi hb rfl) rfl (by first | omega | (simp; omega)) (by first | omega | (simp; omega))) ?_
  refine WPl.gv 5 rfl rfl (.plain rfl (by simp) rfl) (fun hb => o_fldq F43_1 rfl (lxi hb rfl)) ?_
  refine WPl.gv 5 rfl rfl (.plain rfl (by simp) rfl) (fun hb => o_lde S3 rfl (lxi hb rfl) (strI rfl)) ?_
  refine WPl.gv 5 rfl rfl (.plain rfl (by simp) rfl) (fun hb => o_eql rfl rfl) ?_
  refine WPl.v rfl (o_or rfl rfl rfl (by first | (simp; done) | simp_all)) ?_
  refine WPl.nil (EX.then ?_)
  refine WP.cond rfl (fun hc1 => ?_) (fun hc1 => ?_)
  · try simp only [cnd] at hc1
    refine WP.seq (WP.region ?_)
    refine WPl.v rfl (o_move rfl) ?_
    refine WPl.v rfl (o_move rfl) ?_
    refine WPl.v rfl (o_ldpa G84 rfl rfl rfl) ?_
    refine WPl.v rfl (o_ldpa G86 rfl rfl rfl) ?_
    refine WPl.cL (X' := []) 8 rfl rfl rfl rfl rfl (o_sigx 8 (ren [(0, 0)]) 1 (c67 f b n night p left hf hnt hn0 hp.ch hl (fun k hk p left h1 h2 => c43 f b k (night + 1) p left hf (by omega) (by omega) h1 h2)) memoXP.plain e67 rfl rfl rfl SvsOK.rf w67 ⟨(lx rfl), trivial⟩ r67) ?_
    refine WPl.v rfl (o_assign rfl) ?_
    refine WPl.nil (EX.then (WP.ret (EX.ret_then ?_)))
    rw [show f.ahW n night p left = f.chW n night p left from if_pos (by simpa using hc1)]
    exact EX.finX id 1 rfl (.inl rfl) rfl (.tmp rfl .nil) rfl (by simp [SV.res, El.res, At.res, keys]) trivial rfl (by simp) (by simp)
  · try simp only [cnd] at hc1
    have hno : ¬ (night = f.nights.length ∨ (nth f.nights night).test = 0) := by simpa using hc1
    refine WP.skip (EX.then (WP.seq (WP.region ?_)))
    refine WPl.v rfl (o_assign rfl) ?_
    refine WPl.nil (EX.then (WP.seq (WP.region ?_)))
    refine WPl.v rfl (o_assign rfl) ?_
    refine WPl.nil (EX.then (WP.seq (WP.seq (WP.region ?_))))
    refine WPl.v rfl (o_fldp F84_1 rfl) ?_
    refine WPl.v rfl (o_fldp F23_0 rfl) ?_
    refine WPl.v rfl (o_ldp S3 rfl rfl rfl) ?_
    refine WPl.v rfl (o_assign rfl) ?_
    refine WPl.nil (EX.then (WP.block ?_))
    refine WP.loop (Gh := Nat) (fun i => ⟨8, [(0, .e (.a (.q 0))), (1, .i (night)), (6, .e (.a (.p 2 (0)))), (7, .e (.a (.p 3 (0)))), (8, .i (0)), (9, .i (wi3 (fun t a d => f.chW n night (p.one t a d) left) (⟨p.tl, p.th, p.al, p.ah, p.dl, p.dh⟩ : Sp) i)), (10, .e (.a (.f 68 []))), (11, .i (p.tl + (i : Int)))], [(0, PP (EWk (some b)) (f))], [(1, .ext (memoXP true 12 b (MemoK f))), (2, .blk [ai (p.pounds), ai (p.tl), ai (p.th), ai (p.al), ai (p.ah), ai (p.dl), ai (p.dh)] 84), (3, .blk [ai (nth left 0), ai (nth left 1), ai (nth left 2), ai (nth left 3)] 86)], [], []⟩) (fun i => i ≤ (p.th - p.tl + 1).toNat) (fun i => (p.th - p.tl + 1).toNat - i) (0) id ?_ (LeR.of ⟨rfl, rfl, rfl, rfl, rfl, rfl, rfl, (congrArg (fun z => some (SV.i z)) (show (p.tl) = ((fun i => p.tl + (i : Int)) 0) from by simp)), trivial⟩ ⟨(lx rfl), trivial⟩ ⟨rfl, rfl, rfl, trivial⟩ rfl rfl rfl rfl rfl) ?_
    · first | trivial | omega | (constructor <;> omega) | simp
    intro i hφ
    have hi : i ≤ (p.th - p.tl + 1).toNat := hφ
    refine WP.seq (WP.seq (WP.region ?_))
    refine WPl.v rfl (o_move rfl) ?_
    refine WPl.v rfl (o_fldp F84_1 rfl) ?_
    refine WPl.v rfl (o_fldp F23_1 rfl) ?_
    refine WPl.v rfl (o_ldp S3 rfl rfl rfl) ?_
    refine WPl.v rfl (o_leq rfl rfl) ?_
    refine WPl.nil (EX.then ?_)
    refine WP.cond rfl (fun hc2 => ?_) (fun hc2 => ?_)
    · try simp only [cnd] at hc2
      refine WP.skip (EX.then (WP.seq (WP.block (WP.seq (WP.region ?_)))))
      refine WPl.v rfl (o_fldp F84_2 rfl) ?_
      refine WPl.v rfl (o_fldp F23_0 rfl) ?_
      refine WPl.v rfl (o_ldp S3 rfl rfl rfl) ?_
      refine WPl.v rfl (o_assign rfl) ?_
      refine WPl.nil (EX.then (WP.block ?_))
      refine WP.loop (Gh := Nat) (fun j => ⟨8, [(0, .e (.a (.q 0))), (1, .i (night)), (6, .e (.a (.p 2 (0)))), (7, .e (.a (.p 3 (0)))), (8, .i (0)), (9, .i (wj3 (fun t a d => f.chW n night (p.one t a d) left) (⟨p.tl, p.th, p.al, p.ah, p.dl, p.dh⟩ : Sp) (p.tl + (i : Int)) (wi3 (fun t a d => f.chW n night (p.one t a d) left) (⟨p.tl, p.th, p.al, p.ah, p.dl, p.dh⟩ : Sp) i) j)), (10, .e (.a (.f 68 []))), (11, .i (p.tl + (i : Int))), (42, .i (p.tl + (i : Int))), (43, .e (.a (.p 2 (1)))), (44, .e (.a (.p 2 (2)))), (45, .i (p.th)), (46, .b (decide ((p.tl + (i : Int)) ≤ p.th))), (49, .e (.a (.p 2 (3)))), (50, .e (.a (.p 2 (3)))), (51, .i (p.al)), (12, .i (p.al + (j : Int)))], [(0, PP (EWk (some b)) (f))], [(1, .ext (memoXP true 12 b (MemoK f))), (2, .blk [ai (p.pounds), ai (p.tl), ai (p.th), ai (p.al), ai (p.ah), ai (p.dl), ai (p.dh)] 84), (3, .blk [ai (nth left 0), ai (nth left 1), ai (nth left 2), ai (nth left 3)] 86)], [], []⟩) (fun j => j ≤ (p.ah - p.al + 1).toNat) (fun j => (p.ah - p.al + 1).toNat - j) (0) id ?_ (LeR.of ⟨rfl, rfl, rfl, rfl, rfl, rfl, rfl, rfl, rfl, rfl, rfl, rfl, rfl, rfl, rfl, rfl, (congrArg (fun z => some (SV.i z)) (show (p.al) = ((fun j => p.al + (j : Int)) 0) from by simp)), trivial⟩ ⟨(lx rfl), trivial⟩ ⟨rfl, rfl, rfl, trivial⟩ rfl rfl rfl rfl rfl) ?_
      · first | trivial | omega | (constructor <;> omega) | simp
      intro j hφ
      have hj : j ≤ (p.ah - p.al + 1).toNat := hφ
      refine WP.seq (WP.seq (WP.region ?_))
      refine WPl.v rfl (o_move rfl) ?_
      refine WPl.v rfl (o_fldp F84_2 rfl) ?_
      refine WPl.v rfl (o_fldp F23_1 rfl) ?_
      refine WPl.v rfl (o_ldp S3 rfl rfl rfl) ?_
      refine WPl.v rfl (o_leq rfl rfl) ?_
      refine WPl.nil (EX.then ?_)
      refine WP.cond rfl (fun hc3 => ?_) (fun hc3 => ?_)
      · try simp only [cnd] at hc3
        refine WP.skip (EX.then (WP.seq (WP.block (WP.seq (WP.region ?_)))))
        refine WPl.v rfl (o_fldp F84_3 rfl) ?_
        refine WPl.v rfl (o_fldp F23_0 rfl) ?_
        refine WPl.v rfl (o_ldp S3 rfl rfl rfl) ?_
        refine WPl.v rfl (o_assign rfl) ?_
        refine WPl.nil (EX.then (WP.block ?_))
        refine WP.loop (Gh := Nat) (fun k => ⟨8, [(0, .e (.a (.q 0))), (1, .i (night)), (6, .e (.a (.p 2 (0)))), (7, .e (.a (.p 3 (0)))), (8, .i (0)), (9, .i (wk3 (fun t a d => f.chW n night (p.one t a d) left) (⟨p.tl, p.th, p.al, p.ah, p.dl, p.dh⟩ : Sp) (p.tl + (i : Int)) (p.al + (j : Int)) (wj3 (fun t a d => f.chW n night (p.one t a d) left) (⟨p.tl, p.th, p.al, p.ah, p.dl, p.dh⟩ : Sp) (p.tl + (i : Int)) (wi3 (fun t a d => f.chW n night (p.one t a d) left) (⟨p.tl, p.th, p.al, p.ah, p.dl, p.dh⟩ : Sp) i) j) k)), (10, .e (.a (.f 68 []))), (11, .i (p.tl + (i : Int))), (42, .i (p.tl + (i : Int))), (43, .e (.a (.p 2 (1)))), (44, .e (.a (.p 2 (2)))), (45, .i (p.th)), (46, .b (decide ((p.tl + (i : Int)) ≤ p.th))), (49, .e (.a (.p 2 (3)))), (50, .e (.a (.p 2 (3)))), (51, .i (p.al)), (12, .i (p.al + (j : Int))), (52, .i (p.al + (j : Int))), (53, .e (.a (.p 2 (3)))), (54, .e (.a (.p 2 (4)))), (55, .i (p.ah)), (56, .b (decide ((p.al + (j : Int)) ≤ p.ah))), (59, .e (.a (.p 2 (5)))), (60, .e (.a (.p 2 (5)))), (61, .i (p.dl)), (13, .i (p.dl + (k : Int)))], [(0, PP (EWk (some b)) (f))], [(1, .ext (memoXP true 12 b (MemoK f))), (2, .blk [ai (p.pounds), ai (p.tl), ai (p.th), ai (p.al), ai (p.ah), ai (p.dl), ai (p.dh)] 84), (3, .blk [ai (nth left 0), ai (nth left 1), ai (nth left 2), ai (nth left 3)] 86)], [], []⟩) (fun k => k ≤ (p.dh - p.dl + 1).toNat) (fun k => (p.dh - p.dl + 1).toNat - k) (0) id ?_ (LeR.of ⟨rfl, rfl, rfl, rfl, rfl, rfl, rfl, rfl, rfl, rfl, rfl, rfl, rfl, rfl, rfl, rfl, rfl, rfl, rfl, rfl, rfl, rfl, rfl, rfl, rfl, (congrArg (fun z => some (SV.i z)) (show (p.dl) = ((fun k => p.dl + (k : Int)) 0) from by simp)), trivial⟩ ⟨(lx rfl), trivial⟩ ⟨rfl, rfl, rfl, trivial⟩ rfl rfl rfl rfl rfl) ?_
        · first | trivial | omega | (constructor <;> omega) | simp
        intro k hφ
        have hk : k ≤ (p.dh - p.dl + 1).toNat := hφ
        refine WP.seq (WP.seq (WP.region ?_))
        refine WPl.v rfl (o_move rfl) ?_
        refine WPl.v rfl (o_fldp F84_3 rfl) ?_
        refine WPl.v rfl (o_fldp F23_1 rfl) ?_
        refine WPl.v rfl (o_ldp S3 rfl rfl rfl) ?_
        refine WPl.v rfl (o_leq rfl rfl) ?_
        refine WPl.nil (EX.then ?_)
        refine WP.cond rfl (fun hc4 => ?_) (fun hc4 => ?_)
        · try simp only [cnd] at hc4
          refine WP.skip (EX.then (WP.seq (WP.block ?_)))
          refine WP.draw (nf := 8) [⟨[70, 71, 72, 73, 74, 75, 76, 77, 78, 79, 80, 81, 82, 83, 84, 85, 86], [1], [], [], []⟩, ⟨[69, 71, 72, 73, 74, 75, 76, 77, 78, 79, 80, 81, 82, 83, 84, 85], [], [], [], []⟩, ⟨[69, 70, 72, 73, 74, 75, 76, 77, 78, 79, 80, 81, 82, 83, 84, 85], [], [], [], []⟩, ⟨[69, 70, 71, 74, 76, 77, 78, 79, 80, 81, 82, 83, 85], [], [], [], []⟩, ⟨[69, 70, 71, 74, 76, 77, 78, 79, 80, 81, 82, 83, 85], [], [], [], [3]⟩, ⟨[69, 70, 71, 72, 73, 76, 77, 78, 79, 80, 81, 82, 83, 85], [], [], [], []⟩, ⟨[69, 70, 71, 76, 77, 78, 79, 80, 81, 82, 83, 85], [], [], [], [3, 4, 5]⟩, ⟨[69, 70, 71, 72, 73, 74, 75, 77, 78, 79, 81, 82, 85], [], [], [], []⟩, ⟨[69, 70, 71, 72, 73, 74, 75, 76, 78, 81, 82, 85], [], [], [], []⟩, ⟨[69, 70, 71, 72, 73, 74, 75, 76, 77, 81, 82, 85], [], [], [], []⟩, ⟨[69, 70, 71, 72, 73, 74, 75, 76, 81, 82, 85], [], [], [], [8, 9]⟩, ⟨[69, 70, 71, 72, 73, 74, 75, 81, 82, 85], [], [], [], [7, 8, 9, 10]⟩, ⟨[69, 70, 71, 72, 73, 74, 75, 76, 77, 78, 79, 80, 82, 85], [], [], [], []⟩, ⟨[69, 70, 71, 72, 73, 74, 75, 76, 77, 78, 79, 80, 81, 85], [], [], [], []⟩, ⟨[69, 70, 71, 72, 73, 74, 75, 85], [], [], [], [7, 8, 9, 10, 11, 12, 13]⟩, ⟨[69, 70, 71, 85], [], [], [], [3, 4, 5, 6, 7, 8, 9, 10, 11, 12, 13, 14]⟩, ⟨[69, 70, 71, 72, 73, 74, 75, 76, 77, 78, 79, 80, 81, 82, 83, 84], [], [], [], []⟩, ⟨[69], [], [], [1], [1, 2, 3, 4, 5, 6, 7, 8, 9, 10, 11, 12, 13, 14, 15, 16]⟩, ⟨[], [], [], [], [0, 1, 2, 3, 4, 5, 6, 7, 8, 9, 10, 11, 12, 13, 14, 15, 16, 17]⟩, ⟨[], [], [], [], [0, 1, 2, 3, 4, 5, 6, 7, 8, 9, 10, 11, 12, 13, 14, 15, 16, 17, 18]⟩] (by kernel_rfl) (by kernel_rfl) ?_
          refine DRQ.v rfl rfl rfl (o_move rfl) ?_
          refine DRQ.v rfl rfl rfl (o_move rfl) ?_
          refine DRQ.v rfl rfl rfl (o_move rfl) ?_
          refine DRQ.v rfl rfl rfl (o_fldp F84_0 rfl) ?_
          refine DRQ.v rfl rfl rfl (o_ldp S3 rfl rfl rfl) ?_
          refine DRQ.v rfl rfl rfl (o_move rfl) ?_
          refine DRQ.v rfl rfl rfl (o_sub rfl rfl (by first | omega | (simp; omega)) (by first | omega | (simp; omega))) ?_
          refine DRQ.v rfl rfl rfl (o_move rfl) ?_
          refine DRQ.v rfl rfl rfl (o_move rfl) ?_
          refine DRQ.v rfl rfl rfl (o_move rfl) ?_
          refine DRQ.v rfl rfl rfl (o_sub rfl rfl (by first | omega | (simp; omega)) (by first | omega | (simp; omega))) ?_
          refine DRQ.cs rfl rfl rfl rfl (o_sigt rfl 8 id (c68 ((p.tl + (i : Int)) - (p.dl + (k : Int)))) e68 rfl rfl rfl w68 trivial r68) ?_
          refine DRQ.v rfl rfl rfl (o_move rfl) ?_
          refine DRQ.v rfl rfl rfl (o_move rfl) ?_
          refine DRQ.cs rfl rfl rfl rfl (o_sigt rfl 8 id (c68 (p.al + (j : Int))) e68 rfl rfl rfl w68 trivial r68) ?_
          refine DRQ.v rfl rfl rfl (o_build B84 rfl ⟨rfl, trivial⟩ rfl rfl) ?_
          refine DRQ.v rfl rfl rfl (o_ldpa G86 rfl rfl rfl) ?_
          refine DRQ.cL (X' := []) rfl rfl rfl rfl (o_sigx 8 (ren [(0, 0)]) 1 (c67 f b n night (p.one (p.tl + (i : Int)) (p.al + (j : Int)) (p.dl + (k : Int))) left hf hnt hn0 (hp.one hn0 (by omega) (by omega) (by omega) (by omega) (by omega) (by omega) (by omega)) hl (fun k hk p left h1 h2 => c43 f b k (night + 1) p left hf (by omega) (by omega) h1 h2)) memoXP.plain e67 rfl rfl rfl SvsOK.rf w67 ⟨(lx rfl), trivial⟩ r67) ?_
          refine DRQ.v rfl rfl rfl (o_max rfl rfl) ?_
          refine DRQ.v rfl rfl rfl (o_assign rfl) ?_
          refine DRQ.nil' ?_
          refine EX.blk (EX.then (WP.region ?_))
          refine WPl.v rfl (o_move rfl) ?_
          refine WPl.v rfl (o_add rfl rfl (by first | omega | (simp; omega)) (by first | omega | (simp; omega))) ?_
          refine WPl.v rfl (o_assign rfl) ?_
          refine WPl.nil ?_
          refine EX.again (k + 1) id (by first | omega | (constructor <;> omega)) (by omega) (LeR.of ⟨rfl, rfl, rfl, rfl, rfl, (congrArg (fun z => some (SV.i z)) (show (max (wk3 (fun t a d => f.chW n night (p.one t a d) left) (⟨p.tl, p.th, p.al, p.ah, p.dl, p.dh⟩ : Sp) (p.tl + (i : Int)) (p.al + (j : Int)) (wj3 (fun t a d => f.chW n night (p.one t a d) left) (⟨p.tl, p.th, p.al, p.ah, p.dl, p.dh⟩ : Sp) (p.tl + (i : Int)) (wi3 (fun t a d => f.chW n night (p.one t a d) left) (⟨p.tl, p.th, p.al, p.ah, p.dl, p.dh⟩ : Sp) i) j) k) (f.chW n night (p.one (p.tl + (i : Int)) (p.al + (j : Int)) (p.dl + (k : Int))) left)) = ((fun k => wk3 (fun t a d => f.chW n night (p.one t a d) left) (⟨p.tl, p.th, p.al, p.ah, p.dl, p.dh⟩ : Sp) (p.tl + (i : Int)) (p.al + (j : Int)) (wj3 (fun t a d => f.chW n night (p.one t a d) left) (⟨p.tl, p.th, p.al, p.ah, p.dl, p.dh⟩ : Sp) (p.tl + (i : Int)) (wi3 (fun t a d => f.chW n night (p.one t a d) left) (⟨p.tl, p.th, p.al, p.ah, p.dl, p.dh⟩ : Sp) i) j) k) (k + 1)) from rfl)), rfl, rfl, rfl, rfl, rfl, rfl, rfl, rfl, rfl, rfl, rfl, rfl, rfl, rfl, rfl, rfl, rfl, rfl, rfl, (congrArg (fun z => some (SV.i z)) (show ((p.dl + (k : Int)) + 1) = ((fun k => p.dl + (k : Int)) (k + 1)) from by show p.dl + (k : Int) + 1 = p.dl + ((k + 1 : Nat) : Int); omega)), trivial⟩ ⟨(lx rfl), trivial⟩ ⟨rfl, rfl, rfl, trivial⟩ rfl rfl rfl rfl rfl)
        · try simp only [cnd] at hc4
          refine WP.exit (EX.exit_then (EX.exit_then (EX.exit_blk (EX.blk (EX.then (WP.region ?_))))))
          refine WPl.v rfl (o_move rfl) ?_
          refine WPl.v rfl (o_add rfl rfl (by first | omega | (simp; omega)) (by first | omega | (simp; omega))) ?_
          refine WPl.v rfl (o_assign rfl) ?_
          refine WPl.nil ?_
          refine EX.again (j + 1) id (by first | omega | (constructor <;> omega)) (by omega) (LeR.of ⟨rfl, rfl, rfl, rfl, rfl, (congrArg (fun z => some (SV.i z)) (show (wk3 (fun t a d => f.chW n night (p.one t a d) left) (⟨p.tl, p.th, p.al, p.ah, p.dl, p.dh⟩ : Sp) (p.tl + (i : Int)) (p.al + (j : Int)) (wj3 (fun t a d => f.chW n night (p.one t a d) left) (⟨p.tl, p.th, p.al, p.ah, p.dl, p.dh⟩ : Sp) (p.tl + (i : Int)) (wi3 (fun t a d => f.chW n night (p.one t a d) left) (⟨p.tl, p.th, p.al, p.ah, p.dl, p.dh⟩ : Sp) i) j) k) = ((fun j => wj3 (fun t a d => f.chW n night (p.one t a d) left) (⟨p.tl, p.th, p.al, p.ah, p.dl, p.dh⟩ : Sp) (p.tl + (i : Int)) (wi3 (fun t a d => f.chW n night (p.one t a d) left) (⟨p.tl, p.th, p.al, p.ah, p.dl, p.dh⟩ : Sp) i) j) (j + 1)) from by rw [show k = (p.dh - p.dl + 1).toNat by omega]; rfl)), rfl, rfl, rfl, rfl, rfl, rfl, rfl, rfl, rfl, rfl, (congrArg (fun z => some (SV.i z)) (show ((p.al + (j : Int)) + 1) = ((fun j => p.al + (j : Int)) (j + 1)) from by show p.al + (j : Int) + 1 = p.al + ((j + 1 : Nat) : Int); omega)), trivial⟩ ⟨(lx rfl), trivial⟩ ⟨rfl, rfl, rfl, trivial⟩ rfl rfl rfl rfl rfl)
      · try simp only [cnd] at hc3
        refine WP.exit (EX.exit_then (EX.exit_then (EX.exit_blk (EX.blk (EX.then (WP.region ?_))))))
        refine WPl.v rfl (o_move rfl) ?_
        refine WPl.v rfl (o_add rfl rfl (by first | omega | (simp; omega)) (by first | omega | (simp; omega))) ?_
        refine WPl.v rfl (o_assign rfl) ?_
        refine WPl.nil ?_
        refine EX.again (i + 1) id (by first | omega | (constructor <;> omega)) (by omega) (LeR.of ⟨rfl, rfl, rfl, rfl, rfl, (congrArg (fun z => some (SV.i z)) (show (wj3 (fun t a d => f.chW n night (p.one t a d) left) (⟨p.tl, p.th, p.al, p.ah, p.dl, p.dh⟩ : Sp) (p.tl + (i : Int)) (wi3 (fun t a d => f.chW n night (p.one t a d) left) (⟨p.tl, p.th, p.al, p.ah, p.dl, p.dh⟩ : Sp) i) j) = ((fun i => wi3 (fun t a d => f.chW n night (p.one t a d) left) (⟨p.tl, p.th, p.al, p.ah, p.dl, p.dh⟩ : Sp) i) (i + 1)) from by rw [show j = (p.ah - p.al + 1).toNat by omega]; rfl)), rfl, (congrArg (fun z => some (SV.i z)) (show ((p.tl + (i : Int)) + 1) = ((fun i => p.tl + (i : Int)) (i + 1)) from by show p.tl + (i : Int) + 1 = p.tl + ((i + 1 : Nat) : Int); omega)), trivial⟩ ⟨(lx rfl), trivial⟩ ⟨rfl, rfl, rfl, trivial⟩ rfl rfl rfl rfl rfl)
    · try simp only [cnd] at hc2
      refine WP.exit (EX.exit_then (EX.exit_then (EX.exit_blk (EX.then (WP.seq (WP.region ?_))))))
      refine WPl.v rfl (o_move rfl) ?_
      refine WPl.v rfl (o_assign rfl) ?_
      refine WPl.nil (EX.then (WP.ret ?_))
      have he : i = (p.th - p.tl + 1).toNat := by omega
      subst he
      rw [show f.ahW n night p left = wi3 (fun t a d => f.chW n night (p.one t a d) left) (⟨p.tl, p.th, p.al, p.ah, p.dl, p.dh⟩ : Sp) (p.th - p.tl + 1).toNat from by unfold Fnd.ahW Fnd.aheadOf; rw [if_neg hno]; rfl]
      exact EX.finX id 1 rfl (.inl rfl) rfl (.tmp rfl .nil) rfl (by simp [SV.res, El.res, At.res, keys]) trivial rfl (by simp) (by simp)
termination_by n
decreasing_by all_goals omega
theorem w18 {f : Fnd} : ∀ x ∈ ([.e (.g [ai (f.shop.pounds), ai (f.shop.tl), ai (f.shop.th), ai (f.shop.al), ai (f.shop.ah), ai (f.shop.room), ai (f.shop.tpl), ai (f.shop.tph), ai (f.shop.apl), ai (f.shop.aph), .q 0, .q 1])] : List SV), x.res (keys (α := Pred) [(0, PL EPig (f.shop.pigs)), (1, PL ENight (f.nights))]) := by simp [SV.res, El.res, At.res, keys]
theorem r18 {f : Fnd} : SV.res (keys (α := Pred) []) (.t [.a (ai (f.wKnownV)), .a (ai (f.wKnownE))]) := by simp [SV.res, El.res, At.res, keys]
set_option maxHeartbeats 4000000 in
theorem c18 (f : Fnd) (hl : f.shop.pigs.length ≤ 40) : Sig Try.prog 18 [.e (.g [ai (f.shop.pounds), ai (f.shop.tl), ai (f.shop.th), ai (f.shop.al), ai (f.shop.ah), ai (f.shop.room), ai (f.shop.tpl), ai (f.shop.tph), ai (f.shop.apl), ai (f.shop.aph), .q 0, .q 1])] [(0, PL EPig (f.shop.pigs)), (1, PL ENight (f.nights))] (.t [.a (ai (f.wKnownV)), .a (ai (f.wKnownE))]) [] := by
  rcases Bool.eq_false_or_eq_true f.chk with hf | hf
  · skip
    refine Sig.intro Try.func18 rfl 2 [(0, .e (.g [ai (f.shop.pounds), ai (f.shop.tl), ai (f.shop.th), ai (f.shop.al), ai (f.shop.ah), ai (f.shop.room), ai (f.shop.tpl), ai (f.shop.tph), ai (f.shop.apl), ai (f.shop.aph), .q 0, .q 1]))] rfl w18 rfl rfl fun I w => ?_
    refine WP.seq (WP.region ?_)
    refine WPl.l 2 3 rfl rfl rfl (o_boxg rfl) ?_
    refine WPl.v rfl (o_assign rfl) ?_
    refine WPl.v rfl (o_assign rfl) ?_
    refine WPl.nil (EX.then (WP.seq (WP.region ?_)))
    refine WPl.v rfl (o_ldpa G31 rfl rfl rfl) ?_
    refine WPl.cM 5 (o_sigm (J := [0]) 3 4 (ren [(0, 0), (1, 1)]) (c34N f hf) e34 rfl rfl SvsOK.rf w34N ⟨(lx rfl), (lx rfl), trivial⟩ (fun _ => rfl) (by simp [SV.res, El.res, At.res, keys]) rfl) rfl rfl rfl fun b11 => ?_
    refine WPl.v rfl (o_move rfl) ?_
    refine WPl.v rfl (o_extract rfl rfl) ?_
    refine WPl.v rfl (o_extract rfl rfl) ?_
    refine WPl.v rfl (o_assign rfl) ?_
    refine WPl.v rfl (o_assign rfl) ?_
    refine WPl.nil (EX.then (WP.seq (WP.seq (WP.region ?_))))
    refine WPl.v rfl (o_move rfl) ?_
    refine WPl.v rfl (o_neq rfl rfl) ?_
    refine WPl.nil (EX.then ?_)
    refine WP.cond rfl (fun hc1 => ?_) (fun hc1 => ?_)
    · try simp only [cnd] at hc1
      simp at hc1
    · try simp only [cnd] at hc1
      have hcb := Fnd.chkB hf
      have hpg := Shop.pigsOK (Fnd.shopOK hf)
      refine WP.imp (Imp.closeX (km := 4) (Kp := (MemoK f)) rfl (fun p hp => by cases hp)) ?_
      refine WP.skip (EX.then (WP.seq (WP.region ?_)))
      refine WPl.v rfl (o_move rfl) ?_
      refine WPl.cs 5 rfl rfl rfl rfl (o_sig 5 (ren [(0, 3)]) (c37 f (some b11) (by omega)) e37 rfl rfl rfl w37 ⟨(lx rfl), trivial⟩ r37) ?_
      refine WPl.v rfl (o_move rfl) ?_
      refine WPl.v rfl (o_extract rfl rfl) ?_
      refine WPl.v rfl (o_extract rfl rfl) ?_
      refine WPl.l 5 6 rfl rfl rfl (o_alloc Z84) ?_
      refine WPl.l 6 7 rfl rfl rfl (o_alloc Z86) ?_
      refine WPl.s1 (o_stag G84 rfl rfl rfl ⟨rfl, rfl, rfl, rfl, rfl, rfl, rfl, trivial⟩ rfl rfl) ?_
      refine WPl.s1 (o_stag G86 rfl rfl rfl ⟨rfl, rfl, rfl, rfl, trivial⟩ rfl rfl) ?_
      refine WPl.nil (EX.then (WP.seq (WP.region ?_)))
      refine WPl.v rfl (o_move rfl) ?_
      refine WPl.v rfl (o_ldpa G84 rfl rfl rfl) ?_
      refine WPl.v rfl (o_ldpa G86 rfl rfl rfl) ?_
      refine WPl.cL (X' := []) 7 rfl rfl rfl rfl rfl (o_sigx 7 (ren [(0, 3)]) 4 (c43 f b11 f.nights.length 0 f.pt0 (left0 f.shop.pigs) hf (by omega) (by omega) ⟨PtB.mono (pt0_bnd hf) (by omega), by simp [Fnd.pt0], by simp [Fnd.pt0]⟩ (left0_b hpg)) memoXP.plain e43 rfl rfl rfl SvsOK.rf w43 ⟨(lx rfl), trivial⟩ r43) ?_
      refine WPl.v rfl (o_assign rfl) ?_
      refine WPl.nil (EX.then (WP.seq (WP.seq (WP.region ?_))))
      refine WPl.v rfl (o_move rfl) ?_
      refine WPl.v rfl (o_geq rfl rfl) ?_
      refine WPl.nil (EX.then ?_)
      refine WP.cond rfl (fun hc2 => ?_) (fun hc2 => ?_)
      · try simp only [cnd] at hc2
        have hkn : f.wKnownN ≥ neverC := hc2
        refine WP.seq (WP.region ?_)
        refine WPl.v rfl (o_assign rfl) ?_
        refine WPl.v rfl (o_assign rfl) ?_
        refine WPl.nil (EX.then (WP.ret (EX.ret_then ?_)))
        have hE : f.wKnownE = 3 := by simp only [Fnd.wKnownE, hf]; rw [if_pos hkn]; rfl
        rw [hE, show f.wKnownV = 0 from by simp [Fnd.wKnownV, hE]]
        exact EX.fin id (.inl rfl) rfl (.tmp rfl (.tmp rfl .nil)) rfl (by simp [SV.res, El.res, At.res, keys]) trivial (by simp) (by simp)
      · try simp only [cnd] at hc2
        have hkn : ¬ f.wKnownN ≥ neverC := hc2
        refine WP.skip (EX.then (WP.seq (WP.region ?_)))
        refine WPl.v rfl (o_move rfl) ?_
        refine WPl.v rfl (o_assign rfl) ?_
        refine WPl.v rfl (o_assign rfl) ?_
        refine WPl.nil (EX.then (WP.ret ?_))
        have hE : f.wKnownE = 0 := by simp only [Fnd.wKnownE, hf]; rw [if_neg hkn]; rfl
        rw [hE, show f.wKnownV = f.wKnownN from by simp [Fnd.wKnownV, hE]]
        exact EX.fin id (.inl rfl) rfl (.tmp rfl (.tmp rfl .nil)) rfl (by simp [SV.res, El.res, At.res, keys]) trivial (by simp) (by simp)
  · skip
    refine Sig.intro Try.func18 rfl 2 [(0, .e (.g [ai (f.shop.pounds), ai (f.shop.tl), ai (f.shop.th), ai (f.shop.al), ai (f.shop.ah), ai (f.shop.room), ai (f.shop.tpl), ai (f.shop.tph), ai (f.shop.apl), ai (f.shop.aph), .q 0, .q 1]))] rfl w18 rfl rfl fun I w => ?_
    refine WP.seq (WP.region ?_)
    refine WPl.l 2 3 rfl rfl rfl (o_boxg rfl) ?_
    refine WPl.v rfl (o_assign rfl) ?_
    refine WPl.v rfl (o_assign rfl) ?_
    refine WPl.nil (EX.then (WP.seq (WP.region ?_)))
    refine WPl.v rfl (o_ldpa G31 rfl rfl rfl) ?_
    refine WPl.cs 3 rfl rfl rfl rfl (o_sig 3 (ren [(0, 0), (1, 1)]) (c34NE f hf hl) e34 rfl rfl rfl w34NE ⟨(lx rfl), (lx rfl), trivial⟩ r34NE) ?_
    refine WPl.v rfl (o_move rfl) ?_
    refine WPl.v rfl (o_extract rfl rfl) ?_
    refine WPl.v rfl (o_extract rfl rfl) ?_
    refine WPl.v rfl (o_assign rfl) ?_
    refine WPl.v rfl (o_assign rfl) ?_
    refine WPl.nil (EX.then (WP.seq (WP.seq (WP.region ?_))))
    refine WPl.v rfl (o_move rfl) ?_
    refine WPl.v rfl (o_neq rfl rfl) ?_
    refine WPl.nil (EX.then ?_)
    refine WP.cond rfl (fun hc1 => ?_) (fun hc1 => ?_)
    · try simp only [cnd] at hc1
      refine WP.seq (WP.region ?_)
      refine WPl.v rfl (o_move rfl) ?_
      refine WPl.v rfl (o_assign rfl) ?_
      refine WPl.v rfl (o_assign rfl) ?_
      refine WPl.nil (EX.then (WP.ret (EX.ret_then ?_)))
      have hE : f.wKnownE = 130 := by simp only [Fnd.wKnownE, hf]; rfl
      rw [hE, show f.wKnownV = 0 from by simp [Fnd.wKnownV, hE]]
      exact EX.fin id (.inl rfl) rfl (.tmp rfl (.tmp rfl .nil)) rfl (by simp [SV.res, El.res, At.res, keys]) trivial (by simp) (by simp)
    · try simp only [cnd] at hc1
      simp at hc1
end Go.Flong
