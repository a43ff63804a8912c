/- Walks (printed by gen.py off the specs). -/
import Derived.Test.YtglbnodjcngefaaEO1
import Derived.Test.YtglbnodjcngefaaBase11
import Derived.Test.YtglbnodjcngefaaProg
set_option linter.unusedSimpArgs false
set_option linter.unusedVariables false
namespace Go.Flong
open Go Go.Eng Go.Proofs
theorem e32 : Enters' Try.prog 32 := Try.call32
theorem e16 : Enters' Try.prog 16 := Try.call16
theorem e56 : Enters' Try.prog 56 := Try.call56
theorem F71_2 : Fld Try.prog 71 2 4 := .mk Try.underlying71 rfl rfl rfl Try.sizeOf3 rfl
theorem e54 : Enters' Try.prog 54 := Try.call54
theorem F71_0 : Fld Try.prog 71 0 0 := .mk Try.underlying71 rfl rfl rfl Try.sizeOf23 rfl
theorem e55 : Enters' Try.prog 55 := Try.call55
theorem F71_1 : Fld Try.prog 71 1 2 := .mk Try.underlying71 rfl rfl rfl Try.sizeOf23 rfl
theorem F71_3 : Fld Try.prog 71 3 5 := .mk Try.underlying71 rfl rfl rfl Try.sizeOf23 rfl
theorem e33 : Enters' Try.prog 33 := Try.call33
theorem e18 : Enters' Try.prog 18 := Try.call18
theorem w8 {f : Fnd} : ∀ x ∈ ([.e (.g [ai (f.shop.pounds), ai (f.shop.tl), ai (f.shop.th), ai (f.shop.al), ai (f.shop.ah), ai (f.shop.room), ai (f.shop.tpl), ai (f.shop.tph), ai (f.shop.apl), ai (f.shop.aph), .q 0, .q 1])] : List SV), x.res (keys (α := Pred) [(0, PL EPig (f.shop.pigs)), (1, PL ENight (f.nights))]) := by simp [SV.res, El.res, At.res, keys]
theorem r8  : SV.res (keys (α := Pred) []) (.b (true)) := by simp [SV.res, El.res, At.res, keys]
set_option maxHeartbeats 4000000 in
theorem c8 (f : Fnd) (hlaw : f.chk = true → 0 < f.nights.length → CutLaw f) : Sig Try.prog 8 [.e (.g [ai (f.shop.pounds), ai (f.shop.tl), ai (f.shop.th), ai (f.shop.al), ai (f.shop.ah), ai (f.shop.room), ai (f.shop.tpl), ai (f.shop.tph), ai (f.shop.apl), ai (f.shop.aph), .q 0, .q 1])] [(0, PL EPig (f.shop.pigs)), (1, PL ENight (f.nights))] (.b (true)) [] := by
  refine Sig.intro Try.func8 rfl 2 [(0, .e (.g [ai (f.shop.pounds), ai (f.shop.tl), ai (f.shop.th), ai (f.shop.al), ai (f.shop.ah), ai (f.shop.room), ai (f.shop.tpl), ai (f.shop.tph), ai (f.shop.apl), ai (f.shop.aph), .q 0, .q 1]))] rfl w8 rfl rfl fun I w => ?_
  refine WP.seq ?_
  refine WP.region ?_
  refine WPl.l 2 3 rfl rfl rfl (o_boxg rfl) ?_
  refine WPl.v rfl (o_assign rfl) ?_
  refine WPl.nil ?_
  refine EX.then ?_
  refine WP.seq ?_
  refine WP.seq ?_
  refine WP.region ?_
  refine WPl.v rfl (o_ldpa G31 rfl rfl rfl) ?_
  refine WPl.cs 3 rfl rfl rfl rfl (o_sig 3 (ren [(0, 0), (1, 1)]) (c32 f) e32 rfl rfl rfl w32 ⟨(lx rfl), (lx rfl), trivial⟩ r32) ?_
  refine WPl.v rfl (o_not rfl) ?_
  refine WPl.v rfl (o_move rfl) ?_
  refine WPl.bit 3 4 (!(!f.rdy)) rfl rfl ?_
  refine WPl.gv 3 rfl rfl (.plain rfl (by simp) rfl) (fun hb => o_fldp F31_1 rfl) ?_
  refine WPl.gv 3 rfl rfl (.plain rfl (by simp) rfl) (fun hb => o_ldp S29 rfl rfl rfl) ?_
  refine WPl.gv 3 rfl rfl (.plain rfl (by simp) rfl) (fun hb => o_lenq L29 rfl (lx rfl)) ?_
  refine WPl.gv 3 rfl rfl (.plain rfl (by simp) rfl) (fun hb => o_eql rfl rfl) ?_
  refine WPl.v rfl (o_or rfl rfl rfl (by first | (simp; done) | simp_all)) ?_
  refine WPl.nil ?_
  refine EX.then ?_
  refine WP.cond rfl (fun hc1 => ?_) (fun hc1 => ?_)
  · try simp only [decide_eq_true_eq, decide_eq_false_iff_not, Bool.and_eq_true, Bool.or_eq_true, Bool.and_eq_false_iff, Bool.or_eq_false_iff, Bool.not_eq_true', Bool.not_eq_false', ne_eq, Decidable.not_not] at hc1
    refine WP.seq ?_
    refine WP.region ?_
    refine WPl.cs 4 rfl rfl rfl rfl (o_sig 4 id c16 e16 rfl rfl rfl w16 trivial r16) ?_
    refine WPl.v rfl (o_assign rfl) ?_
    refine WPl.nil ?_
    refine EX.then ?_
    refine WP.ret ?_
    refine EX.ret_then ?_
    exact EX.fin id (.inl rfl) rfl (.tmp rfl .nil) rfl r8 trivial (by simp) (by simp)
  · try simp only [decide_eq_true_eq, decide_eq_false_iff_not, Bool.and_eq_true, Bool.or_eq_true, Bool.and_eq_false_iff, Bool.or_eq_false_iff, Bool.not_eq_true', Bool.not_eq_false', ne_eq, Decidable.not_not] at hc1
    obtain ⟨hr1, hr2⟩ := hc1
    have hrd := rdy_parts hr1
    have hf := hrd.2
    have hcb := Fnd.chkB hf
    have law := hlaw hf (by omega)
    refine WP.skip ?_
    refine EX.then ?_
    refine WP.seq ?_
    refine WP.region ?_
    refine WPl.v rfl (o_ldpa G31 rfl rfl rfl) ?_
    refine WPl.cs 6 rfl rfl rfl rfl (o_sig 4 (ren [(0, 0), (1, 1)]) (c17 f (by omega) (by omega)) e17 rfl rfl rfl w17 ⟨(lx rfl), (lx rfl), trivial⟩ r17) ?_
    refine WPl.l 6 7 rfl rfl rfl (o_alloc Z31) ?_
    refine WPl.s1 (o_stag G31 rfl rfl rfl ⟨rfl, rfl, rfl, rfl, rfl, rfl, rfl, rfl, rfl, rfl, (.inl ⟨_, (lx rfl), PL.one⟩), (.inl ⟨_, (lx rfl), PL.one⟩), trivial⟩ rfl rfl) ?_
    refine WPl.nil ?_
    refine EX.then ?_
    refine WP.seq ?_
    refine WP.region ?_
    refine WPl.v rfl (o_fldp F31_1 rfl) ?_
    refine WPl.v rfl (o_ldp S29 rfl rfl rfl) ?_
    refine WPl.v rfl (o_fldp F31_1 rfl) ?_
    refine WPl.v rfl (o_ldp S29 rfl rfl rfl) ?_
    refine WPl.v rfl (o_lenq L29 rfl (lx rfl)) ?_
    refine WPl.v rfl (o_sub rfl rfl (by first | omega | (simp; omega)) (by first | omega | (simp; omega))) ?_
    refine WPl.x 7 8 rfl rfl rfl (o_slice (a := 0) (b := (f.nights.length : Int) - 1) L29 rfl (lx rfl) rfl rfl (by first | omega | (simp; omega)) (by first | omega | (simp; omega)) (by first | omega | (simp; omega))) ?_
    refine WPl.v rfl (o_fldp F31_1 rfl) ?_
    refine WPl.s1 (o_sta S29 rfl rfl rfl (.inl ⟨_, (lx rfl), PL.one⟩) rfl) ?_
    refine WPl.nil ?_
    refine EX.then ?_
    refine WP.seq ?_
    refine WP.region ?_
    refine WPl.v rfl (o_ldpa G31 rfl rfl rfl) ?_
    refine WPl.cs 8 rfl rfl rfl rfl (o_sig 8 (ren [(0, 0), (1, 1)]) (c28 f (by omega)) e28 rfl rfl rfl w28 ⟨(lx rfl), (lx rfl), trivial⟩ r28) ?_
    refine WPl.v rfl (o_move rfl) ?_
    refine WPl.v rfl (o_extract rfl rfl) ?_
    refine WPl.v rfl (o_extract rfl rfl) ?_
    refine WPl.v rfl (o_assign rfl) ?_
    refine WPl.v rfl (o_assign rfl) ?_
    refine WPl.nil ?_
    refine EX.then ?_
    refine WP.seq ?_
    refine WP.region ?_
    refine WPl.v rfl (o_ldpa G31 rfl rfl rfl) ?_
    refine WPl.cs 8 rfl rfl rfl rfl (o_sig 8 (ren [(0, 4), (1, 7)]) (c28 f.cut (by show f.shop.pigs.length ≤ 40; omega)) e28 rfl rfl rfl w28 ⟨(lx rfl), (lx rfl), trivial⟩ r28) ?_
    refine WPl.v rfl (o_move rfl) ?_
    refine WPl.v rfl (o_extract rfl rfl) ?_
    refine WPl.v rfl (o_extract rfl rfl) ?_
    refine WPl.v rfl (o_assign rfl) ?_
    refine WPl.v rfl (o_assign rfl) ?_
    refine WPl.nil ?_
    refine EX.then ?_
    refine WP.seq ?_
    refine WP.region ?_
    refine WPl.v rfl (o_ldpa G31 rfl rfl rfl) ?_
    refine WPl.v rfl (o_ldpa G31 rfl rfl rfl) ?_
    refine WPl.cs 8 rfl rfl rfl rfl (o_sig 8 (ren [(0, 4), (1, 7), (2, 0), (3, 1)]) (c56 f.cut f (by show f.shop.pigs.length ≤ 40; omega) (by omega) law.l) e56 rfl rfl rfl w56 ⟨(lx rfl), (lx rfl), (lx rfl), (lx rfl), trivial⟩ r56) ?_
    refine WPl.v rfl (o_move rfl) ?_
    refine WPl.on rfl ⟨_, _, rfl, rfl, rfl⟩ (o_move rfl) ?_
    refine WPl.on rfl ⟨_, _, rfl, rfl, rfl⟩ (o_eql rfl rfl) ?_
    refine WPl.v rfl (o_pickT rfl rfl) ?_
    refine WPl.imp (Imp.bitF 44 (b' := true) rfl (by rw [hf]; rfl)) ?_
    refine WPl.v rfl (o_move rfl) ?_
    refine WPl.on rfl ⟨_, _, rfl, rfl, rfl⟩ (o_move rfl) ?_
    refine WPl.on rfl ⟨_, _, rfl, rfl, rfl⟩ (o_eql rfl rfl) ?_
    refine WPl.v rfl (o_pickT rfl rfl) ?_
    refine WPl.imp (Imp.bitF 48 (b' := true) rfl (by rw [law.o]; rfl)) ?_
    refine WPl.v rfl (o_move rfl) ?_
    refine WPl.on rfl ⟨_, _, rfl, rfl, rfl⟩ (o_move rfl) ?_
    refine WPl.on rfl ⟨_, _, rfl, rfl, rfl⟩ (o_move rfl) ?_
    refine WPl.on rfl ⟨_, _, rfl, rfl, rfl⟩ (o_fldp F31_1 rfl) ?_
    refine WPl.on rfl ⟨_, _, rfl, rfl, rfl⟩ (o_ldp S29 rfl rfl rfl) ?_
    refine WPl.on rfl ⟨_, _, rfl, rfl, rfl⟩ (o_lenq L29 rfl (lx rfl)) ?_
    refine WPl.on rfl ⟨_, _, rfl, rfl, rfl⟩ (o_min rfl rfl) ?_
    refine WPl.on rfl ⟨_, _, rfl, rfl, rfl⟩ (o_eql rfl rfl) ?_
    refine WPl.v rfl (o_pickT rfl rfl) ?_
    refine WPl.imp (Imp.bitF 57 (b' := true) rfl (decide_eq_true law.w)) ?_
    refine WPl.v rfl (o_move rfl) ?_
    refine WPl.cL 9 rfl rfl rfl rfl ⟨_, _, rfl, rfl, rfl⟩ (o_sig 8 id c16 e16 rfl rfl rfl w16 trivial r16) ?_
    refine WPl.v rfl (o_pickT rfl rfl) ?_
    refine WPl.v rfl (o_assign rfl) ?_
    refine WPl.nil ?_
    refine EX.then ?_
    refine WP.ret ?_
    exact EX.fin id (.inl rfl) rfl (.tmp rfl .nil) rfl r8 trivial (by simp) (by simp)
theorem w9 {f : Fnd} {k b : Int} : ∀ x ∈ ([.e (.g [ai (f.shop.pounds), ai (f.shop.tl), ai (f.shop.th), ai (f.shop.al), ai (f.shop.ah), ai (f.shop.room), ai (f.shop.tpl), ai (f.shop.tph), ai (f.shop.apl), ai (f.shop.aph), .q 0, .q 1]), .i (k), .i (b)] : List SV), x.res (keys (α := Pred) [(0, PL EPig (f.shop.pigs)), (1, PL ENight (f.nights))]) := by simp [SV.res, El.res, At.res, keys]
theorem r9  : SV.res (keys (α := Pred) []) (.b (true)) := by simp [SV.res, El.res, At.res, keys]
set_option maxHeartbeats 4000000 in
theorem c9 (f : Fnd) (k b : Int) (hlaw : f.chk = true → MoreLaw f k b) : Sig Try.prog 9 [.e (.g [ai (f.shop.pounds), ai (f.shop.tl), ai (f.shop.th), ai (f.shop.al), ai (f.shop.ah), ai (f.shop.room), ai (f.shop.tpl), ai (f.shop.tph), ai (f.shop.apl), ai (f.shop.aph), .q 0, .q 1]), .i (k), .i (b)] [(0, PL EPig (f.shop.pigs)), (1, PL ENight (f.nights))] (.b (true)) [] := by
  refine Sig.intro Try.func9 rfl 2 [(0, .e (.g [ai (f.shop.pounds), ai (f.shop.tl), ai (f.shop.th), ai (f.shop.al), ai (f.shop.ah), ai (f.shop.room), ai (f.shop.tpl), ai (f.shop.tph), ai (f.shop.apl), ai (f.shop.aph), .q 0, .q 1])), (1, .i (k)), (2, .i (b))] rfl w9 rfl rfl fun I w => ?_
  refine WP.seq ?_
  refine WP.region ?_
  refine WPl.l 2 3 rfl rfl rfl (o_boxg rfl) ?_
  refine WPl.v rfl (o_assign rfl) ?_
  refine WPl.nil ?_
  refine EX.then ?_
  refine WP.seq ?_
  refine WP.seq ?_
  refine WP.region ?_
  refine WPl.v rfl (o_ldpa G31 rfl rfl rfl) ?_
  refine WPl.cs 3 rfl rfl rfl rfl (o_sig 3 (ren [(0, 0), (1, 1)]) (c32 f) e32 rfl rfl rfl w32 ⟨(lx rfl), (lx rfl), trivial⟩ r32) ?_
  refine WPl.v rfl (o_not rfl) ?_
  refine WPl.nil ?_
  refine EX.then ?_
  refine WP.cond rfl (fun hc1 => ?_) (fun hc1 => ?_)
  · try simp only [decide_eq_true_eq, decide_eq_false_iff_not, Bool.and_eq_true, Bool.or_eq_true, Bool.and_eq_false_iff, Bool.or_eq_false_iff, Bool.not_eq_true', Bool.not_eq_false', ne_eq, Decidable.not_not] at hc1
    refine WP.seq ?_
    refine WP.region ?_
    refine WPl.cs 3 rfl rfl rfl rfl (o_sig 3 id c16 e16 rfl rfl rfl w16 trivial r16) ?_
    refine WPl.v rfl (o_assign rfl) ?_
    refine WPl.nil ?_
    refine EX.then ?_
    refine WP.ret ?_
    refine EX.ret_then ?_
    exact EX.fin id (.inl rfl) rfl (.tmp rfl .nil) rfl r9 trivial (by simp) (by simp)
  · try simp only [decide_eq_true_eq, decide_eq_false_iff_not, Bool.and_eq_true, Bool.or_eq_true, Bool.and_eq_false_iff, Bool.or_eq_false_iff, Bool.not_eq_true', Bool.not_eq_false', ne_eq, Decidable.not_not] at hc1
    have hrd := rdy_parts hc1
    have hf := hrd.2
    have hcb := Fnd.chkB hf
    have law := hlaw hf
    refine WP.skip ?_
    refine EX.then ?_
    refine WP.seq ?_
    refine WP.seq ?_
    refine WP.region ?_
    refine WPl.v rfl (o_move rfl) ?_
    refine WPl.v rfl (o_fldp F31_0 rfl) ?_
    refine WPl.v rfl (o_fldp F28_1 rfl) ?_
    refine WPl.v rfl (o_ldp S3 rfl rfl rfl) ?_
    refine WPl.v rfl (o_gtr rfl rfl) ?_
    refine WPl.nil ?_
    refine EX.then ?_
    refine WP.cond rfl (fun hc2 => ?_) (fun hc2 => ?_)
    · try simp only [decide_eq_true_eq, decide_eq_false_iff_not, Bool.and_eq_true, Bool.or_eq_true, Bool.and_eq_false_iff, Bool.or_eq_false_iff, Bool.not_eq_true', Bool.not_eq_false', ne_eq, Decidable.not_not] at hc2
      refine WP.seq ?_
      refine WP.region ?_
      refine WPl.v rfl (o_ldpa G31 rfl rfl rfl) ?_
      refine WPl.cs 5 rfl rfl rfl rfl (o_sig 3 (ren [(0, 0), (1, 1)]) (c17 f (by omega) (by omega)) e17 rfl rfl rfl w17 ⟨(lx rfl), (lx rfl), trivial⟩ r17) ?_
      refine WPl.l 5 6 rfl rfl rfl (o_alloc Z31) ?_
      refine WPl.s1 (o_stag G31 rfl rfl rfl ⟨rfl, rfl, rfl, rfl, rfl, rfl, rfl, rfl, rfl, rfl, (.inl ⟨_, (lx rfl), PL.one⟩), (.inl ⟨_, (lx rfl), PL.one⟩), trivial⟩ rfl rfl) ?_
      refine WPl.nil ?_
      refine EX.then ?_
      refine WP.seq ?_
      refine WP.region ?_
      refine WPl.v rfl (o_move rfl) ?_
      refine WPl.v rfl (o_fldp F31_0 rfl) ?_
      refine WPl.v rfl (o_fldp F28_1 rfl) ?_
      refine WPl.s1 (o_sta S3 rfl rfl rfl rfl rfl) ?_
      refine WPl.nil ?_
      refine EX.then ?_
      refine WP.seq ?_
      refine WP.region ?_
      refine WPl.v rfl (o_ldpa G31 rfl rfl rfl) ?_
      refine WPl.cs 6 rfl rfl rfl rfl (o_sig 6 (ren [(0, 3), (1, 4)]) (c32 (f.roomed b)) e32 rfl rfl rfl w32 ⟨(lx rfl), (lx rfl), trivial⟩ r32) ?_
      refine WPl.v rfl (o_move rfl) ?_
      refine WPl.bit 6 7 ((f.roomed b).rdy) rfl rfl ?_
      refine WPl.gv 6 rfl rfl (.plain rfl Iff.rfl rfl) (fun hb => o_ldpa G31 rfl rfl rfl) ?_
      refine WPl.gv 6 rfl rfl (.plain rfl Iff.rfl rfl) (fun hb => o_ldpa G31 rfl rfl rfl) ?_
      refine WPl.gc0 6 rfl rfl (.plain rfl Iff.rfl rfl) (fun hb => o_sig 7 (ren [(0, 3), (1, 4), (2, 0), (3, 1)]) (c56 (f.roomed b) f (by show f.shop.pigs.length ≤ 40; omega) (by omega) (law.r hc2 hb)) e56 rfl rfl rfl w56 ⟨(lx rfl), (lx rfl), (lx rfl), (lx rfl), trivial⟩ r56) ?_
      refine WPl.gv 6 rfl rfl (.plain rfl Iff.rfl rfl) (fun hb => o_not rfl) ?_
      refine WPl.v rfl (o_and rfl rfl rfl id) ?_
      refine WPl.nil ?_
      refine EX.then ?_
      refine WP.cond rfl (fun hc3 => ?_) (fun hc3 => ?_)
      · try simp only [decide_eq_true_eq, decide_eq_false_iff_not, Bool.and_eq_true, Bool.or_eq_true, Bool.and_eq_false_iff, Bool.or_eq_false_iff, Bool.not_eq_true', Bool.not_eq_false', ne_eq, Decidable.not_not] at hc3
        simp at hc3
      · try simp only [decide_eq_true_eq, decide_eq_false_iff_not, Bool.and_eq_true, Bool.or_eq_true, Bool.and_eq_false_iff, Bool.or_eq_false_iff, Bool.not_eq_true', Bool.not_eq_false', ne_eq, Decidable.not_not] at hc3
        refine WP.skip ?_
        refine EX.then ?_
        refine WP.seq ?_
        refine WP.seq ?_
        refine WP.region ?_
        refine WPl.v rfl (o_move rfl) ?_
        refine WPl.v rfl (o_fldp F31_0 rfl) ?_
        refine WPl.v rfl (o_fldp F28_4 rfl) ?_
        refine WPl.v rfl (o_ldp S26 rfl rfl rfl) ?_
        refine WPl.v rfl (o_lenq L26 rfl (lx rfl)) ?_
        refine WPl.v rfl (o_sub rfl rfl (by first | omega | (simp; omega)) (by first | omega | (simp; omega))) ?_
        refine WPl.cs 7 rfl rfl rfl rfl (o_sig 7 id (c35 k 0 ((f.shop.pigs.length : Int) - 1)) e35 rfl rfl rfl w35 trivial r35) ?_
        refine WPl.v rfl (o_not rfl) ?_
        refine WPl.nil ?_
        refine EX.then ?_
        refine WP.cond rfl (fun hc4 => ?_) (fun hc4 => ?_)
        · try simp only [decide_eq_true_eq, decide_eq_false_iff_not, Bool.and_eq_true, Bool.or_eq_true, Bool.and_eq_false_iff, Bool.or_eq_false_iff, Bool.not_eq_true', Bool.not_eq_false', ne_eq, Decidable.not_not] at hc4
          refine WP.seq ?_
          refine WP.region ?_
          refine WPl.cs 7 rfl rfl rfl rfl (o_sig 7 id c16 e16 rfl rfl rfl w16 trivial r16) ?_
          refine WPl.v rfl (o_assign rfl) ?_
          refine WPl.nil ?_
          refine EX.then ?_
          refine WP.ret ?_
          refine EX.ret_then ?_
          exact EX.fin id (.inl rfl) rfl (.tmp rfl .nil) rfl r9 trivial (by simp) (by simp)
        · try simp only [decide_eq_true_eq, decide_eq_false_iff_not, Bool.and_eq_true, Bool.or_eq_true, Bool.and_eq_false_iff, Bool.or_eq_false_iff, Bool.not_eq_true', Bool.not_eq_false', ne_eq, Decidable.not_not] at hc4
          have hw := hc4
          simp only [within, Bool.and_eq_true, decide_eq_true_eq] at hw
          have hkb := Pig.bnds ((Shop.pigsOK (Fnd.shopOK hf)).at (show k.toNat < f.shop.pigs.length by omega))
          rw [show ((k.toNat : Nat) : Int) = k by omega] at hkb
          refine WP.skip ?_
          refine EX.then ?_
          refine WP.seq ?_
          refine WP.region ?_
          refine WPl.v rfl (o_ldpa G31 rfl rfl rfl) ?_
          refine WPl.cL 9 rfl rfl rfl rfl rfl (o_sigo 7 (ren [(0, 0), (1, 1)]) (c17O f (by omega) (by omega)) e17 rfl rfl SvsOK.rf w17O ⟨(lx rfl), (lx rfl), trivial⟩ r17O rfl rfl) ?_
          refine WPl.l 9 10 rfl rfl rfl (o_alloc Z31) ?_
          refine WPl.s1 (o_stag G31 rfl rfl rfl ⟨rfl, rfl, rfl, rfl, rfl, rfl, rfl, rfl, rfl, rfl, (.inr ⟨_, _, _, _, rfl⟩), (.inr ⟨_, _, _, _, rfl⟩), trivial⟩ rfl rfl) ?_
          refine WPl.nil ?_
          refine EX.then ?_
          refine WP.seq ?_
          refine WP.region ?_
          refine WPl.v rfl (o_fldp F31_0 rfl) ?_
          refine WPl.v rfl (o_fldp F28_4 rfl) ?_
          refine WPl.v rfl (o_ldp S26 rfl rfl rfl) ?_
          refine WPl.v rfl (o_move rfl) ?_
          refine WPl.v rfl (o_idxo L26 rfl rfl rfl (by first | omega | (simp; omega)) (by first | omega | (simp; omega))) ?_
          refine WPl.v rfl (o_ldoG G78 rfl rfl rfl rfl (by first | omega | (simp; omega)) (by first | omega | (simp; omega)) (strG rfl) rfl rfl) ?_
          refine WPl.l 10 11 rfl rfl rfl (o_alloc Z78) ?_
          refine WPl.s1 (o_stag G78 rfl rfl rfl ⟨rfl, rfl, rfl, rfl, rfl, trivial⟩ rfl rfl) ?_
          refine WPl.nil ?_
          refine EX.then ?_
          refine WP.seq ?_
          refine WP.region ?_
          refine WPl.v rfl (o_fldp F78_4 rfl) ?_
          refine WPl.v rfl (o_ldp S3 rfl rfl rfl) ?_
          refine WPl.v rfl (o_add rfl rfl (by first | omega | (simp; omega)) (by first | omega | (simp; omega))) ?_
          refine WPl.v rfl (o_fldp F78_4 rfl) ?_
          refine WPl.s1 (o_sta S3 rfl rfl rfl rfl rfl) ?_
          refine WPl.nil ?_
          refine EX.then ?_
          refine WP.seq ?_
          refine WP.region ?_
          refine WPl.v rfl (o_fldp F31_0 rfl) ?_
          refine WPl.v rfl (o_fldp F28_4 rfl) ?_
          refine WPl.v rfl (o_ldp S26 rfl rfl rfl) ?_
          refine WPl.v rfl (o_move rfl) ?_
          refine WPl.v rfl (o_ldpa G78 rfl rfl rfl) ?_
          refine WPl.v rfl (o_idxo L26 rfl rfl rfl (by first | omega | (simp; omega)) (by first | omega | (simp; omega))) ?_
          refine WPl.s1 (o_steE2 (z := ({ nth f.shop.pigs k with many := (nth f.shop.pigs k).many + 1 } : Pig)) Try.sizeOf78 rfl rfl rfl ⟨rfl, rfl, rfl, rfl, rfl, trivial⟩ (eok_str ⟨rfl, rfl, rfl, rfl, rfl, trivial⟩) rfl rfl rfl (by first | omega | (simp; omega)) (by first | omega | (simp; omega))) ?_
          refine WPl.nil ?_
          refine EX.then ?_
          refine WP.seq ?_
          refine WP.region ?_
          refine WPl.imp (Imp.frz (E := EPig) (l := lset ([] ++ f.shop.pigs) k ({ nth f.shop.pigs k with many := (nth f.shop.pigs k).many + 1 } : Pig)) 7 rfl rfl) ?_
          refine WPl.imp (Imp.frz (E := ENight) (l := [] ++ f.nights) 8 rfl rfl) ?_
          refine WPl.v rfl (o_ldpa G31 rfl rfl rfl) ?_
          refine WPl.cs 11 rfl rfl rfl rfl (o_sig 11 (ren [(0, 7), (1, 8)]) (c32 (f.pigged k)) e32 rfl rfl rfl w32 ⟨(lx rfl), (lx rfl), trivial⟩ r32) ?_
          refine WPl.v rfl (o_not rfl) ?_
          refine WPl.v rfl (o_move rfl) ?_
          refine WPl.bit 11 12 (!(!((f.pigged k).rdy))) rfl rfl ?_
          refine WPl.gv 11 rfl rfl (.plain rfl (by simp) rfl) (fun hb => o_ldpa G31 rfl rfl rfl) ?_
          refine WPl.gv 11 rfl rfl (.plain rfl (by simp) rfl) (fun hb => o_ldpa G31 rfl rfl rfl) ?_
          refine WPl.gc0 11 rfl rfl (.plain rfl (by simp) rfl) (fun hb => o_sig 12 (ren [(0, 7), (1, 8), (2, 0), (3, 1)]) (c56 (f.pigged k) f (by rw [pigged_len]; omega) (by omega) (law.k (by simp only [within, Bool.and_eq_true, decide_eq_true_eq]; exact hw) (by simpa using hb))) e56 rfl rfl rfl w56 ⟨(lx rfl), (lx rfl), (lx rfl), (lx rfl), trivial⟩ r56) ?_
          refine WPl.v rfl (o_or rfl rfl rfl (by first | (simp; done) | simp_all)) ?_
          refine WPl.imp (Imp.bitF 66 (b' := true) rfl (by simp)) ?_
          refine WPl.v rfl (o_move rfl) ?_
          refine WPl.cL 13 rfl rfl rfl rfl ⟨_, _, rfl, rfl, rfl⟩ (o_sig 12 id c16 e16 rfl rfl rfl w16 trivial r16) ?_
          refine WPl.v rfl (o_pickT rfl rfl) ?_
          refine WPl.v rfl (o_assign rfl) ?_
          refine WPl.nil ?_
          refine EX.then ?_
          refine WP.ret ?_
          exact EX.fin id (.inl rfl) rfl (.tmp rfl .nil) rfl r9 trivial (by simp) (by simp)
    · try simp only [decide_eq_true_eq, decide_eq_false_iff_not, Bool.and_eq_true, Bool.or_eq_true, Bool.and_eq_false_iff, Bool.or_eq_false_iff, Bool.not_eq_true', Bool.not_eq_false', ne_eq, Decidable.not_not] at hc2
      refine WP.skip ?_
      refine EX.then ?_
      refine WP.seq ?_
      refine WP.seq ?_
      refine WP.region ?_
      refine WPl.v rfl (o_move rfl) ?_
      refine WPl.v rfl (o_fldp F31_0 rfl) ?_
      refine WPl.v rfl (o_fldp F28_4 rfl) ?_
      refine WPl.v rfl (o_ldp S26 rfl rfl rfl) ?_
      refine WPl.v rfl (o_lenq L26 rfl (lx rfl)) ?_
      refine WPl.v rfl (o_sub rfl rfl (by first | omega | (simp; omega)) (by first | omega | (simp; omega))) ?_
      refine WPl.cs 3 rfl rfl rfl rfl (o_sig 3 id (c35 k 0 ((f.shop.pigs.length : Int) - 1)) e35 rfl rfl rfl w35 trivial r35) ?_
      refine WPl.v rfl (o_not rfl) ?_
      refine WPl.nil ?_
      refine EX.then ?_
      refine WP.cond rfl (fun hc5 => ?_) (fun hc5 => ?_)
      · try simp only [decide_eq_true_eq, decide_eq_false_iff_not, Bool.and_eq_true, Bool.or_eq_true, Bool.and_eq_false_iff, Bool.or_eq_false_iff, Bool.not_eq_true', Bool.not_eq_false', ne_eq, Decidable.not_not] at hc5
        refine WP.seq ?_
        refine WP.region ?_
        refine WPl.cs 3 rfl rfl rfl rfl (o_sig 3 id c16 e16 rfl rfl rfl w16 trivial r16) ?_
        refine WPl.v rfl (o_assign rfl) ?_
        refine WPl.nil ?_
        refine EX.then ?_
        refine WP.ret ?_
        refine EX.ret_then ?_
        exact EX.fin id (.inl rfl) rfl (.tmp rfl .nil) rfl r9 trivial (by simp) (by simp)
      · try simp only [decide_eq_true_eq, decide_eq_false_iff_not, Bool.and_eq_true, Bool.or_eq_true, Bool.and_eq_false_iff, Bool.or_eq_false_iff, Bool.not_eq_true', Bool.not_eq_false', ne_eq, Decidable.not_not] at hc5
        have hw := hc5
        simp only [within, Bool.and_eq_true, decide_eq_true_eq] at hw
        have hkb := Pig.bnds ((Shop.pigsOK (Fnd.shopOK hf)).at (show k.toNat < f.shop.pigs.length by omega))
        rw [show ((k.toNat : Nat) : Int) = k by omega] at hkb
        refine WP.skip ?_
        refine EX.then ?_
        refine WP.seq ?_
        refine WP.region ?_
        refine WPl.v rfl (o_ldpa G31 rfl rfl rfl) ?_
        refine WPl.cL 5 rfl rfl rfl rfl rfl (o_sigo 3 (ren [(0, 0), (1, 1)]) (c17O f (by omega) (by omega)) e17 rfl rfl SvsOK.rf w17O ⟨(lx rfl), (lx rfl), trivial⟩ r17O rfl rfl) ?_
        refine WPl.l 5 6 rfl rfl rfl (o_alloc Z31) ?_
        refine WPl.s1 (o_stag G31 rfl rfl rfl ⟨rfl, rfl, rfl, rfl, rfl, rfl, rfl, rfl, rfl, rfl, (.inr ⟨_, _, _, _, rfl⟩), (.inr ⟨_, _, _, _, rfl⟩), trivial⟩ rfl rfl) ?_
        refine WPl.nil ?_
        refine EX.then ?_
        refine WP.seq ?_
        refine WP.region ?_
        refine WPl.v rfl (o_fldp F31_0 rfl) ?_
        refine WPl.v rfl (o_fldp F28_4 rfl) ?_
        refine WPl.v rfl (o_ldp S26 rfl rfl rfl) ?_
        refine WPl.v rfl (o_move rfl) ?_
        refine WPl.v rfl (o_idxo L26 rfl rfl rfl (by first | omega | (simp; omega)) (by first | omega | (simp; omega))) ?_
        refine WPl.v rfl (o_ldoG G78 rfl rfl rfl rfl (by first | omega | (simp; omega)) (by first | omega | (simp; omega)) (strG rfl) rfl rfl) ?_
        refine WPl.l 6 7 rfl rfl rfl (o_alloc Z78) ?_
        refine WPl.s1 (o_stag G78 rfl rfl rfl ⟨rfl, rfl, rfl, rfl, rfl, trivial⟩ rfl rfl) ?_
        refine WPl.nil ?_
        refine EX.then ?_
        refine WP.seq ?_
        refine WP.region ?_
        refine WPl.v rfl (o_fldp F78_4 rfl) ?_
        refine WPl.v rfl (o_ldp S3 rfl rfl rfl) ?_
        refine WPl.v rfl (o_add rfl rfl (by first | omega | (simp; omega)) (by first | omega | (simp; omega))) ?_
        refine WPl.v rfl (o_fldp F78_4 rfl) ?_
        refine WPl.s1 (o_sta S3 rfl rfl rfl rfl rfl) ?_
        refine WPl.nil ?_
        refine EX.then ?_
        refine WP.seq ?_
        refine WP.region ?_
        refine WPl.v rfl (o_fldp F31_0 rfl) ?_
        refine WPl.v rfl (o_fldp F28_4 rfl) ?_
        refine WPl.v rfl (o_ldp S26 rfl rfl rfl) ?_
        refine WPl.v rfl (o_move rfl) ?_
        refine WPl.v rfl (o_ldpa G78 rfl rfl rfl) ?_
        refine WPl.v rfl (o_idxo L26 rfl rfl rfl (by first | omega | (simp; omega)) (by first | omega | (simp; omega))) ?_
        refine WPl.s1 (o_steE2 (z := ({ nth f.shop.pigs k with many := (nth f.shop.pigs k).many + 1 } : Pig)) Try.sizeOf78 rfl rfl rfl ⟨rfl, rfl, rfl, rfl, rfl, trivial⟩ (eok_str ⟨rfl, rfl, rfl, rfl, rfl, trivial⟩) rfl rfl rfl (by first | omega | (simp; omega)) (by first | omega | (simp; omega))) ?_
        refine WPl.nil ?_
        refine EX.then ?_
        refine WP.seq ?_
        refine WP.region ?_
        refine WPl.imp (Imp.frz (E := EPig) (l := lset ([] ++ f.shop.pigs) k ({ nth f.shop.pigs k with many := (nth f.shop.pigs k).many + 1 } : Pig)) 3 rfl rfl) ?_
        refine WPl.imp (Imp.frz (E := ENight) (l := [] ++ f.nights) 4 rfl rfl) ?_
        refine WPl.v rfl (o_ldpa G31 rfl rfl rfl) ?_
        refine WPl.cs 7 rfl rfl rfl rfl (o_sig 7 (ren [(0, 3), (1, 4)]) (c32 (f.pigged k)) e32 rfl rfl rfl w32 ⟨(lx rfl), (lx rfl), trivial⟩ r32) ?_
        refine WPl.v rfl (o_not rfl) ?_
        refine WPl.v rfl (o_move rfl) ?_
        refine WPl.bit 7 8 (!(!((f.pigged k).rdy))) rfl rfl ?_
        refine WPl.gv 7 rfl rfl (.plain rfl (by simp) rfl) (fun hb => o_ldpa G31 rfl rfl rfl) ?_
        refine WPl.gv 7 rfl rfl (.plain rfl (by simp) rfl) (fun hb => o_ldpa G31 rfl rfl rfl) ?_
        refine WPl.gc0 7 rfl rfl (.plain rfl (by simp) rfl) (fun hb => o_sig 8 (ren [(0, 3), (1, 4), (2, 0), (3, 1)]) (c56 (f.pigged k) f (by rw [pigged_len]; omega) (by omega) (law.k (by simp only [within, Bool.and_eq_true, decide_eq_true_eq]; exact hw) (by simpa using hb))) e56 rfl rfl rfl w56 ⟨(lx rfl), (lx rfl), (lx rfl), (lx rfl), trivial⟩ r56) ?_
        refine WPl.v rfl (o_or rfl rfl rfl (by first | (simp; done) | simp_all)) ?_
        refine WPl.imp (Imp.bitF 66 (b' := true) rfl (by simp)) ?_
        refine WPl.v rfl (o_move rfl) ?_
        refine WPl.cL 9 rfl rfl rfl rfl ⟨_, _, rfl, rfl, rfl⟩ (o_sig 8 id c16 e16 rfl rfl rfl w16 trivial r16) ?_
        refine WPl.v rfl (o_pickT rfl rfl) ?_
        refine WPl.v rfl (o_assign rfl) ?_
        refine WPl.nil ?_
        refine EX.then ?_
        refine WP.ret ?_
        exact EX.fin id (.inl rfl) rfl (.tmp rfl .nil) rfl r9 trivial (by simp) (by simp)
theorem w7 {f : Fnd} {c : Clr} {plan : List (List Int)} : ∀ x ∈ ([.e (.g [ai (f.shop.pounds), ai (f.shop.tl), ai (f.shop.th), ai (f.shop.al), ai (f.shop.ah), ai (f.shop.room), ai (f.shop.tpl), ai (f.shop.tph), ai (f.shop.apl), ai (f.shop.aph), .q 0, .q 1]), .e (.g [ai (c.tl), ai (c.th), ai (c.al), ai (c.ah), ai (c.night), ai (c.dl), ai (c.dh)]), .e (.a (.q 2))] : List SV), x.res (keys (α := Pred) [(0, PL EPig (f.shop.pigs)), (1, PL ENight (f.nights)), (2, PL (EP.sl EP.int) (plan))]) := by simp [SV.res, El.res, At.res, keys]
theorem r7  : SV.res (keys (α := Pred) []) (.b (true)) := by simp [SV.res, El.res, At.res, keys]
set_option maxHeartbeats 4000000 in
theorem c7 (f : Fnd) (c : Clr) (plan : List (List Int)) (hlaw : f.chk = true → (0 ≤ c.night ∧ c.night < f.nights.length) → (f.shop.tl ≤ c.tl ∧ c.tl ≤ c.th ∧ c.th ≤ f.shop.th) → (f.shop.al ≤ c.al ∧ c.al ≤ c.ah ∧ c.ah ≤ f.shop.ah) → ((nth f.nights c.night).lo ≤ c.dl ∧ c.dl ≤ c.dh ∧ c.dh ≤ (nth f.nights c.night).hi) → ClearLaw f c plan) : Sig Try.prog 7 [.e (.g [ai (f.shop.pounds), ai (f.shop.tl), ai (f.shop.th), ai (f.shop.al), ai (f.shop.ah), ai (f.shop.room), ai (f.shop.tpl), ai (f.shop.tph), ai (f.shop.apl), ai (f.shop.aph), .q 0, .q 1]), .e (.g [ai (c.tl), ai (c.th), ai (c.al), ai (c.ah), ai (c.night), ai (c.dl), ai (c.dh)]), .e (.a (.q 2))] [(0, PL EPig (f.shop.pigs)), (1, PL ENight (f.nights)), (2, PL (EP.sl EP.int) (plan))] (.b (true)) [] := by
  refine Sig.intro Try.func7 rfl 3 [(0, .e (.g [ai (f.shop.pounds), ai (f.shop.tl), ai (f.shop.th), ai (f.shop.al), ai (f.shop.ah), ai (f.shop.room), ai (f.shop.tpl), ai (f.shop.tph), ai (f.shop.apl), ai (f.shop.aph), .q 0, .q 1])), (1, .e (.g [ai (c.tl), ai (c.th), ai (c.al), ai (c.ah), ai (c.night), ai (c.dl), ai (c.dh)])), (2, .e (.a (.q 2)))] rfl w7 rfl rfl fun I w => ?_
  refine WP.seq ?_
  refine WP.region ?_
  refine WPl.l 3 4 rfl rfl rfl (o_boxg rfl) ?_
  refine WPl.l 4 5 rfl rfl rfl (o_boxg rfl) ?_
  refine WPl.v rfl (o_assign rfl) ?_
  refine WPl.nil ?_
  refine EX.then ?_
  refine WP.seq ?_
  refine WP.seq ?_
  refine WP.imp (Imp.bit 5 6 (!(!f.rdy)) rfl rfl) ?_
  refine WP.imp (Imp.bit 6 7 (!((!f.rdy) || (!(within c.night 0 ((f.nights.length : Int) - 1))))) rfl rfl) ?_
  refine WP.imp (Imp.bit 7 8 (!(((!f.rdy) || (!(within c.night 0 ((f.nights.length : Int) - 1)))) || (!(decide (f.shop.tl ≤ c.tl) && decide (c.tl ≤ c.th) && decide (c.th ≤ f.shop.th))))) rfl rfl) ?_
  refine WP.imp (Imp.bit 8 9 (!((((!f.rdy) || (!(within c.night 0 ((f.nights.length : Int) - 1)))) || (!(decide (f.shop.tl ≤ c.tl) && decide (c.tl ≤ c.th) && decide (c.th ≤ f.shop.th)))) || (!(decide (f.shop.al ≤ c.al) && decide (c.al ≤ c.ah) && decide (c.ah ≤ f.shop.ah))))) rfl rfl) ?_
  refine WP.draw (nf := 10) [⟨[], [], [], [], []⟩, ⟨[], [], [], [], [0]⟩, ⟨[], [], [], [], [0, 1]⟩, ⟨[], [], [], [], [0, 1, 2]⟩, ⟨[20, 21], [], [], [], [0, 1, 2, 3]⟩, ⟨[19], [], [], [], [0, 1, 2, 3]⟩, ⟨[19], [], [], [], [0, 1, 2, 3, 5]⟩, ⟨[], [], [], [], [0, 1, 2, 3, 4, 5, 6]⟩, ⟨[], [], [], [], [0, 1, 2, 3, 4, 5, 6, 7]⟩, ⟨[], [], [], [], [0, 1, 2, 3, 4, 5, 6, 7, 8]⟩, ⟨[], [], [], [], [0, 1, 2, 3, 4, 5, 6, 7, 8, 9]⟩, ⟨[28, 29, 30, 31], [], [], [], [0, 1, 2, 3, 4, 5, 6, 7, 8, 9, 10]⟩, ⟨[28, 29, 30, 31], [], [], [], [0, 1, 2, 3, 4, 5, 6, 7, 8, 9, 10, 11]⟩, ⟨[26, 27], [], [], [], [0, 1, 2, 3, 4, 5, 6, 7, 8, 9, 10]⟩, ⟨[26, 27], [], [], [], [0, 1, 2, 3, 4, 5, 6, 7, 8, 9, 10, 13]⟩, ⟨[26, 27], [], [], [], [0, 1, 2, 3, 4, 5, 6, 7, 8, 9, 10, 13, 14]⟩, ⟨[26, 27], [], [], [], [0, 1, 2, 3, 4, 5, 6, 7, 8, 9, 10, 13, 14, 15]⟩, ⟨[], [], [], [], [0, 1, 2, 3, 4, 5, 6, 7, 8, 9, 10, 11, 12, 13, 14, 15, 16]⟩, ⟨[], [], [], [], [0, 1, 2, 3, 4, 5, 6, 7, 8, 9, 10, 11, 12, 13, 14, 15, 16, 17]⟩, ⟨[], [], [], [], [0, 1, 2, 3, 4, 5, 6, 7, 8, 9, 10, 11, 12, 13, 14, 15, 16, 17, 18]⟩, ⟨[], [], [], [], [0, 1, 2, 3, 4, 5, 6, 7, 8, 9, 10, 11, 12, 13, 14, 15, 16, 17, 18, 19]⟩, ⟨[38, 39, 40, 41], [], [], [], [0, 1, 2, 3, 4, 5, 6, 7, 8, 9, 10, 11, 12, 13, 14, 15, 16, 17, 18, 19, 20]⟩, ⟨[38, 39, 40, 41], [], [], [], [0, 1, 2, 3, 4, 5, 6, 7, 8, 9, 10, 11, 12, 13, 14, 15, 16, 17, 18, 19, 20, 21]⟩, ⟨[36, 37], [], [], [], [0, 1, 2, 3, 4, 5, 6, 7, 8, 9, 10, 11, 12, 13, 14, 15, 16, 17, 18, 19, 20]⟩, ⟨[36, 37], [], [], [], [0, 1, 2, 3, 4, 5, 6, 7, 8, 9, 10, 11, 12, 13, 14, 15, 16, 17, 18, 19, 20, 23]⟩, ⟨[36, 37], [], [], [], [0, 1, 2, 3, 4, 5, 6, 7, 8, 9, 10, 11, 12, 13, 14, 15, 16, 17, 18, 19, 20, 23, 24]⟩, ⟨[36, 37], [], [], [], [0, 1, 2, 3, 4, 5, 6, 7, 8, 9, 10, 11, 12, 13, 14, 15, 16, 17, 18, 19, 20, 23, 24, 25]⟩, ⟨[], [], [], [], [0, 1, 2, 3, 4, 5, 6, 7, 8, 9, 10, 11, 12, 13, 14, 15, 16, 17, 18, 19, 20, 21, 22, 23, 24, 25, 26]⟩, ⟨[], [], [], [], [0, 1, 2, 3, 4, 5, 6, 7, 8, 9, 10, 11, 12, 13, 14, 15, 16, 17, 18, 19, 20, 21, 22, 23, 24, 25, 26, 27]⟩, ⟨[], [], [], [], [0, 1, 2, 3, 4, 5, 6, 7, 8, 9, 10, 11, 12, 13, 14, 15, 16, 17, 18, 19, 20, 21, 22, 23, 24, 25, 26, 27, 28]⟩, ⟨[], [], [], [], [0, 1, 2, 3, 4, 5, 6, 7, 8, 9, 10, 11, 12, 13, 14, 15, 16, 17, 18, 19, 20, 21, 22, 23, 24, 25, 26, 27, 28, 29]⟩, ⟨[48, 49, 50, 51, 52, 53, 54], [9], [], [], [0, 1, 2, 3, 4, 5, 6, 7, 8, 9, 10, 11, 12, 13, 14, 15, 16, 17, 18, 19, 20, 21, 22, 23, 24, 25, 26, 27, 28, 29, 30]⟩, ⟨[48, 49, 50, 51, 52, 53, 54], [9], [], [], [0, 1, 2, 3, 4, 5, 6, 7, 8, 9, 10, 11, 12, 13, 14, 15, 16, 17, 18, 19, 20, 21, 22, 23, 24, 25, 26, 27, 28, 29, 30, 31]⟩, ⟨[46, 47, 50, 51], [], [], [], [0, 1, 2, 3, 4, 5, 6, 7, 8, 9, 10, 11, 12, 13, 14, 15, 16, 17, 18, 19, 20, 21, 22, 23, 24, 25, 26, 27, 28, 29, 30]⟩, ⟨[46, 47, 50, 51], [], [], [], [0, 1, 2, 3, 4, 5, 6, 7, 8, 9, 10, 11, 12, 13, 14, 15, 16, 17, 18, 19, 20, 21, 22, 23, 24, 25, 26, 27, 28, 29, 30, 33]⟩, ⟨[46, 47, 48, 49], [], [], [], [0, 1, 2, 3, 4, 5, 6, 7, 8, 9, 10, 11, 12, 13, 14, 15, 16, 17, 18, 19, 20, 21, 22, 23, 24, 25, 26, 27, 28, 29, 30]⟩, ⟨[46, 47, 48, 49], [], [], [], [0, 1, 2, 3, 4, 5, 6, 7, 8, 9, 10, 11, 12, 13, 14, 15, 16, 17, 18, 19, 20, 21, 22, 23, 24, 25, 26, 27, 28, 29, 30, 35]⟩, ⟨[46, 47], [], [9], [9], [0, 1, 2, 3, 4, 5, 6, 7, 8, 9, 10, 11, 12, 13, 14, 15, 16, 17, 18, 19, 20, 21, 22, 23, 24, 25, 26, 27, 28, 29, 30, 33, 34, 35, 36]⟩, ⟨[46, 47], [], [], [], [0, 1, 2, 3, 4, 5, 6, 7, 8, 9, 10, 11, 12, 13, 14, 15, 16, 17, 18, 19, 20, 21, 22, 23, 24, 25, 26, 27, 28, 29, 30, 33, 34, 35, 36, 37]⟩, ⟨[46, 47], [], [], [], [0, 1, 2, 3, 4, 5, 6, 7, 8, 9, 10, 11, 12, 13, 14, 15, 16, 17, 18, 19, 20, 21, 22, 23, 24, 25, 26, 27, 28, 29, 30, 33, 34, 35, 36, 37, 38]⟩, ⟨[], [], [], [], [0, 1, 2, 3, 4, 5, 6, 7, 8, 9, 10, 11, 12, 13, 14, 15, 16, 17, 18, 19, 20, 21, 22, 23, 24, 25, 26, 27, 28, 29, 30, 31, 32, 33, 34, 35, 36, 37, 38, 39]⟩, ⟨[], [], [], [], [0, 1, 2, 3, 4, 5, 6, 7, 8, 9, 10, 11, 12, 13, 14, 15, 16, 17, 18, 19, 20, 21, 22, 23, 24, 25, 26, 27, 28, 29, 30, 31, 32, 33, 34, 35, 36, 37, 38, 39, 40]⟩, ⟨[], [], [], [], [0, 1, 2, 3, 4, 5, 6, 7, 8, 9, 10, 11, 12, 13, 14, 15, 16, 17, 18, 19, 20, 21, 22, 23, 24, 25, 26, 27, 28, 29, 30, 31, 32, 33, 34, 35, 36, 37, 38, 39, 40, 41]⟩] (by kernel_rfl) (by kernel_rfl) ?_
  refine DRQ.v rfl rfl rfl (o_ldpa G31 rfl rfl rfl) ?_
  refine DRQ.cs rfl rfl rfl rfl (o_sig 9 (ren [(0, 0), (1, 1)]) (c32 f) e32 rfl rfl rfl w32 ⟨(lx rfl), (lx rfl), trivial⟩ r32) ?_
  refine DRQ.v rfl rfl rfl (o_not rfl) ?_
  refine DRQ.v rfl rfl rfl (o_move rfl) ?_
  refine DRQ.gv 5 rfl rfl (.plain rfl (by simp) rfl) rfl (fun hb => o_ldpa G31 rfl rfl rfl) ?_
  refine DRQ.gv 5 rfl rfl (.plain rfl (by simp) rfl) rfl (fun hb => o_fldp F71_2 rfl) ?_
  refine DRQ.gv 5 rfl rfl (.plain rfl (by simp) rfl) rfl (fun hb => o_ldp S3 rfl rfl rfl) ?_
  refine DRQ.gv 5 rfl rfl (.plain rfl (by simp) rfl) rfl (fun hb => o_sig 9 (ren [(0, 0), (1, 1)]) (c54 f c.night (by have := Fnd.chkB (rdy_parts (by simpa using hb)).2; omega)) e54 rfl rfl rfl w54 ⟨(lx rfl), (lx rfl), trivial⟩ r54) ?_
  refine DRQ.gv 5 rfl rfl (.plain rfl (by simp) rfl) rfl (fun hb => o_not rfl) ?_
  refine DRQ.v rfl rfl rfl (o_or rfl rfl rfl (by first | (simp; done) | simp_all)) ?_
  refine DRQ.v rfl rfl rfl (o_move rfl) ?_
  refine DRQ.gv 6 rfl rfl (.plain rfl (by simp) rfl) rfl (fun hb => o_fldp F71_0 rfl) ?_
  refine DRQ.gv 6 rfl rfl (.plain rfl (by simp) rfl) rfl (fun hb => o_ldpg G23 rfl rfl rfl) ?_
  refine DRQ.gv 6 rfl rfl (.plain rfl (by simp) rfl) rfl (fun hb => o_fldp F31_0 rfl) ?_
  refine DRQ.gv 6 rfl rfl (.plain rfl (by simp) rfl) rfl (fun hb => o_fldp F28_0 rfl) ?_
  refine DRQ.gv 6 rfl rfl (.plain rfl (by simp) rfl) rfl (fun hb => o_fldp F25_1 rfl) ?_
  refine DRQ.gv 6 rfl rfl (.plain rfl (by simp) rfl) rfl (fun hb => o_ldpg G23 rfl rfl rfl) ?_
  refine DRQ.gv 6 rfl rfl (.plain rfl (by simp) rfl) rfl (fun hb => o_sig 9 id (c55 c.tl c.th f.shop.tl f.shop.th) e55 rfl rfl rfl w55 trivial r55) ?_
  refine DRQ.gv 6 rfl rfl (.plain rfl (by simp) rfl) rfl (fun hb => o_not rfl) ?_
  refine DRQ.v rfl rfl rfl (o_or rfl rfl rfl (by first | (simp; done) | simp_all)) ?_
  refine DRQ.v rfl rfl rfl (o_move rfl) ?_
  refine DRQ.gv 7 rfl rfl (.plain rfl (by simp) rfl) rfl (fun hb => o_fldp F71_1 rfl) ?_
  refine DRQ.gv 7 rfl rfl (.plain rfl (by simp) rfl) rfl (fun hb => o_ldpg G23 rfl rfl rfl) ?_
  refine DRQ.gv 7 rfl rfl (.plain rfl (by simp) rfl) rfl (fun hb => o_fldp F31_0 rfl) ?_
  refine DRQ.gv 7 rfl rfl (.plain rfl (by simp) rfl) rfl (fun hb => o_fldp F28_0 rfl) ?_
  refine DRQ.gv 7 rfl rfl (.plain rfl (by simp) rfl) rfl (fun hb => o_fldp F25_2 rfl) ?_
  refine DRQ.gv 7 rfl rfl (.plain rfl (by simp) rfl) rfl (fun hb => o_ldpg G23 rfl rfl rfl) ?_
  refine DRQ.gv 7 rfl rfl (.plain rfl (by simp) rfl) rfl (fun hb => o_sig 9 id (c55 c.al c.ah f.shop.al f.shop.ah) e55 rfl rfl rfl w55 trivial r55) ?_
  refine DRQ.gv 7 rfl rfl (.plain rfl (by simp) rfl) rfl (fun hb => o_not rfl) ?_
  refine DRQ.v rfl rfl rfl (o_or rfl rfl rfl (by first | (simp; done) | simp_all)) ?_
  refine DRQ.v rfl rfl rfl (o_move rfl) ?_
  refine DRQ.gv 8 rfl rfl (.plain rfl (by simp) rfl) rfl (fun hb => o_fldp F71_3 rfl) ?_
  refine DRQ.gv 8 rfl rfl (.plain rfl (by simp) rfl) rfl (fun hb => o_ldpg G23 rfl rfl rfl) ?_
  refine DRQ.gv 8 rfl rfl (.plain rfl (by simp) rfl) rfl (fun hb => o_fldp F31_1 rfl) ?_
  refine DRQ.gv 8 rfl rfl (.plain rfl (by simp) rfl) rfl (fun hb => o_ldp S29 rfl rfl rfl) ?_
  refine DRQ.gv 8 rfl rfl (.plain rfl (by simp) rfl) rfl (fun hb => o_fldp F71_2 rfl) ?_
  refine DRQ.gv 8 rfl rfl (.plain rfl (by simp) rfl) rfl (fun hb => o_ldp S3 rfl rfl rfl) ?_
  refine DRQ.gx 8 9 rfl rfl (.plain rfl (by simp) rfl) rfl rfl (fun hb => o_idx L29 rfl (lx rfl) rfl (by simp [within] at hb; omega) (by simp [within] at hb; omega)) ?_
  refine DRQ.gv 8 rfl rfl (.plain rfl (by simp) rfl) rfl (fun hb => o_fldq F75_0 rfl (lxi hb rfl)) ?_
  refine DRQ.gv 8 rfl rfl (.plain rfl (by simp) rfl) rfl (fun hb => o_ldeg G23 rfl (lxi hb rfl) (strG rfl) rfl rfl) ?_
  refine DRQ.gv 8 rfl rfl (.plain rfl (by simp) rfl) rfl (fun hb => o_sig 10 id (c55 c.dl c.dh ((nth f.nights c.night).lo) ((nth f.nights c.night).hi)) e55 rfl rfl rfl w55 trivial r55) ?_
  refine DRQ.gv 8 rfl rfl (.plain rfl (by simp) rfl) rfl (fun hb => o_not rfl) ?_
  refine DRQ.v rfl rfl rfl (o_or rfl rfl rfl (by first | (simp; done) | simp_all)) ?_
  refine DRQ.nil' ?_
  refine EX.then ?_
  refine WP.cond rfl (fun hc1 => ?_) (fun hc1 => ?_)
  · try simp only [decide_eq_true_eq, decide_eq_false_iff_not, Bool.and_eq_true, Bool.or_eq_true, Bool.and_eq_false_iff, Bool.or_eq_false_iff, Bool.not_eq_true', Bool.not_eq_false', ne_eq, Decidable.not_not] at hc1
    refine WP.seq ?_
    refine WP.region ?_
    refine WPl.cs 10 rfl rfl rfl rfl (o_sig 10 id c16 e16 rfl rfl rfl w16 trivial r16) ?_
    refine WPl.v rfl (o_assign rfl) ?_
    refine WPl.nil ?_
    refine EX.then ?_
    refine WP.ret ?_
    refine EX.ret_then ?_
    exact EX.fin id (.inl rfl) rfl (.tmp rfl .nil) rfl r7 trivial (by simp) (by simp)
  · try simp only [decide_eq_true_eq, decide_eq_false_iff_not, Bool.and_eq_true, Bool.or_eq_true, Bool.and_eq_false_iff, Bool.or_eq_false_iff, Bool.not_eq_true', Bool.not_eq_false', ne_eq, Decidable.not_not] at hc1
    obtain ⟨⟨⟨⟨hr1, hr2⟩, hr3⟩, hr4⟩, hr5⟩ := hc1
    simp only [within, Bool.and_eq_true, decide_eq_true_eq] at hr2
    have hrd := rdy_parts hr1
    have hf := hrd.2
    have hcb := Fnd.chkB hf
    have law := hlaw hf ⟨by omega, by omega⟩ ⟨hr3.1.1, hr3.1.2, hr3.2⟩ ⟨hr4.1.1, hr4.1.2, hr4.2⟩ ⟨hr5.1.1, hr5.1.2, hr5.2⟩
    refine WP.skip ?_
    refine EX.then ?_
    refine WP.seq ?_
    refine WP.region ?_
    refine WPl.v rfl (o_ldpa G31 rfl rfl rfl) ?_
    refine WPl.cL 12 rfl rfl rfl rfl rfl (o_sigo 10 (ren [(0, 0), (1, 1)]) (c17O f (by omega) (by omega)) e17 rfl rfl SvsOK.rf w17O ⟨(lx rfl), (lx rfl), trivial⟩ r17O rfl rfl) ?_
    refine WPl.l 12 13 rfl rfl rfl (o_alloc Z31) ?_
    refine WPl.s1 (o_stag G31 rfl rfl rfl ⟨rfl, rfl, rfl, rfl, rfl, rfl, rfl, rfl, rfl, rfl, (.inr ⟨_, _, _, _, rfl⟩), (.inr ⟨_, _, _, _, rfl⟩), trivial⟩ rfl rfl) ?_
    refine WPl.nil ?_
    refine EX.then ?_
    refine WP.seq ?_
    refine WP.draw (nf := 13) [⟨[63, 64], [], [], [], []⟩, ⟨[63, 64], [], [], [], [0]⟩, ⟨[61, 62, 65, 66, 67], [12], [], [], []⟩, ⟨[61, 62, 65, 66, 67], [12], [], [], [2]⟩, ⟨[63, 64], [], [], [], [0, 1]⟩, ⟨[63, 64], [], [], [], [0, 1, 4]⟩, ⟨[63, 64], [], [], [], [0, 1, 4, 5]⟩, ⟨[63, 64], [], [], [12], [0, 1, 4, 5, 6]⟩, ⟨[], [], [], [], [0, 1, 2, 3, 4, 5, 6, 7]⟩, ⟨[], [], [], [], [0, 1, 2, 3, 4, 5, 6, 7, 8]⟩, ⟨[], [], [], [], [0, 1, 2, 3, 4, 5, 6, 7, 8, 9]⟩, ⟨[], [], [], [12], [0, 1, 2, 3, 4, 5, 6, 7, 8, 9, 10]⟩] (by kernel_rfl) (by kernel_rfl) ?_
    refine DRQ.v rfl rfl rfl (o_fldp F71_0 rfl) ?_
    refine DRQ.v rfl rfl rfl (o_ldpg G23 rfl rfl rfl) ?_
    refine DRQ.v rfl rfl rfl (o_fldp F71_1 rfl) ?_
    refine DRQ.v rfl rfl rfl (o_ldpg G23 rfl rfl rfl) ?_
    refine DRQ.v rfl rfl rfl (o_fldp F31_0 rfl) ?_
    refine DRQ.v rfl rfl rfl (o_fldp F28_0 rfl) ?_
    refine DRQ.v rfl rfl rfl (o_fldp F25_1 rfl) ?_
    refine DRQ.s 12 rfl rfl rfl (o_stag G23 rfl rfl rfl ⟨rfl, rfl, trivial⟩ rfl rfl) ?_
    refine DRQ.v rfl rfl rfl (o_fldp F31_0 rfl) ?_
    refine DRQ.v rfl rfl rfl (o_fldp F28_0 rfl) ?_
    refine DRQ.v rfl rfl rfl (o_fldp F25_2 rfl) ?_
    refine DRQ.s 12 rfl rfl rfl (o_stag G23 rfl rfl rfl ⟨rfl, rfl, trivial⟩ rfl rfl) ?_
    refine DRQ.nil' ?_
    refine EX.then ?_
    refine WP.seq ?_
    refine WP.region ?_
    refine WPl.v rfl (o_fldp F31_1 rfl) ?_
    refine WPl.v rfl (o_ldp S29 rfl rfl rfl) ?_
    refine WPl.v rfl (o_fldp F71_2 rfl) ?_
    refine WPl.v rfl (o_ldp S3 rfl rfl rfl) ?_
    refine WPl.v rfl (o_idxo L29 rfl rfl rfl (by first | omega | (simp; omega)) (by first | omega | (simp; omega))) ?_
    refine WPl.v rfl (o_ldoG G75 rfl rfl rfl rfl (by first | omega | (simp; omega)) (by first | omega | (simp; omega)) (strG rfl) rfl rfl) ?_
    refine WPl.l 13 14 rfl rfl rfl (o_alloc Z75) ?_
    refine WPl.s1 (o_stag G75 rfl rfl rfl ⟨rfl, rfl, rfl, trivial⟩ rfl rfl) ?_
    refine WPl.nil ?_
    refine EX.then ?_
    refine WP.seq ?_
    refine WP.region ?_
    refine WPl.v rfl (o_fldp F71_3 rfl) ?_
    refine WPl.v rfl (o_ldpg G23 rfl rfl rfl) ?_
    refine WPl.v rfl (o_fldp F75_0 rfl) ?_
    refine WPl.s1 (o_stag G23 rfl rfl rfl ⟨rfl, rfl, trivial⟩ rfl rfl) ?_
    refine WPl.nil ?_
    refine EX.then ?_
    refine WP.seq ?_
    refine WP.region ?_
    refine WPl.v rfl (o_fldp F31_1 rfl) ?_
    refine WPl.v rfl (o_ldp S29 rfl rfl rfl) ?_
    refine WPl.v rfl (o_fldp F71_2 rfl) ?_
    refine WPl.v rfl (o_ldp S3 rfl rfl rfl) ?_
    refine WPl.v rfl (o_ldpa G75 rfl rfl rfl) ?_
    refine WPl.v rfl (o_idxo L29 rfl rfl rfl (by first | omega | (simp; omega)) (by first | omega | (simp; omega))) ?_
    refine WPl.s1 (o_steE2 (z := ({ nth f.nights c.night with lo := c.dl, hi := c.dh } : Night)) Try.sizeOf75 rfl rfl rfl ⟨rfl, rfl, rfl, trivial⟩ (eok_str ⟨rfl, rfl, rfl, trivial⟩) rfl rfl rfl (by first | omega | (simp; omega)) (by first | omega | (simp; omega))) ?_
    refine WPl.nil ?_
    refine EX.then ?_
    refine WP.seq ?_
    refine WP.region ?_
    refine WPl.imp (Imp.frz (E := EPig) (l := [] ++ f.shop.pigs) 10 rfl rfl) ?_
    refine WPl.imp (Imp.frz (E := ENight) (l := lset ([] ++ f.nights) c.night ({ nth f.nights c.night with lo := c.dl, hi := c.dh } : Night)) 11 rfl rfl) ?_
    refine WPl.v rfl (o_ldpa G31 rfl rfl rfl) ?_
    refine WPl.cs 14 rfl rfl rfl rfl (o_sig 14 (ren [(0, 0), (1, 1)]) (c28 f (by omega)) e28 rfl rfl rfl w28 ⟨(lx rfl), (lx rfl), trivial⟩ r28) ?_
    refine WPl.v rfl (o_move rfl) ?_
    refine WPl.v rfl (o_extract rfl rfl) ?_
    refine WPl.v rfl (o_extract rfl rfl) ?_
    refine WPl.v rfl (o_assign rfl) ?_
    refine WPl.v rfl (o_assign rfl) ?_
    refine WPl.nil ?_
    refine EX.then ?_
    refine WP.seq ?_
    refine WP.region ?_
    refine WPl.v rfl (o_ldpa G31 rfl rfl rfl) ?_
    refine WPl.cs 14 rfl rfl rfl rfl (o_sig 14 (ren [(0, 10), (1, 11)]) (c28 (f.cleared c) (by show f.shop.pigs.length ≤ 40; omega)) e28 rfl rfl rfl w28 ⟨(lx rfl), (lx rfl), trivial⟩ r28) ?_
    refine WPl.v rfl (o_move rfl) ?_
    refine WPl.v rfl (o_extract rfl rfl) ?_
    refine WPl.v rfl (o_extract rfl rfl) ?_
    refine WPl.v rfl (o_assign rfl) ?_
    refine WPl.v rfl (o_assign rfl) ?_
    refine WPl.nil ?_
    refine EX.then ?_
    refine WP.seq ?_
    refine WP.seq ?_
    refine WP.region ?_
    refine WPl.v rfl (o_ldpa G31 rfl rfl rfl) ?_
    refine WPl.v rfl (o_ldpa G31 rfl rfl rfl) ?_
    refine WPl.cs 14 rfl rfl rfl rfl (o_sig 14 (ren [(0, 10), (1, 11), (2, 0), (3, 1)]) (c56 (f.cleared c) f (by show f.shop.pigs.length ≤ 40; omega) (by omega) law.l) e56 rfl rfl rfl w56 ⟨(lx rfl), (lx rfl), (lx rfl), (lx rfl), trivial⟩ r56) ?_
    refine WPl.v rfl (o_not rfl) ?_
    refine WPl.v rfl (o_move rfl) ?_
    refine WPl.on rfl ⟨_, _, rfl, rfl, rfl⟩ (o_move rfl) ?_
    refine WPl.on rfl ⟨_, _, rfl, rfl, rfl⟩ (o_neq rfl rfl) ?_
    refine WPl.v rfl (o_pickF rfl rfl) ?_
    refine WPl.v rfl (o_move rfl) ?_
    refine WPl.bit 14 15 (!(decide ((errW f.chk) ≠ 0))) rfl rfl ?_
    refine WPl.gv 14 rfl rfl (.plain rfl (by simp) rfl) (fun hb => o_move rfl) ?_
    refine WPl.gv 14 rfl rfl (.plain rfl (by simp) rfl) (fun hb => o_neq rfl rfl) ?_
    refine WPl.v rfl (o_or rfl rfl rfl (by first | (simp; done) | simp_all)) ?_
    refine WPl.v rfl (o_move rfl) ?_
    refine WPl.bit 15 16 (!((decide ((errW f.chk) ≠ 0)) || (decide ((errW (f.cleared c).chk) ≠ 0)))) rfl rfl ?_
    refine WPl.gv 15 rfl rfl (.plain rfl (by simp) rfl) (fun hb => o_move rfl) ?_
    refine WPl.gv 15 rfl rfl (.plain rfl (by simp) rfl) (fun hb => o_move rfl) ?_
    refine WPl.gv 15 rfl rfl (.plain rfl (by simp) rfl) (fun hb => o_lss rfl rfl) ?_
    refine WPl.v rfl (o_or rfl rfl rfl (by first | (simp; done) | simp_all)) ?_
    refine WPl.nil ?_
    refine EX.then ?_
    refine WP.cond rfl (fun hc2 => ?_) (fun hc2 => ?_)
    · try simp only [decide_eq_true_eq, decide_eq_false_iff_not, Bool.and_eq_true, Bool.or_eq_true, Bool.and_eq_false_iff, Bool.or_eq_false_iff, Bool.not_eq_true', Bool.not_eq_false', ne_eq, Decidable.not_not] at hc2
      rw [hf, law.o] at hc2
      have hw := law.w
      simp [errW] at hc2
      omega
    · try simp only [decide_eq_true_eq, decide_eq_false_iff_not, Bool.and_eq_true, Bool.or_eq_true, Bool.and_eq_false_iff, Bool.or_eq_false_iff, Bool.not_eq_true', Bool.not_eq_false', ne_eq, Decidable.not_not] at hc2
      refine WP.skip ?_
      refine EX.then ?_
      refine WP.seq ?_
      refine WP.seq ?_
      refine WP.region ?_
      refine WPl.v rfl (o_ldpa G31 rfl rfl rfl) ?_
      refine WPl.v rfl (o_move rfl) ?_
      refine WPl.cs 16 rfl rfl rfl rfl (o_sig 16 (ren [(0, 0), (1, 1), (2, 2)]) (c33 f plan hf) e33 rfl rfl rfl w33 ⟨(lx rfl), (lx rfl), (lx rfl), trivial⟩ r33) ?_
      refine WPl.v rfl (o_not rfl) ?_
      refine WPl.nil ?_
      refine EX.then ?_
      refine WP.cond rfl (fun hc3 => ?_) (fun hc3 => ?_)
      · try simp only [decide_eq_true_eq, decide_eq_false_iff_not, Bool.and_eq_true, Bool.or_eq_true, Bool.and_eq_false_iff, Bool.or_eq_false_iff, Bool.not_eq_true', Bool.not_eq_false', ne_eq, Decidable.not_not] at hc3
        refine WP.seq ?_
        refine WP.region ?_
        refine WPl.cs 16 rfl rfl rfl rfl (o_sig 16 id c16 e16 rfl rfl rfl w16 trivial r16) ?_
        refine WPl.v rfl (o_assign rfl) ?_
        refine WPl.nil ?_
        refine EX.then ?_
        refine WP.ret ?_
        refine EX.ret_then ?_
        exact EX.fin id (.inl rfl) rfl (.tmp rfl .nil) rfl r7 trivial (by simp) (by simp)
      · try simp only [decide_eq_true_eq, decide_eq_false_iff_not, Bool.and_eq_true, Bool.or_eq_true, Bool.and_eq_false_iff, Bool.or_eq_false_iff, Bool.not_eq_true', Bool.not_eq_false', ne_eq, Decidable.not_not] at hc3
        have hip := isPlanL_parts hc3
        have hll := longP_len hip.1
        refine WP.skip ?_
        refine EX.then ?_
        refine WP.seq ?_
        refine WP.draw (nf := 17) [⟨[120, 121], [16], [], [], []⟩, ⟨[119], [], [], [], []⟩, ⟨[119], [], [16], [16], [1]⟩, ⟨[], [], [], [], [0, 1, 2]⟩, ⟨[], [], [], [], [0, 1, 2, 3]⟩, ⟨[124], [], [], [], [0, 1, 2, 3, 4]⟩, ⟨[123, 13], [], [], [], [0, 1, 2, 3, 4]⟩, ⟨[124], [], [], [], [0, 1, 2, 3, 4, 5]⟩, ⟨[], [], [], [], [0, 1, 2, 3, 4, 5, 6, 7]⟩] (by kernel_rfl) (by kernel_rfl) ?_
        refine DRQ.v rfl rfl rfl (o_ldpa G31 rfl rfl rfl) ?_
        refine DRQ.v rfl rfl rfl (o_move rfl) ?_
        refine DRQ.cs rfl rfl rfl rfl (o_sig 16 (ren [(0, 2)]) (c18 plan hll.1 hll.2) e18 rfl rfl rfl w18 ⟨(lx rfl), trivial⟩ r18) ?_
        refine DRQ.cs rfl rfl rfl rfl (o_sig 17 (ren [(0, 0), (1, 1), (2, 16)]) (c23 f plan (by omega)) e23 rfl rfl rfl w23 ⟨(lx rfl), (lx rfl), (lx rfl), trivial⟩ r23) ?_
        refine DRQ.v rfl rfl rfl (o_move rfl) ?_
        refine DRQ.v rfl rfl rfl (o_extract rfl rfl) ?_
        refine DRQ.v rfl rfl rfl (o_extract rfl rfl) ?_
        refine DRQ.v rfl rfl rfl (o_assign rfl) ?_
        refine DRQ.v rfl rfl rfl (o_assign rfl) ?_
        refine DRQ.nil' ?_
        refine EX.then ?_
        refine WP.seq ?_
        refine WP.draw (nf := 18) [⟨[127, 128], [17], [], [], []⟩, ⟨[126], [], [], [], []⟩, ⟨[126], [], [17], [17], [1]⟩, ⟨[], [], [], [], [0, 1, 2]⟩, ⟨[], [], [], [], [0, 1, 2, 3]⟩, ⟨[131], [], [], [], [0, 1, 2, 3, 4]⟩, ⟨[130, 14], [], [], [], [0, 1, 2, 3, 4]⟩, ⟨[131], [], [], [], [0, 1, 2, 3, 4, 5]⟩, ⟨[], [], [], [], [0, 1, 2, 3, 4, 5, 6, 7]⟩] (by kernel_rfl) (by kernel_rfl) ?_
        refine DRQ.v rfl rfl rfl (o_ldpa G31 rfl rfl rfl) ?_
        refine DRQ.v rfl rfl rfl (o_move rfl) ?_
        refine DRQ.cs rfl rfl rfl rfl (o_sig 17 (ren [(0, 2)]) (c18 plan hll.1 hll.2) e18 rfl rfl rfl w18 ⟨(lx rfl), trivial⟩ r18) ?_
        refine DRQ.cs rfl rfl rfl rfl (o_sig 18 (ren [(0, 10), (1, 11), (2, 17)]) (c23 (f.cleared c) plan (by show f.shop.pigs.length ≤ 40; omega)) e23 rfl rfl rfl w23 ⟨(lx rfl), (lx rfl), (lx rfl), trivial⟩ r23) ?_
        refine DRQ.v rfl rfl rfl (o_move rfl) ?_
        refine DRQ.v rfl rfl rfl (o_extract rfl rfl) ?_
        refine DRQ.v rfl rfl rfl (o_extract rfl rfl) ?_
        refine DRQ.v rfl rfl rfl (o_assign rfl) ?_
        refine DRQ.v rfl rfl rfl (o_assign rfl) ?_
        refine DRQ.nil' ?_
        refine EX.then ?_
        refine WP.seq ?_
        refine WP.region ?_
        refine WPl.v rfl (o_move rfl) ?_
        refine WPl.v rfl (o_eql rfl rfl) ?_
        refine WPl.v rfl (o_move rfl) ?_
        refine WPl.bit 18 19 (decide ((f.wOpen (f.wPlan plan)) = 0)) rfl rfl ?_
        refine WPl.gv 18 rfl rfl (.plain rfl Iff.rfl rfl) (fun hb => o_move rfl) ?_
        refine WPl.gv 18 rfl rfl (.plain rfl Iff.rfl rfl) (fun hb => o_eql rfl rfl) ?_
        refine WPl.v rfl (o_and rfl rfl rfl id) ?_
        refine WPl.imp (Imp.bitF 137 (b' := true) rfl (by rw [law.q1 hip.2, law.q2 hip.2]; rfl)) ?_
        refine WPl.v rfl (o_move rfl) ?_
        refine WPl.on rfl ⟨_, _, rfl, rfl, rfl⟩ (o_move rfl) ?_
        refine WPl.cL 20 rfl rfl rfl rfl ⟨_, _, rfl, rfl, rfl⟩ (o_sig 19 id (c35 (f.wSafeV plan) 1 3) e35 rfl rfl rfl w35 trivial r35) ?_
        refine WPl.v rfl (o_pickT rfl rfl) ?_
        refine WPl.imp (Imp.bitF 141 (b' := true) rfl (law.q3 hip.2)) ?_
        refine WPl.v rfl (o_move rfl) ?_
        refine WPl.on rfl ⟨_, _, rfl, rfl, rfl⟩ (o_move rfl) ?_
        refine WPl.on rfl ⟨_, _, rfl, rfl, rfl⟩ (o_eql rfl rfl) ?_
        refine WPl.on rfl ⟨_, _, rfl, rfl, rfl⟩ (o_move rfl) ?_
        refine WPl.bit 20 21 (!(decide ((f.wSafeV plan) = 3))) rfl rfl ?_
        refine WPl.gv 20 rfl rfl (.plain rfl (by simp) rfl) (fun hb => o_move rfl) ?_
        refine WPl.gv 20 rfl rfl (.plain rfl (by simp) rfl) (fun hb => o_move rfl) ?_
        refine WPl.gv 20 rfl rfl (.plain rfl (by simp) rfl) (fun hb => o_eql rfl rfl) ?_
        refine WPl.on rfl ⟨_, _, rfl, rfl, rfl⟩ (o_or rfl rfl rfl (by first | (simp; done) | simp_all)) ?_
        refine WPl.v rfl (o_pickT rfl rfl) ?_
        refine WPl.imp (Imp.bitF 150 (b' := true) rfl (by rcases law.q4 hip.2 with h | h; simp [h]; simp [h])) ?_
        refine WPl.v rfl (o_move rfl) ?_
        refine WPl.cL 22 rfl rfl rfl rfl ⟨_, _, rfl, rfl, rfl⟩ (o_sig 21 id c16 e16 rfl rfl rfl w16 trivial r16) ?_
        refine WPl.v rfl (o_pickT rfl rfl) ?_
        refine WPl.v rfl (o_assign rfl) ?_
        refine WPl.nil ?_
        refine EX.then ?_
        refine WP.ret ?_
        exact EX.fin id (.inl rfl) rfl (.tmp rfl .nil) rfl r7 trivial (by simp) (by simp)
end Go.Flong
