/- Part 5 of the texts behind the claim: KLM5 JM0t Lex MB11 KLM6 KLM7 MB12 KLM8 MB13 KLM9. -/
import Derived.Test.YtgdaeapahfjobaaZC4
set_option linter.unusedSimpArgs false
set_option linter.unusedVariables false
namespace Go.Flong
open Go Go.Eng Go.Proofs
theorem e19 : Enters' Try.prog 19 := Try.call19
theorem w5 {s : Shop} {kind room : Int} : ∀ x ∈ ([.e (.g [ai (s.pounds), ai (s.tl), ai (s.th), ai (s.al), ai (s.ah), ai (s.room), ai (s.tpl), ai (s.tph), ai (s.apl), ai (s.aph), .q 0]), .i (kind), .i (room)] : List SV), x.res (keys (α := Pred) [(0, PL EPig (s.pigs))]) := by simp [SV.res, El.res, At.res, keys]
theorem r5  : SV.res (keys (α := Pred) []) (.b (true)) := by simp [SV.res, El.res, At.res, keys]
set_option maxHeartbeats 4000000 in
theorem c5 (s : Shop) (kind room : Int) (hlaw : s.ready = true → MoreLaw s kind room) : Sig Try.prog 5 [.e (.g [ai (s.pounds), ai (s.tl), ai (s.th), ai (s.al), ai (s.ah), ai (s.room), ai (s.tpl), ai (s.tph), ai (s.apl), ai (s.aph), .q 0]), .i (kind), .i (room)] [(0, PL EPig (s.pigs))] (.b (true)) [] := by
  refine Sig.intro Try.func5 rfl 1 [(0, .e (.g [ai (s.pounds), ai (s.tl), ai (s.th), ai (s.al), ai (s.ah), ai (s.room), ai (s.tpl), ai (s.tph), ai (s.apl), ai (s.aph), .q 0])), (1, .i (kind)), (2, .i (room))] rfl w5 rfl rfl fun I w => ?_
  refine WP.seq ?_
  refine WP.region ?_
  refine WPl.l 1 2 rfl rfl rfl (o_boxg rfl) ?_
  refine WPl.v rfl (o_assign rfl) ?_
  refine WPl.nil ?_
  refine EX.then ?_
  refine WP.seq ?_
  refine WP.seq ?_
  refine WP.region ?_
  refine WPl.v rfl (o_ldpa G28 rfl rfl rfl) ?_
  refine WPl.cs 2 rfl rfl rfl rfl (o_sig 2 (ren [(0, 0)]) (c15 s) e15 rfl rfl rfl w15 ⟨(lx rfl), trivial⟩ r15) ?_
  refine WPl.v rfl (o_not rfl) ?_
  refine WPl.nil ?_
  refine EX.then ?_
  refine WP.cond rfl (fun hc1 => ?_) (fun hc1 => ?_)
  · try simp only [decide_eq_true_eq, decide_eq_false_iff_not, Bool.and_eq_true, Bool.or_eq_true, Bool.and_eq_false_iff, Bool.or_eq_false_iff, Bool.not_eq_true', Bool.not_eq_false', ne_eq, Decidable.not_not] at hc1
    refine WP.seq ?_
    refine WP.region ?_
    refine WPl.cs 2 rfl rfl rfl rfl (o_sig 2 id c17 e17 rfl rfl rfl w17 trivial r17) ?_
    refine WPl.v rfl (o_assign rfl) ?_
    refine WPl.nil ?_
    refine EX.then ?_
    refine WP.ret ?_
    refine EX.ret_then ?_
    exact EX.fin id (.inl rfl) rfl (.tmp rfl .nil) rfl r5 trivial (by simp) (by simp)
  · try simp only [decide_eq_true_eq, decide_eq_false_iff_not, Bool.and_eq_true, Bool.or_eq_true, Bool.and_eq_false_iff, Bool.or_eq_false_iff, Bool.not_eq_true', Bool.not_eq_false', ne_eq, Decidable.not_not] at hc1
    have hr : s.ready = true := by simpa using hc1
    have law := hlaw hr
    have hs : s.chk = true := ready_chk hr
    have hpg := Shop.pigsOK hs
    have hl4 := hpg.2
    have hcb := mCheap_bnd s
    have hcl : 0 ≤ s.lCheap ∧ s.lCheap ≤ 1000000 := by unfold Shop.lCheap; split <;> omega
    refine WP.skip ?_
    refine EX.then ?_
    refine WP.seq ?_
    refine WP.seq ?_
    refine WP.region ?_
    refine WPl.v rfl (o_move rfl) ?_
    refine WPl.v rfl (o_fldp F28_1 rfl) ?_
    refine WPl.v rfl (o_ldp S3 rfl rfl rfl) ?_
    refine WPl.v rfl (o_gtr rfl rfl) ?_
    refine WPl.nil ?_
    refine EX.then ?_
    refine WP.cond rfl (fun hc2 => ?_) (fun hc2 => ?_)
    · try simp only [decide_eq_true_eq, decide_eq_false_iff_not, Bool.and_eq_true, Bool.or_eq_true, Bool.and_eq_false_iff, Bool.or_eq_false_iff, Bool.not_eq_true', Bool.not_eq_false', ne_eq, Decidable.not_not] at hc2
      refine WP.seq ?_
      refine WP.region ?_
      refine WPl.v rfl (o_ldpa G28 rfl rfl rfl) ?_
      refine WPl.cs 3 rfl rfl rfl rfl (o_sig 2 (ren [(0, 0)]) (c18 s (by omega)) e18 rfl rfl rfl w18 ⟨(lx rfl), trivial⟩ r18) ?_
      refine WPl.l 3 4 rfl rfl rfl (o_alloc Z28) ?_
      refine WPl.s1 (o_stag G28 rfl rfl rfl ⟨rfl, rfl, rfl, rfl, rfl, rfl, rfl, rfl, rfl, rfl, (.inl ⟨_, (lx rfl), PL.one⟩), trivial⟩ rfl rfl) ?_
      refine WPl.nil ?_
      refine EX.then ?_
      refine WP.seq ?_
      refine WP.region ?_
      refine WPl.v rfl (o_move rfl) ?_
      refine WPl.v rfl (o_fldp F28_1 rfl) ?_
      refine WPl.s1 (o_sta S3 rfl rfl rfl rfl rfl) ?_
      refine WPl.nil ?_
      refine EX.then ?_
      refine WP.seq ?_
      refine WP.region ?_
      refine WPl.v rfl (o_ldpa G28 rfl rfl rfl) ?_
      refine WPl.cs 4 rfl rfl rfl rfl (o_sig 4 (ren [(0, 2)]) (c15 (s.roomed room)) e15 rfl rfl rfl w15 ⟨(lx rfl), trivial⟩ r15) ?_
      refine WPl.v rfl (o_move rfl) ?_
      refine WPl.bit 4 5 ((s.roomed room).ready) rfl rfl ?_
      refine WPl.gv 4 rfl rfl (.plain rfl Iff.rfl rfl) (fun hb => o_ldpa G28 rfl rfl rfl) ?_
      refine WPl.gv 4 rfl rfl (.plain rfl Iff.rfl rfl) (fun hb => o_ldpa G28 rfl rfl rfl) ?_
      refine WPl.gc0 4 rfl rfl (.plain rfl Iff.rfl rfl) (fun hb => o_sig 5 (ren [(0, 2), (1, 0)]) (c19 (s.roomed room) s (ready_chk hb) hs) e19 rfl rfl rfl w19 ⟨(lx rfl), (lx rfl), trivial⟩ r19) ?_
      refine WPl.gv 4 rfl rfl (.plain rfl Iff.rfl rfl) (fun hb => o_not rfl) ?_
      refine WPl.v rfl (o_and rfl rfl rfl id) ?_
      refine WPl.nil ?_
      refine EX.then ?_
      refine WP.cond rfl (fun hc3 => ?_) (fun hc3 => ?_)
      · try simp only [decide_eq_true_eq, decide_eq_false_iff_not, Bool.and_eq_true, Bool.or_eq_true, Bool.and_eq_false_iff, Bool.or_eq_false_iff, Bool.not_eq_true', Bool.not_eq_false', ne_eq, Decidable.not_not] at hc3
        exfalso
        have h := (by simpa using hc3 : (s.roomed room).ready = true ∧ less2 (s.roomed room) s = false)
        have h2 := law.r (by simpa using hc2) h.1
        rw [h.2] at h2; cases h2
      · try simp only [decide_eq_true_eq, decide_eq_false_iff_not, Bool.and_eq_true, Bool.or_eq_true, Bool.and_eq_false_iff, Bool.or_eq_false_iff, Bool.not_eq_true', Bool.not_eq_false', ne_eq, Decidable.not_not] at hc3
        refine WP.skip ?_
        refine EX.then ?_
        refine WP.seq ?_
        refine WP.seq ?_
        refine WP.region ?_
        refine WPl.v rfl (o_move rfl) ?_
        refine WPl.v rfl (o_fldp F28_4 rfl) ?_
        refine WPl.v rfl (o_ldp S26 rfl rfl rfl) ?_
        refine WPl.v rfl (o_lenq L26 rfl (lx rfl)) ?_
        refine WPl.v rfl (o_sub rfl rfl (by first | omega | (simp; omega)) (by first | omega | (simp; omega))) ?_
        refine WPl.cs 5 rfl rfl rfl rfl (o_sig 5 id (c24 kind 0 ((s.pigs.length : Int) - 1)) e24 rfl rfl rfl w24 trivial r24) ?_
        refine WPl.v rfl (o_not rfl) ?_
        refine WPl.nil ?_
        refine EX.then ?_
        refine WP.cond rfl (fun hc4 => ?_) (fun hc4 => ?_)
        · try simp only [decide_eq_true_eq, decide_eq_false_iff_not, Bool.and_eq_true, Bool.or_eq_true, Bool.and_eq_false_iff, Bool.or_eq_false_iff, Bool.not_eq_true', Bool.not_eq_false', ne_eq, Decidable.not_not] at hc4
          refine WP.seq ?_
          refine WP.region ?_
          refine WPl.cs 5 rfl rfl rfl rfl (o_sig 5 id c17 e17 rfl rfl rfl w17 trivial r17) ?_
          refine WPl.v rfl (o_assign rfl) ?_
          refine WPl.nil ?_
          refine EX.then ?_
          refine WP.ret ?_
          refine EX.ret_then ?_
          exact EX.fin id (.inl rfl) rfl (.tmp rfl .nil) rfl r5 trivial (by simp) (by simp)
        · try simp only [decide_eq_true_eq, decide_eq_false_iff_not, Bool.and_eq_true, Bool.or_eq_true, Bool.and_eq_false_iff, Bool.or_eq_false_iff, Bool.not_eq_true', Bool.not_eq_false', ne_eq, Decidable.not_not] at hc4
          have hk : 0 ≤ kind ∧ kind < s.pigs.length := by simp [within] at hc4; omega
          have hk2 := Pig.bnds (hpg.at (show kind.toNat < s.pigs.length by omega))
          rw [show ((kind.toNat : Nat) : Int) = kind by omega] at hk2
          refine WP.skip ?_
          refine EX.then ?_
          refine WP.seq ?_
          refine WP.seq ?_
          refine WP.draw (nf := 8) [⟨[44, 45, 46, 47, 48, 49, 50, 51, 8], [5, 7], [], [], []⟩, ⟨[43, 45, 46, 47, 48, 49, 50, 51, 8], [5, 7], [], [], []⟩, ⟨[43, 44, 47, 8], [7], [], [], []⟩, ⟨[43, 44, 47, 8], [7], [], [], [2]⟩, ⟨[43, 44, 45, 46, 8], [7], [], [], []⟩, ⟨[43, 44, 8], [7], [5], [5], [2, 3, 4]⟩, ⟨[43, 44, 8], [7], [], [], [2, 3, 4, 5]⟩, ⟨[43, 44, 8], [7], [], [], [2, 3, 4, 5, 6]⟩, ⟨[43, 44, 8], [7], [], [], [2, 3, 4, 5, 6, 7]⟩, ⟨[8], [7], [6], [6], [0, 1, 2, 3, 4, 5, 6, 7, 8]⟩, ⟨[43, 44, 45, 46, 47, 48, 49, 50, 51, 52], [5, 6], [7], [7], []⟩, ⟨[], [], [], [7], [0, 1, 2, 3, 4, 5, 6, 7, 8, 9, 10]⟩] (by kernel_rfl) (by kernel_rfl) ?_
          refine DRQ.v rfl rfl rfl (o_ldpa G28 rfl rfl rfl) ?_
          refine DRQ.v rfl rfl rfl (o_move rfl) ?_
          refine DRQ.v rfl rfl rfl (o_fldp F28_4 rfl) ?_
          refine DRQ.v rfl rfl rfl (o_ldp S26 rfl rfl rfl) ?_
          refine DRQ.v rfl rfl rfl (o_move rfl) ?_
          refine DRQ.x 5 rfl rfl rfl rfl (o_idx L26 rfl (lx rfl) rfl (by first | omega | (simp; omega)) (by first | omega | (simp; omega))) ?_
          refine DRQ.v rfl rfl rfl (o_fldq F49_4 rfl (lx rfl)) ?_
          refine DRQ.v rfl rfl rfl (o_lde S3 rfl (lx rfl) (strI rfl)) ?_
          refine DRQ.v rfl rfl rfl (o_add rfl rfl (by first | omega | (simp; omega)) (by first | omega | (simp; omega))) ?_
          refine DRQ.cs rfl rfl rfl rfl (o_sig 6 (ren [(0, 0)]) (c25 s kind (((nth s.pigs kind).many) + 1) (by omega) hk) e25 rfl rfl rfl w25 ⟨(lx rfl), trivial⟩ r25) ?_
          refine DRQ.l 7 rfl rfl rfl rfl (o_alloc Z28) ?_
          refine DRQ.s 7 rfl rfl rfl (o_stag G28 rfl rfl rfl ⟨rfl, rfl, rfl, rfl, rfl, rfl, rfl, rfl, rfl, rfl, (.inl ⟨_, (lx rfl), PL.one⟩), trivial⟩ rfl rfl) ?_
          refine DRQ.nil' ?_
          refine EX.then ?_
          refine WP.seq ?_
          refine WP.region ?_
          refine WPl.v rfl (o_ldpa G28 rfl rfl rfl) ?_
          refine WPl.cs 8 rfl rfl rfl rfl (o_sig 8 (ren [(0, 6)]) (c15 (s.pigged kind ((nth s.pigs kind).many + 1))) e15 rfl rfl rfl w15 ⟨(lx rfl), trivial⟩ r15) ?_
          refine WPl.v rfl (o_move rfl) ?_
          refine WPl.bit 8 9 ((s.pigged kind ((nth s.pigs kind).many + 1)).ready) rfl rfl ?_
          refine WPl.gv 8 rfl rfl (.plain rfl Iff.rfl rfl) (fun hb => o_ldpa G28 rfl rfl rfl) ?_
          refine WPl.gv 8 rfl rfl (.plain rfl Iff.rfl rfl) (fun hb => o_ldpa G28 rfl rfl rfl) ?_
          refine WPl.gc0 8 rfl rfl (.plain rfl Iff.rfl rfl) (fun hb => o_sig 9 (ren [(0, 6), (1, 0)]) (c19 (s.pigged kind ((nth s.pigs kind).many + 1)) s (ready_chk hb) hs) e19 rfl rfl rfl w19 ⟨(lx rfl), (lx rfl), trivial⟩ r19) ?_
          refine WPl.gv 8 rfl rfl (.plain rfl Iff.rfl rfl) (fun hb => o_not rfl) ?_
          refine WPl.v rfl (o_and rfl rfl rfl id) ?_
          refine WPl.nil ?_
          refine EX.then ?_
          refine WP.cond rfl (fun hc5 => ?_) (fun hc5 => ?_)
          · try simp only [decide_eq_true_eq, decide_eq_false_iff_not, Bool.and_eq_true, Bool.or_eq_true, Bool.and_eq_false_iff, Bool.or_eq_false_iff, Bool.not_eq_true', Bool.not_eq_false', ne_eq, Decidable.not_not] at hc5
            exfalso
            have h := (by simpa using hc5 : (s.pigged kind ((nth s.pigs kind).many + 1)).ready = true ∧ less2 (s.pigged kind ((nth s.pigs kind).many + 1)) s = false)
            have h2 := law.p hk.1 hk.2 h.1
            rw [h.2] at h2; cases h2
          · try simp only [decide_eq_true_eq, decide_eq_false_iff_not, Bool.and_eq_true, Bool.or_eq_true, Bool.and_eq_false_iff, Bool.or_eq_false_iff, Bool.not_eq_true', Bool.not_eq_false', ne_eq, Decidable.not_not] at hc5
            refine WP.skip ?_
            refine EX.then ?_
            refine WP.seq ?_
            refine WP.region ?_
            refine WPl.v rfl (o_ldpa G28 rfl rfl rfl) ?_
            refine WPl.cL 10 rfl rfl rfl rfl rfl (o_sigo 9 (ren [(0, 0)]) (c18O s (by omega)) e18 rfl rfl SvsOK.rf w18O ⟨(lx rfl), trivial⟩ r18O rfl rfl) ?_
            refine WPl.l 10 11 rfl rfl rfl (o_alloc Z28) ?_
            refine WPl.s1 (o_stag G28 rfl rfl rfl ⟨rfl, rfl, rfl, rfl, rfl, rfl, rfl, rfl, rfl, rfl, (.inr ⟨_, _, _, _, rfl⟩), trivial⟩ rfl rfl) ?_
            refine WPl.nil ?_
            refine EX.then ?_
            refine WP.seq ?_
            refine WP.region ?_
            refine WPl.v rfl (o_fldp F28_4 rfl) ?_
            refine WPl.v rfl (o_ldp S26 rfl rfl rfl) ?_
            refine WPl.v rfl (o_move rfl) ?_
            refine WPl.v rfl (o_idxo L26 rfl rfl rfl (by first | omega | (simp; omega)) (by first | omega | (simp; omega))) ?_
            refine WPl.v rfl (o_ldoG G49 rfl rfl rfl rfl (by first | omega | (simp; omega)) (by first | omega | (simp; omega)) (strG rfl) rfl rfl) ?_
            refine WPl.l 11 12 rfl rfl rfl (o_alloc Z49) ?_
            refine WPl.s1 (o_stag G49 rfl rfl rfl ⟨rfl, rfl, rfl, rfl, rfl, trivial⟩ rfl rfl) ?_
            refine WPl.nil ?_
            refine EX.then ?_
            refine WP.seq ?_
            refine WP.region ?_
            refine WPl.v rfl (o_fldp F49_3 rfl) ?_
            refine WPl.v rfl (o_ldp S3 rfl rfl rfl) ?_
            refine WPl.v rfl (o_add rfl rfl (by first | omega | (simp; omega)) (by first | omega | (simp; omega))) ?_
            refine WPl.v rfl (o_fldp F49_3 rfl) ?_
            refine WPl.s1 (o_sta S3 rfl rfl rfl rfl rfl) ?_
            refine WPl.nil ?_
            refine EX.then ?_
            refine WP.seq ?_
            refine WP.region ?_
            refine WPl.v rfl (o_fldp F28_4 rfl) ?_
            refine WPl.v rfl (o_ldp S26 rfl rfl rfl) ?_
            refine WPl.v rfl (o_move rfl) ?_
            refine WPl.v rfl (o_ldpa G49 rfl rfl rfl) ?_
            refine WPl.v rfl (o_idxo L26 rfl rfl rfl (by first | omega | (simp; omega)) (by first | omega | (simp; omega))) ?_
            refine WPl.s1 (o_steE2 (z := ({ nth s.pigs kind with pence := (nth s.pigs kind).pence + 1 } : Pig)) Try.sizeOf49 rfl rfl rfl ⟨rfl, rfl, rfl, rfl, rfl, trivial⟩ (eok_str ⟨rfl, rfl, rfl, rfl, rfl, trivial⟩) rfl rfl rfl (by first | omega | (simp; omega)) (by first | omega | (simp; omega))) ?_
            refine WPl.nil ?_
            refine EX.then ?_
            refine WP.seq ?_
            refine WP.seq ?_
            refine WP.region ?_
            refine WPl.v rfl (o_ldpa G28 rfl rfl rfl) ?_
            refine WPl.cs 12 rfl rfl rfl rfl (o_sigbc 12 (ren [(0, 9)]) (Sig.free (c15 (s.penced kind))) e15 rfl rfl SvsOK.rf w15 ⟨.own rfl rfl, trivial⟩ r15) ?_
            refine WPl.v rfl (o_not rfl) ?_
            refine WPl.nil ?_
            refine EX.then ?_
            refine WP.cond rfl (fun hc6 => ?_) (fun hc6 => ?_)
            · try simp only [decide_eq_true_eq, decide_eq_false_iff_not, Bool.and_eq_true, Bool.or_eq_true, Bool.and_eq_false_iff, Bool.or_eq_false_iff, Bool.not_eq_true', Bool.not_eq_false', ne_eq, Decidable.not_not] at hc6
              refine WP.seq ?_
              refine WP.region ?_
              refine WPl.cs 12 rfl rfl rfl rfl (o_sig 12 id c17 e17 rfl rfl rfl w17 trivial r17) ?_
              refine WPl.v rfl (o_assign rfl) ?_
              refine WPl.nil ?_
              refine EX.then ?_
              refine WP.ret ?_
              refine EX.ret_then ?_
              exact EX.fin id (.inl rfl) rfl (.tmp rfl .nil) rfl r5 trivial (by simp) (by simp)
            · try simp only [decide_eq_true_eq, decide_eq_false_iff_not, Bool.and_eq_true, Bool.or_eq_true, Bool.and_eq_false_iff, Bool.or_eq_false_iff, Bool.not_eq_true', Bool.not_eq_false', ne_eq, Decidable.not_not] at hc6
              have hro : (s.penced kind).ready = true := by simpa using hc6
              have hlc := law.c hk.1 hk.2 hro
              have ho := ready_chk hro
              refine WP.skip ?_
              refine EX.then ?_
              refine WP.seq ?_
              refine WP.region ?_
              refine WPl.v rfl (o_ldpa G28 rfl rfl rfl) ?_
              refine WPl.cs 12 rfl rfl rfl rfl (o_sig 12 (ren [(0, 0)]) (c26 s hs) e26 rfl rfl rfl w26 ⟨(lx rfl), trivial⟩ r26) ?_
              refine WPl.v rfl (o_move rfl) ?_
              refine WPl.v rfl (o_extract rfl rfl) ?_
              refine WPl.v rfl (o_extract rfl rfl) ?_
              refine WPl.v rfl (o_assign rfl) ?_
              refine WPl.v rfl (o_assign rfl) ?_
              refine WPl.nil ?_
              refine EX.then ?_
              refine WP.seq ?_
              refine WP.region ?_
              refine WPl.v rfl (o_ldpa G28 rfl rfl rfl) ?_
              refine WPl.cs 12 rfl rfl rfl rfl (o_sigbc 12 (ren [(0, 9)]) (Sig.free (c26 (s.penced kind) ho)) e26 rfl rfl SvsOK.rf w26 ⟨.own rfl rfl, trivial⟩ r26) ?_
              refine WPl.v rfl (o_move rfl) ?_
              refine WPl.v rfl (o_extract rfl rfl) ?_
              refine WPl.v rfl (o_extract rfl rfl) ?_
              refine WPl.v rfl (o_assign rfl) ?_
              refine WPl.v rfl (o_assign rfl) ?_
              refine WPl.nil ?_
              refine EX.then ?_
              refine WP.seq ?_
              refine WP.region ?_
              refine WPl.v rfl (o_move rfl) ?_
              refine WPl.v rfl (o_move rfl) ?_
              refine WPl.on rfl ⟨_, _, rfl, rfl, rfl⟩ (o_move rfl) ?_
              refine WPl.v rfl (o_pickT rfl rfl) ?_
              refine WPl.v rfl (o_move rfl) ?_
              refine WPl.on rfl ⟨_, _, rfl, rfl, rfl⟩ (o_move rfl) ?_
              refine WPl.on rfl ⟨_, _, rfl, rfl, rfl⟩ (o_move rfl) ?_
              refine WPl.on rfl ⟨_, _, rfl, rfl, rfl⟩ (o_geq rfl rfl) ?_
              refine WPl.imp (Imp.bitF 98 (b' := true) rfl (decide_eq_true hlc.1)) ?_
              refine WPl.v rfl (o_pickT rfl rfl) ?_
              refine WPl.v rfl (o_move rfl) ?_
              refine WPl.on rfl ⟨_, _, rfl, rfl, rfl⟩ (o_move rfl) ?_
              refine WPl.on rfl ⟨_, _, rfl, rfl, rfl⟩ (o_move rfl) ?_
              refine WPl.ung ⟨_, _, rfl, rfl, rfl⟩ ?_
              refine WPl.v rfl (o_fldp F28_4 rfl) ?_
              refine WPl.ung ⟨_, _, rfl, rfl, rfl⟩ ?_
              refine WPl.v rfl (o_ldp S26 rfl rfl rfl) ?_
              refine WPl.on rfl ⟨_, _, rfl, rfl, rfl⟩ (o_move rfl) ?_
              refine WPl.ung ⟨_, _, rfl, rfl, rfl⟩ ?_
              refine WPl.x 12 13 rfl rfl rfl (o_idx L26 rfl (lx rfl) rfl (by first | omega | (simp; omega)) (by first | omega | (simp; omega))) ?_
              refine WPl.ung ⟨_, _, rfl, rfl, rfl⟩ ?_
              refine WPl.v rfl (o_fldq F49_4 rfl (lx rfl)) ?_
              refine WPl.ung ⟨_, _, rfl, rfl, rfl⟩ ?_
              refine WPl.v rfl (o_lde S3 rfl (lx rfl) (strI rfl)) ?_
              refine WPl.on rfl ⟨_, _, rfl, rfl, rfl⟩ (o_add rfl rfl (by first | omega | (simp; omega)) (by first | omega | (simp; omega))) ?_
              refine WPl.on rfl ⟨_, _, rfl, rfl, rfl⟩ (o_leq rfl rfl) ?_
              refine WPl.imp (Imp.bitF 110 (b' := true) rfl (decide_eq_true hlc.2.1)) ?_
              refine WPl.v rfl (o_pickT rfl rfl) ?_
              refine WPl.v rfl (o_move rfl) ?_
              refine WPl.on rfl ⟨_, _, rfl, rfl, rfl⟩ (o_move rfl) ?_
              refine WPl.on rfl ⟨_, _, rfl, rfl, rfl⟩ (o_lss rfl rfl) ?_
              refine WPl.on rfl ⟨_, _, rfl, rfl, rfl⟩ (o_move rfl) ?_
              refine WPl.bit 13 14 (!(decide (s.lCheap < 100000))) rfl rfl ?_
              refine WPl.gv 13 rfl rfl (.plain rfl (by first | (simp; done) | simp only [Bool.not_eq_true']) rfl) (fun hb => o_move rfl) ?_
              refine WPl.gv 13 rfl rfl (.plain rfl (by first | (simp; done) | simp only [Bool.not_eq_true']) rfl) (fun hb => o_eql rfl rfl) ?_
              refine WPl.on rfl ⟨_, _, rfl, rfl, rfl⟩ (o_or rfl rfl rfl (by first | (simp; done) | exact fun h => by rw [h]; rfl | exact fun h => Bool.and_eq_true_iff.2 ⟨hb, by rw [h]; rfl⟩ | simp_all)) ?_
              refine WPl.imp (Imp.bitF 118 (b' := true) rfl (by simpa using hlc.2.2)) ?_
              refine WPl.v rfl (o_pickT rfl rfl) ?_
              refine WPl.v rfl (o_move rfl) ?_
              refine WPl.ung ⟨_, _, rfl, rfl, rfl⟩ ?_
              refine WPl.cs 14 rfl rfl rfl rfl (o_sig 14 id c17 e17 rfl rfl rfl w17 trivial r17) ?_
              refine WPl.v rfl (o_pickT rfl rfl) ?_
              refine WPl.v rfl (o_assign rfl) ?_
              refine WPl.nil ?_
              refine EX.then ?_
              refine WP.ret ?_
              exact EX.fin id (.inl rfl) rfl (.tmp rfl .nil) rfl r5 trivial (by simp) (by simp)
    · try simp only [decide_eq_true_eq, decide_eq_false_iff_not, Bool.and_eq_true, Bool.or_eq_true, Bool.and_eq_false_iff, Bool.or_eq_false_iff, Bool.not_eq_true', Bool.not_eq_false', ne_eq, Decidable.not_not] at hc2
      refine WP.skip ?_
      refine EX.then ?_
      refine WP.seq ?_
      refine WP.seq ?_
      refine WP.region ?_
      refine WPl.v rfl (o_move rfl) ?_
      refine WPl.v rfl (o_fldp F28_4 rfl) ?_
      refine WPl.v rfl (o_ldp S26 rfl rfl rfl) ?_
      refine WPl.v rfl (o_lenq L26 rfl (lx rfl)) ?_
      refine WPl.v rfl (o_sub rfl rfl (by first | omega | (simp; omega)) (by first | omega | (simp; omega))) ?_
      refine WPl.cs 2 rfl rfl rfl rfl (o_sig 2 id (c24 kind 0 ((s.pigs.length : Int) - 1)) e24 rfl rfl rfl w24 trivial r24) ?_
      refine WPl.v rfl (o_not rfl) ?_
      refine WPl.nil ?_
      refine EX.then ?_
      refine WP.cond rfl (fun hc7 => ?_) (fun hc7 => ?_)
      · try simp only [decide_eq_true_eq, decide_eq_false_iff_not, Bool.and_eq_true, Bool.or_eq_true, Bool.and_eq_false_iff, Bool.or_eq_false_iff, Bool.not_eq_true', Bool.not_eq_false', ne_eq, Decidable.not_not] at hc7
        refine WP.seq ?_
        refine WP.region ?_
        refine WPl.cs 2 rfl rfl rfl rfl (o_sig 2 id c17 e17 rfl rfl rfl w17 trivial r17) ?_
        refine WPl.v rfl (o_assign rfl) ?_
        refine WPl.nil ?_
        refine EX.then ?_
        refine WP.ret ?_
        refine EX.ret_then ?_
        exact EX.fin id (.inl rfl) rfl (.tmp rfl .nil) rfl r5 trivial (by simp) (by simp)
      · try simp only [decide_eq_true_eq, decide_eq_false_iff_not, Bool.and_eq_true, Bool.or_eq_true, Bool.and_eq_false_iff, Bool.or_eq_false_iff, Bool.not_eq_true', Bool.not_eq_false', ne_eq, Decidable.not_not] at hc7
        have hk : 0 ≤ kind ∧ kind < s.pigs.length := by simp [within] at hc7; omega
        have hk2 := Pig.bnds (hpg.at (show kind.toNat < s.pigs.length by omega))
        rw [show ((kind.toNat : Nat) : Int) = kind by omega] at hk2
        refine WP.skip ?_
        refine EX.then ?_
        refine WP.seq ?_
        refine WP.seq ?_
        refine WP.draw (nf := 5) [⟨[44, 45, 46, 47, 48, 49, 50, 51, 8], [2, 4], [], [], []⟩, ⟨[43, 45, 46, 47, 48, 49, 50, 51, 8], [2, 4], [], [], []⟩, ⟨[43, 44, 47, 8], [4], [], [], []⟩, ⟨[43, 44, 47, 8], [4], [], [], [2]⟩, ⟨[43, 44, 45, 46, 8], [4], [], [], []⟩, ⟨[43, 44, 8], [4], [2], [2], [2, 3, 4]⟩, ⟨[43, 44, 8], [4], [], [], [2, 3, 4, 5]⟩, ⟨[43, 44, 8], [4], [], [], [2, 3, 4, 5, 6]⟩, ⟨[43, 44, 8], [4], [], [], [2, 3, 4, 5, 6, 7]⟩, ⟨[8], [4], [3], [3], [0, 1, 2, 3, 4, 5, 6, 7, 8]⟩, ⟨[43, 44, 45, 46, 47, 48, 49, 50, 51, 52], [2, 3], [4], [4], []⟩, ⟨[], [], [], [4], [0, 1, 2, 3, 4, 5, 6, 7, 8, 9, 10]⟩] (by kernel_rfl) (by kernel_rfl) ?_
        refine DRQ.v rfl rfl rfl (o_ldpa G28 rfl rfl rfl) ?_
        refine DRQ.v rfl rfl rfl (o_move rfl) ?_
        refine DRQ.v rfl rfl rfl (o_fldp F28_4 rfl) ?_
        refine DRQ.v rfl rfl rfl (o_ldp S26 rfl rfl rfl) ?_
        refine DRQ.v rfl rfl rfl (o_move rfl) ?_
        refine DRQ.x 2 rfl rfl rfl rfl (o_idx L26 rfl (lx rfl) rfl (by first | omega | (simp; omega)) (by first | omega | (simp; omega))) ?_
        refine DRQ.v rfl rfl rfl (o_fldq F49_4 rfl (lx rfl)) ?_
        refine DRQ.v rfl rfl rfl (o_lde S3 rfl (lx rfl) (strI rfl)) ?_
        refine DRQ.v rfl rfl rfl (o_add rfl rfl (by first | omega | (simp; omega)) (by first | omega | (simp; omega))) ?_
        refine DRQ.cs rfl rfl rfl rfl (o_sig 3 (ren [(0, 0)]) (c25 s kind (((nth s.pigs kind).many) + 1) (by omega) hk) e25 rfl rfl rfl w25 ⟨(lx rfl), trivial⟩ r25) ?_
        refine DRQ.l 4 rfl rfl rfl rfl (o_alloc Z28) ?_
        refine DRQ.s 4 rfl rfl rfl (o_stag G28 rfl rfl rfl ⟨rfl, rfl, rfl, rfl, rfl, rfl, rfl, rfl, rfl, rfl, (.inl ⟨_, (lx rfl), PL.one⟩), trivial⟩ rfl rfl) ?_
        refine DRQ.nil' ?_
        refine EX.then ?_
        refine WP.seq ?_
        refine WP.region ?_
        refine WPl.v rfl (o_ldpa G28 rfl rfl rfl) ?_
        refine WPl.cs 5 rfl rfl rfl rfl (o_sig 5 (ren [(0, 3)]) (c15 (s.pigged kind ((nth s.pigs kind).many + 1))) e15 rfl rfl rfl w15 ⟨(lx rfl), trivial⟩ r15) ?_
        refine WPl.v rfl (o_move rfl) ?_
        refine WPl.bit 5 6 ((s.pigged kind ((nth s.pigs kind).many + 1)).ready) rfl rfl ?_
        refine WPl.gv 5 rfl rfl (.plain rfl Iff.rfl rfl) (fun hb => o_ldpa G28 rfl rfl rfl) ?_
        refine WPl.gv 5 rfl rfl (.plain rfl Iff.rfl rfl) (fun hb => o_ldpa G28 rfl rfl rfl) ?_
        refine WPl.gc0 5 rfl rfl (.plain rfl Iff.rfl rfl) (fun hb => o_sig 6 (ren [(0, 3), (1, 0)]) (c19 (s.pigged kind ((nth s.pigs kind).many + 1)) s (ready_chk hb) hs) e19 rfl rfl rfl w19 ⟨(lx rfl), (lx rfl), trivial⟩ r19) ?_
        refine WPl.gv 5 rfl rfl (.plain rfl Iff.rfl rfl) (fun hb => o_not rfl) ?_
        refine WPl.v rfl (o_and rfl rfl rfl id) ?_
        refine WPl.nil ?_
        refine EX.then ?_
        refine WP.cond rfl (fun hc8 => ?_) (fun hc8 => ?_)
        · try simp only [decide_eq_true_eq, decide_eq_false_iff_not, Bool.and_eq_true, Bool.or_eq_true, Bool.and_eq_false_iff, Bool.or_eq_false_iff, Bool.not_eq_true', Bool.not_eq_false', ne_eq, Decidable.not_not] at hc8
          exfalso
          have h := (by simpa using hc8 : (s.pigged kind ((nth s.pigs kind).many + 1)).ready = true ∧ less2 (s.pigged kind ((nth s.pigs kind).many + 1)) s = false)
          have h2 := law.p hk.1 hk.2 h.1
          rw [h.2] at h2; cases h2
        · try simp only [decide_eq_true_eq, decide_eq_false_iff_not, Bool.and_eq_true, Bool.or_eq_true, Bool.and_eq_false_iff, Bool.or_eq_false_iff, Bool.not_eq_true', Bool.not_eq_false', ne_eq, Decidable.not_not] at hc8
          refine WP.skip ?_
          refine EX.then ?_
          refine WP.seq ?_
          refine WP.region ?_
          refine WPl.v rfl (o_ldpa G28 rfl rfl rfl) ?_
          refine WPl.cL 7 rfl rfl rfl rfl rfl (o_sigo 6 (ren [(0, 0)]) (c18O s (by omega)) e18 rfl rfl SvsOK.rf w18O ⟨(lx rfl), trivial⟩ r18O rfl rfl) ?_
          refine WPl.l 7 8 rfl rfl rfl (o_alloc Z28) ?_
          refine WPl.s1 (o_stag G28 rfl rfl rfl ⟨rfl, rfl, rfl, rfl, rfl, rfl, rfl, rfl, rfl, rfl, (.inr ⟨_, _, _, _, rfl⟩), trivial⟩ rfl rfl) ?_
          refine WPl.nil ?_
          refine EX.then ?_
          refine WP.seq ?_
          refine WP.region ?_
          refine WPl.v rfl (o_fldp F28_4 rfl) ?_
          refine WPl.v rfl (o_ldp S26 rfl rfl rfl) ?_
          refine WPl.v rfl (o_move rfl) ?_
          refine WPl.v rfl (o_idxo L26 rfl rfl rfl (by first | omega | (simp; omega)) (by first | omega | (simp; omega))) ?_
          refine WPl.v rfl (o_ldoG G49 rfl rfl rfl rfl (by first | omega | (simp; omega)) (by first | omega | (simp; omega)) (strG rfl) rfl rfl) ?_
          refine WPl.l 8 9 rfl rfl rfl (o_alloc Z49) ?_
          refine WPl.s1 (o_stag G49 rfl rfl rfl ⟨rfl, rfl, rfl, rfl, rfl, trivial⟩ rfl rfl) ?_
          refine WPl.nil ?_
          refine EX.then ?_
          refine WP.seq ?_
          refine WP.region ?_
          refine WPl.v rfl (o_fldp F49_3 rfl) ?_
          refine WPl.v rfl (o_ldp S3 rfl rfl rfl) ?_
          refine WPl.v rfl (o_add rfl rfl (by first | omega | (simp; omega)) (by first | omega | (simp; omega))) ?_
          refine WPl.v rfl (o_fldp F49_3 rfl) ?_
          refine WPl.s1 (o_sta S3 rfl rfl rfl rfl rfl) ?_
          refine WPl.nil ?_
          refine EX.then ?_
          refine WP.seq ?_
          refine WP.region ?_
          refine WPl.v rfl (o_fldp F28_4 rfl) ?_
          refine WPl.v rfl (o_ldp S26 rfl rfl rfl) ?_
          refine WPl.v rfl (o_move rfl) ?_
          refine WPl.v rfl (o_ldpa G49 rfl rfl rfl) ?_
          refine WPl.v rfl (o_idxo L26 rfl rfl rfl (by first | omega | (simp; omega)) (by first | omega | (simp; omega))) ?_
          refine WPl.s1 (o_steE2 (z := ({ nth s.pigs kind with pence := (nth s.pigs kind).pence + 1 } : Pig)) Try.sizeOf49 rfl rfl rfl ⟨rfl, rfl, rfl, rfl, rfl, trivial⟩ (eok_str ⟨rfl, rfl, rfl, rfl, rfl, trivial⟩) rfl rfl rfl (by first | omega | (simp; omega)) (by first | omega | (simp; omega))) ?_
          refine WPl.nil ?_
          refine EX.then ?_
          refine WP.seq ?_
          refine WP.seq ?_
          refine WP.region ?_
          refine WPl.v rfl (o_ldpa G28 rfl rfl rfl) ?_
          refine WPl.cs 9 rfl rfl rfl rfl (o_sigbc 9 (ren [(0, 6)]) (Sig.free (c15 (s.penced kind))) e15 rfl rfl SvsOK.rf w15 ⟨.own rfl rfl, trivial⟩ r15) ?_
          refine WPl.v rfl (o_not rfl) ?_
          refine WPl.nil ?_
          refine EX.then ?_
          refine WP.cond rfl (fun hc9 => ?_) (fun hc9 => ?_)
          · try simp only [decide_eq_true_eq, decide_eq_false_iff_not, Bool.and_eq_true, Bool.or_eq_true, Bool.and_eq_false_iff, Bool.or_eq_false_iff, Bool.not_eq_true', Bool.not_eq_false', ne_eq, Decidable.not_not] at hc9
            refine WP.seq ?_
            refine WP.region ?_
            refine WPl.cs 9 rfl rfl rfl rfl (o_sig 9 id c17 e17 rfl rfl rfl w17 trivial r17) ?_
            refine WPl.v rfl (o_assign rfl) ?_
            refine WPl.nil ?_
            refine EX.then ?_
            refine WP.ret ?_
            refine EX.ret_then ?_
            exact EX.fin id (.inl rfl) rfl (.tmp rfl .nil) rfl r5 trivial (by simp) (by simp)
          · try simp only [decide_eq_true_eq, decide_eq_false_iff_not, Bool.and_eq_true, Bool.or_eq_true, Bool.and_eq_false_iff, Bool.or_eq_false_iff, Bool.not_eq_true', Bool.not_eq_false', ne_eq, Decidable.not_not] at hc9
            have hro : (s.penced kind).ready = true := by simpa using hc9
            have hlc := law.c hk.1 hk.2 hro
            have ho := ready_chk hro
            refine WP.skip ?_
            refine EX.then ?_
            refine WP.seq ?_
            refine WP.region ?_
            refine WPl.v rfl (o_ldpa G28 rfl rfl rfl) ?_
            refine WPl.cs 9 rfl rfl rfl rfl (o_sig 9 (ren [(0, 0)]) (c26 s hs) e26 rfl rfl rfl w26 ⟨(lx rfl), trivial⟩ r26) ?_
            refine WPl.v rfl (o_move rfl) ?_
            refine WPl.v rfl (o_extract rfl rfl) ?_
            refine WPl.v rfl (o_extract rfl rfl) ?_
            refine WPl.v rfl (o_assign rfl) ?_
            refine WPl.v rfl (o_assign rfl) ?_
            refine WPl.nil ?_
            refine EX.then ?_
            refine WP.seq ?_
            refine WP.region ?_
            refine WPl.v rfl (o_ldpa G28 rfl rfl rfl) ?_
            refine WPl.cs 9 rfl rfl rfl rfl (o_sigbc 9 (ren [(0, 6)]) (Sig.free (c26 (s.penced kind) ho)) e26 rfl rfl SvsOK.rf w26 ⟨.own rfl rfl, trivial⟩ r26) ?_
            refine WPl.v rfl (o_move rfl) ?_
            refine WPl.v rfl (o_extract rfl rfl) ?_
            refine WPl.v rfl (o_extract rfl rfl) ?_
            refine WPl.v rfl (o_assign rfl) ?_
            refine WPl.v rfl (o_assign rfl) ?_
            refine WPl.nil ?_
            refine EX.then ?_
            refine WP.seq ?_
            refine WP.region ?_
            refine WPl.v rfl (o_move rfl) ?_
            refine WPl.v rfl (o_move rfl) ?_
            refine WPl.on rfl ⟨_, _, rfl, rfl, rfl⟩ (o_move rfl) ?_
            refine WPl.v rfl (o_pickT rfl rfl) ?_
            refine WPl.v rfl (o_move rfl) ?_
            refine WPl.on rfl ⟨_, _, rfl, rfl, rfl⟩ (o_move rfl) ?_
            refine WPl.on rfl ⟨_, _, rfl, rfl, rfl⟩ (o_move rfl) ?_
            refine WPl.on rfl ⟨_, _, rfl, rfl, rfl⟩ (o_geq rfl rfl) ?_
            refine WPl.imp (Imp.bitF 98 (b' := true) rfl (decide_eq_true hlc.1)) ?_
            refine WPl.v rfl (o_pickT rfl rfl) ?_
            refine WPl.v rfl (o_move rfl) ?_
            refine WPl.on rfl ⟨_, _, rfl, rfl, rfl⟩ (o_move rfl) ?_
            refine WPl.on rfl ⟨_, _, rfl, rfl, rfl⟩ (o_move rfl) ?_
            refine WPl.ung ⟨_, _, rfl, rfl, rfl⟩ ?_
            refine WPl.v rfl (o_fldp F28_4 rfl) ?_
            refine WPl.ung ⟨_, _, rfl, rfl, rfl⟩ ?_
            refine WPl.v rfl (o_ldp S26 rfl rfl rfl) ?_
            refine WPl.on rfl ⟨_, _, rfl, rfl, rfl⟩ (o_move rfl) ?_
            refine WPl.ung ⟨_, _, rfl, rfl, rfl⟩ ?_
            refine WPl.x 9 10 rfl rfl rfl (o_idx L26 rfl (lx rfl) rfl (by first | omega | (simp; omega)) (by first | omega | (simp; omega))) ?_
            refine WPl.ung ⟨_, _, rfl, rfl, rfl⟩ ?_
            refine WPl.v rfl (o_fldq F49_4 rfl (lx rfl)) ?_
            refine WPl.ung ⟨_, _, rfl, rfl, rfl⟩ ?_
            refine WPl.v rfl (o_lde S3 rfl (lx rfl) (strI rfl)) ?_
            refine WPl.on rfl ⟨_, _, rfl, rfl, rfl⟩ (o_add rfl rfl (by first | omega | (simp; omega)) (by first | omega | (simp; omega))) ?_
            refine WPl.on rfl ⟨_, _, rfl, rfl, rfl⟩ (o_leq rfl rfl) ?_
            refine WPl.imp (Imp.bitF 110 (b' := true) rfl (decide_eq_true hlc.2.1)) ?_
            refine WPl.v rfl (o_pickT rfl rfl) ?_
            refine WPl.v rfl (o_move rfl) ?_
            refine WPl.on rfl ⟨_, _, rfl, rfl, rfl⟩ (o_move rfl) ?_
            refine WPl.on rfl ⟨_, _, rfl, rfl, rfl⟩ (o_lss rfl rfl) ?_
            refine WPl.on rfl ⟨_, _, rfl, rfl, rfl⟩ (o_move rfl) ?_
            refine WPl.bit 10 11 (!(decide (s.lCheap < 100000))) rfl rfl ?_
            refine WPl.gv 10 rfl rfl (.plain rfl (by first | (simp; done) | simp only [Bool.not_eq_true']) rfl) (fun hb => o_move rfl) ?_
            refine WPl.gv 10 rfl rfl (.plain rfl (by first | (simp; done) | simp only [Bool.not_eq_true']) rfl) (fun hb => o_eql rfl rfl) ?_
            refine WPl.on rfl ⟨_, _, rfl, rfl, rfl⟩ (o_or rfl rfl rfl (by first | (simp; done) | exact fun h => by rw [h]; rfl | exact fun h => Bool.and_eq_true_iff.2 ⟨hb, by rw [h]; rfl⟩ | simp_all)) ?_
            refine WPl.imp (Imp.bitF 118 (b' := true) rfl (by simpa using hlc.2.2)) ?_
            refine WPl.v rfl (o_pickT rfl rfl) ?_
            refine WPl.v rfl (o_move rfl) ?_
            refine WPl.ung ⟨_, _, rfl, rfl, rfl⟩ ?_
            refine WPl.cs 11 rfl rfl rfl rfl (o_sig 11 id c17 e17 rfl rfl rfl w17 trivial r17) ?_
            refine WPl.v rfl (o_pickT rfl rfl) ?_
            refine WPl.v rfl (o_assign rfl) ?_
            refine WPl.nil ?_
            refine EX.then ?_
            refine WP.ret ?_
            exact EX.fin id (.inl rfl) rfl (.tmp rfl .nil) rfl r5 trivial (by simp) (by simp)
end Go.Flong
namespace Go.Proofs.Ytgdaeapahfjobaa
open Go Go.Eng Go.Flong Go.ChangeShapes Go.WideShapes
theorem Y61 : Flat Try.prog 61 [.i, .i] := Flat.struct (ls := [Leaf.i] ++ ([Leaf.i] ++ [])) Try.underlying61 (.cons rfl Y3 (.cons rfl Y3 .nil)) (by kernel_rfl)
theorem tru2_leaf {I : IH} {v : Value} {cs : Array Value} (hv : v = .agg cs) (h : LeafOK I (Value.agg cs).cells.toList [.i, .i]) : ∃ a b : Int, v = .agg #[.int .i64 a, .int .i64 b] := by
  obtain ⟨l⟩ := cs
  have g0 : LeafOK I l _ := h
  obtain ⟨a, l1, e1, g1⟩ := g0.uni
  obtain ⟨b, l2, e2, g2⟩ := g1.uni
  have e5 := g2.un0
  subst e5 e2 e1
  exact ⟨a, b, hv⟩
section
variable {H : Type} {enc : TypeId × Value → H} {W : World} {base : Nat} {v : Value} {d : DataW H} {p : List MemPlace}
set_option maxRecDepth 100000 in
theorem argTru2 (h : Value.okWide Try.prog W .any base 61 v) (ht : DataW.Trod enc Try.prog W 0 (fun _ => true) true 61 v d p) : ∃ a b : Int, v = .agg #[.int .i64 a, .int .i64 b] := by
  obtain ⟨cs, hv, _⟩ := okWide_struct Try.underlying61 h
  obtain ⟨fuel, hf⟩ := ht
  have h1 := Y61.ok enc W fuel _ _ hf
  rw [hv] at h1
  exact tru2_leaf hv h1
end
end Go.Proofs.Ytgdaeapahfjobaa
namespace Go.Flong
open Go Go.Eng
theorem earlier_irrefl : ∀ a : List Int, earlier a a = false
  | [] => rfl
  | x :: a => by simp only [earlier, if_true, earlier_irrefl a]
theorem earlier_asymm : ∀ {a b : List Int}, earlier a b = true → earlier b a = false
  | [], _, h => by simp [earlier] at h
  | _ :: _, [], h => by simp [earlier] at h
  | x :: a, y :: b, h => by
    simp only [earlier] at h ⊢
    by_cases e : x = y
    · rw [if_pos e] at h; rw [if_pos e.symm]; exact earlier_asymm h
    · rw [if_neg e, decide_eq_true_eq] at h
      rw [if_neg (fun g => e g.symm), decide_eq_false_iff_not]; omega
theorem boxS_sorted : ∀ l : List Int, (boxS l).Pairwise fun x y => earlier x y = true
  | [] => by simp [boxS]
  | b :: t => by
    rw [boxS, List.pairwise_flatMap]
    refine ⟨fun n _ => ?_, ?_⟩
    · rw [List.pairwise_map]
      refine (boxS_sorted t).imp fun {x y} h => ?_
      simp only [earlier, if_true, h]
    · refine List.pairwise_lt_range.imp fun {n m} h => ?_
      intro x hx y hy
      obtain ⟨x', _, rfl⟩ := List.mem_map.1 hx
      obtain ⟨y', _, rfl⟩ := List.mem_map.1 hy
      simp only [earlier]
      rw [if_neg (by omega), decide_eq_true_eq]; omega
end Go.Flong
namespace Go.Flong
open Go Go.Eng
theorem add_len {s : Shop} {l : List Int} (h : isAdd s l = true) : l.length = s.pigs.length := by
  simp only [isAdd, Bool.and_eq_true, decide_eq_true_eq] at h; omega
def upN (p : Int → Bool) : Nat → List Int
  | 0 => []
  | n + 1 => if p ((n : Int) + 1) then upN p n ++ [(n : Int) + 1] else upN p n
theorem mem_upN {p : Int → Bool} {x : Int} : ∀ {n : Nat}, x ∈ upN p n ↔ 1 ≤ x ∧ x ≤ n ∧ p x = true
  | 0 => by simp [upN]; omega
  | n + 1 => by
    have ih := mem_upN (p := p) (x := x) (n := n)
    simp only [upN]
    by_cases e : x = (n : Int) + 1
    · subst e
      split
      · next h => simp only [List.mem_append, List.mem_singleton, ih]; simp [h]; omega
      · next h => rw [ih]; simp [h]
    · split
      · simp only [List.mem_append, List.mem_singleton, ih]
        constructor
        · rintro (h | h)
          · exact ⟨h.1, by omega, h.2.2⟩
          · exact absurd h e
        · rintro ⟨h1, h2, h3⟩; exact .inl ⟨h1, by omega, h3⟩
      · rw [ih]
        exact ⟨fun h => ⟨h.1, by omega, h.2.2⟩, fun h => ⟨h.1, by omega, h.2.2⟩⟩
theorem upN_lt {p : Int → Bool} : ∀ n : Nat, (upN p n).Pairwise (· < ·)
  | 0 => .nil
  | n + 1 => by
    simp only [upN]
    split
    · refine List.pairwise_append.2 ⟨upN_lt n, List.pairwise_singleton _ _, fun a ha b hb => ?_⟩
      have := (mem_upN.1 ha).2.1
      simp only [List.mem_singleton] at hb
      omega
    · exact upN_lt n
theorem rising_of {l : List Int} {lo hi : Int} (h1 : ∀ x ∈ l, lo ≤ x ∧ x ≤ hi) (h2 : l.Pairwise (· < ·)) : rising l lo hi = true := by
  refine allI_iff.2 fun j hj => ?_
  have h3 := h1 _ (List.getElem_mem hj)
  rw [← nthN hj] at h3
  simp only [risingAt, within, Bool.and_eq_true, decide_eq_true_eq, Bool.not_eq_true', Bool.and_eq_false_iff, decide_eq_false_iff_not]
  refine ⟨h3, ?_⟩
  by_cases e : j = 0
  · left; omega
  · right
    have h4 := List.pairwise_iff_getElem.1 h2 (j - 1) j (by omega) hj (by omega)
    rw [nthN hj, show (j : Int) - 1 = ((j - 1 : Nat) : Int) by omega, nthN (by omega)]
    omega
theorem upN_rising (p : Int → Bool) (n : Nat) : rising (upN p n) 1 n = true := rising_of (fun x h => by have := mem_upN.1 h; omega) (upN_lt n)
theorem failsTo_up (s : Shop) (add : List Int) : ∀ n, s.mFailsTo add n = upN (s.failsP (s.aft add)) n
  | 0 => rfl
  | n + 1 => by simp only [Shop.mFailsTo, upN, failsTo_up s add n]
theorem shortTo_up (s : Shop) : ∀ n, s.shortTo n = upN (fun c => decide (s.keptAt c = 0)) n
  | 0 => rfl
  | n + 1 => by simp only [Shop.shortTo, upN, shortTo_up s n, decide_eq_true_eq]
theorem safeP_up {s : Shop} {add : List Int} : s.safeP (s.aft add) = true ↔ s.mFailsTo add 4 = [] := by
  rw [failsTo_up, List.eq_nil_iff_forall_not_mem]
  unfold Shop.safeP
  rw [allI_iff]
  constructor
  · intro h x hx
    obtain ⟨h1, h2, h3⟩ := mem_upN.1 hx
    have h4 := h (x.toNat - 1) (by omega)
    rw [show (((x.toNat - 1 : Nat) : Int) + 1) = x by omega, h3] at h4
    cases h4
  · intro h j hj
    rw [Bool.not_eq_true']
    cases e : s.failsP (s.aft add) ((j : Int) + 1) with
    | false => rfl
    | true => exact absurd (mem_upN.2 ⟨by omega, by omega, e⟩) (h _)
theorem nil_len {α : Type} {l : List α} : l = [] ↔ l.length = 0 := List.length_eq_zero_iff.symm
theorem inL_of {l : List Int} {x : Int} (h : x ∈ l) : inL l x = true := by
  obtain ⟨j, hj, e⟩ := List.mem_iff_getElem.1 h
  unfold inL
  rw [Bool.not_eq_true']
  exact not_allI hj (by rw [nthN hj, e]; simp)
def Shop.keepsTo (s : Shop) (pounds a b : Int) (n : Nat) : Bool := allI (fun j => keeps1 s ((j : Int) + 1) pounds a b) n
structure MEachLaw (s : Shop) (add : List Int) (t a : Int) : Prop where
  z : decide (((s.mFails add).length : Int) = 0) = decide (s.mSafe add = 1)
  r : rising (s.mFails add) 1 4 = true
  w : within (t + sumOf Pig.tin s.pigs add) (s.aft add).tl (s.aft add).th = true ∧ within (a + sumOf Pig.ant s.pigs add) (s.aft add).al (s.aft add).ah = true
  k : ∀ j : Nat, j < 4 → keeps1 s ((j : Int) + 1) (s.aft add).pounds (t + sumOf Pig.tin s.pigs add) (a + sumOf Pig.ant s.pigs add) = false → inL (s.mFails add) ((j : Int) + 1) = true
  g : s.mSafe add = 1 → s.keepsTo (s.aft add).pounds (t + sumOf Pig.tin s.pigs add) (a + sumOf Pig.ant s.pigs add) 4 = true
  n : s.mSafe add = 2 → s.keepsTo (s.aft add).pounds (t + sumOf Pig.tin s.pigs add) (a + sumOf Pig.ant s.pigs add) 4 = false
theorem mEachLaw {s : Shop} {add : List Int} {t a : Int} (hr : s.ready = true) (hv : isAdd s add = true) (ht : within t s.tl s.th = true) (ha : within a s.al s.ah = true) : MEachLaw s add t a := by
  have hs := ready_chk hr
  have hF := mFails_eq hs hv
  have hS := mSafe_eq hs hv
  have hx := isAddB (Shop.pigsOK hs) hv
  have hb := aft_bnd hs (l := add) (by omega) hx.2.2
  unfold PoB at hb
  have htb := tl_bnd hs
  simp only [within, Bool.and_eq_true, decide_eq_true_eq] at ht ha
  have hA : (s.aft add).tl ≤ t + sumOf Pig.tin s.pigs add ∧ t + sumOf Pig.tin s.pigs add ≤ (s.aft add).th := by simp only [Shop.aft]; omega
  have hB : (s.aft add).al ≤ a + sumOf Pig.ant s.pigs add ∧ a + sumOf Pig.ant s.pigs add ≤ (s.aft add).ah := by simp only [Shop.aft]; omega
  have hk : ∀ j : Nat, j < 4 → s.failsP (s.aft add) ((j : Int) + 1) = false → keeps1 s ((j : Int) + 1) (s.aft add).pounds (t + sumOf Pig.tin s.pigs add) (a + sumOf Pig.ant s.pigs add) = true := by
    intro j hj h
    have : j = 0 ∨ j = 1 ∨ j = 2 ∨ j = 3 := by omega
    rcases this with rfl | rfl | rfl | rfl <;> simp [Shop.failsP, keeps1] at h ⊢ <;> omega
  refine ⟨?_, ?_, ⟨?_, ?_⟩, fun j hj h => ?_, fun h => ?_, fun h => ?_⟩
  · rw [hF, hS]
    rw [decide_eq_decide]
    have := safeP_up (s := s) (add := add)
    rw [nil_len] at this
    cases e : s.safeP (s.aft add) with
    | true => simp only [if_true, iff_true]; have := this.1 e; omega
    | false =>
      simp only [Bool.false_eq_true, if_false]
      constructor
      · intro h; rw [this.2 (by omega)] at e; cases e
      · intro h; split at h <;> omega
  · rw [hF, failsTo_up]; exact upN_rising _ 4
  · simp only [within, Bool.and_eq_true, decide_eq_true_eq]; exact hA
  · simp only [within, Bool.and_eq_true, decide_eq_true_eq]; exact hB
  · rw [hF, failsTo_up]
    refine inL_of (mem_upN.2 ⟨by omega, by omega, ?_⟩)
    cases e : s.failsP (s.aft add) ((j : Int) + 1) with
    | true => rfl
    | false => rw [hk j hj e] at h; cases h
  · rw [hS] at h
    have hsf : s.safeP (s.aft add) = true := by
      cases e : s.safeP (s.aft add) with
      | true => rfl
      | false => rw [e] at h; simp only [Bool.false_eq_true, if_false] at h; split at h <;> omega
    unfold Shop.safeP at hsf
    rw [allI_iff] at hsf
    refine allI_iff.2 fun j hj => hk j hj ?_
    have := hsf j hj
    rwa [Bool.not_eq_true'] at this
  · rw [hS] at h
    cases hK : s.keepsTo (s.aft add).pounds (t + sumOf Pig.tin s.pigs add) (a + sumOf Pig.ant s.pigs add) 4 with
    | false => rfl
    | true =>
      exfalso
      have hc : s.canM (s.aft add) = false := by
        cases e : s.canM (s.aft add) with
        | false => rfl
        | true => rw [e] at h; simp only [if_true] at h; split at h <;> omega
      unfold Shop.keepsTo at hK
      rw [allI_iff] at hK
      have k0 := hK 0 (by omega)
      have k1 := hK 1 (by omega)
      have k2 := hK 2 (by omega)
      have k3 := hK 3 (by omega)
      simp [keeps1] at k0 k1 k2 k3
      have a1 := (justL_iff (part := s.tpl) (all := (s.aft add).pounds) (T := t + sumOf Pig.tin s.pigs add) (by omega) (by omega)).2 (by omega)
      have a2 := (justH_iff (part := s.tph) (all := (s.aft add).pounds) (T := t + sumOf Pig.tin s.pigs add) (by omega) (by omega)).2 (by omega)
      have a3 := (justL_iff (part := s.apl) (all := (s.aft add).pounds) (T := a + sumOf Pig.ant s.pigs add) (by omega) (by omega)).2 (by omega)
      have a4 := (justH_iff (part := s.aph) (all := (s.aft add).pounds) (T := a + sumOf Pig.ant s.pigs add) (by omega) (by omega)).2 (by omega)
      simp only [Shop.canM, Bool.and_eq_false_iff, decide_eq_false_iff_not] at hc
      omega
theorem adL_sorted (s : Shop) : s.adL.Pairwise fun x y => earlier x y = true := (boxS_sorted _).filter _
theorem keptC_pos (s : Shop) (c : Int) {j : Nat} : ∀ {i : Nat}, j < i → s.failsP (s.aft (nth s.adL (j : Int))) c = false → 0 < s.keptC c i
  | 0, h, _ => absurd h (by omega)
  | i + 1, h, hf => by
    have hb := keptC_bnd s c i
    simp only [Shop.keptC]
    by_cases e : j = i
    · subst e; rw [hf]; simp; omega
    · have := keptC_pos s c (show j < i by omega) hf
      split <;> omega
structure BestLaw (s : Shop) (add : List Int) : Prop where
  e : s.mE (priceG s) = 0 ∨ s.mE (priceG s) = 3
  n : s.mE (priceG s) = 0 ↔ s.lCheap < 100000
  t : s.mE (priceG s) = 0 ↔ s.lTin < 100000
  r : rising s.mShort 1 4 = true
  z : s.mShort.length ≠ 0 → s.mE (priceG s) ≠ 0
  o : s.mE (priceG s) = 0 → isAdd s (s.mAdd (priceG s)) = true ∧ sumOf Pig.pence s.pigs (s.mAdd (priceG s)) = s.lCheap ∧ s.lTin ≤ sumOf Pig.tin s.pigs (s.mAdd (priceG s)) ∧ s.mSafe (s.mAdd (priceG s)) = 1
  a : isAdd s add = true → s.mSafe add = 1 → s.mE (priceG s) = 0 ∧ s.lCheap ≤ sumOf Pig.pence s.pigs add ∧ s.lTin ≤ sumOf Pig.tin s.pigs add ∧
    (s.lCheap < sumOf Pig.pence s.pigs add ∨ sumOf Pig.pounds s.pigs (s.mAdd (priceG s)) < sumOf Pig.pounds s.pigs add ∨ (sumOf Pig.pounds s.pigs add = sumOf Pig.pounds s.pigs (s.mAdd (priceG s)) ∧ earlier add (s.mAdd (priceG s)) = false))
theorem safe1_iff {s : Shop} {add : List Int} (hs : s.chk = true) (hv : isAdd s add = true) : s.mSafe add = 1 ↔ s.safeP (s.aft add) = true := by
  rw [mSafe_eq hs hv]
  cases s.safeP (s.aft add) with
  | true => simp
  | false => simp only [Bool.false_eq_true, if_false, iff_false]; split <;> omega
theorem best_first {s : Shop} (hs : s.chk = true) (hE : s.mE (priceG s) = 0) {l : List Int} (hl : s.okM l = true) (he : earlier l (s.mAdd (priceG s)) = true) : cmpL (priceG s (s.mAdd (priceG s))) (priceG s l) < 0 := by
  have hpg := Shop.pigsOK hs
  have hE' : s.mE (priceG s) = if ((s.mBest (priceG s)).2.length : Int) = 0 then 3 else 0 := by unfold Shop.mE; rw [hs]; rfl
  rcases bestM_spec (priceG s) (price_ok s) s.adL.length (Nat.le_refl _) with ⟨h1, _⟩ | ⟨b, h1, h2, h3, h4⟩
  · rw [hE'] at hE; unfold Shop.mBest at hE; rw [h1] at hE; simp at hE
  · have hA : s.mAdd (priceG s) = nth s.adL (b : Int) := by unfold Shop.mAdd; rw [if_pos hE]; unfold Shop.mBest; rw [h2]
    rw [hA] at he ⊢
    simp only [Shop.okM, Bool.and_eq_true] at hl
    obtain ⟨j, hj, e⟩ := adL_index hpg hl.1
    have h5 := h4 j hj (by rw [e]; exact hl.2)
    rw [e] at h5
    refine h5.2 ?_
    by_cases g : j < b
    · exact g
    · exfalso
      by_cases g2 : j = b
      · subst g2; rw [e, earlier_irrefl] at he; cases he
      · have h6 := List.pairwise_iff_getElem.1 (adL_sorted s) b j h1 hj (by omega)
        rw [← nthN h1, ← nthN hj, e] at h6
        rw [earlier_asymm h6] at he; cases he
theorem bestLaw {s : Shop} {add : List Int} (hr : s.ready = true) : BestLaw s add := by
  have hs := ready_chk hr
  have hpg := Shop.pigsOK hs
  have hsh : s.mShort = upN (fun c => decide (s.keptAt c = 0)) 4 := by unfold Shop.mShort; rw [hs, ← shortTo_up]; rfl
  have hT : ∀ l, s.okM l = true → s.mE (tinG s) = 0 ∧ s.lTin ≤ sumOf Pig.tin s.pigs l := fun l hl => by
    rcases tin_spec hs with ⟨_, _, h3⟩ | ⟨h1, _, _, h4⟩
    · rw [h3] at hl; cases hl
    · exact ⟨h1, by unfold Shop.lTin; rw [if_neg (by omega)]; exact h4 l hl⟩
  have hTn : (∀ l, s.okM l = false) → s.lTin = 100000 := fun h => by
    rcases tin_spec hs with ⟨h1, _, _⟩ | ⟨_, h2, _, _⟩
    · exact if_pos h1
    · rw [h] at h2; cases h2
  have hz : s.mShort.length ≠ 0 → ∀ l, s.okM l = false := fun h l => by
    cases e : s.okM l with
    | false => rfl
    | true =>
      exfalso
      obtain ⟨x, hx⟩ := List.exists_mem_of_length_pos (show 0 < s.mShort.length by omega)
      rw [hsh] at hx
      obtain ⟨h1, h2, h3⟩ := mem_upN.1 hx
      simp only [Shop.okM, Bool.and_eq_true] at e
      obtain ⟨j, hj, g⟩ := adL_index hpg e.1
      have hf : s.failsP (s.aft (nth s.adL (j : Int))) x = false := by
        rw [g]
        have h4 := e.2
        unfold Shop.safeP at h4
        rw [allI_iff] at h4
        have h5 := h4 (x.toNat - 1) (by omega)
        rw [show (((x.toNat - 1 : Nat) : Int) + 1) = x by omega] at h5
        rwa [Bool.not_eq_true'] at h5
      have h6 := keptC_pos s x hj hf
      have h7 := of_decide_eq_true h3
      unfold Shop.keptAt at h7
      rw [keptTo_get s h1 (by omega)] at h7
      omega
  have hr4 : rising s.mShort 1 4 = true := by rw [hsh]; exact upN_rising _ 4
  rcases cheap_spec hs with ⟨h1, _, h3⟩ | ⟨h1, h2, h3, h4⟩
  · have e : s.lCheap = 100000 := if_pos h1
    have eT := hTn h3
    refine ⟨.inr h1, by omega, by omega, hr4, fun _ => by omega, fun h => by omega, fun hv hk => ?_⟩
    have := h3 add
    rw [Shop.okM, hv, (safe1_iff hs hv).1 hk] at this; cases this
  · have e : s.lCheap = s.mCheap := if_neg (by omega)
    have hlt := (cheap_bnd h1).2
    have hok := h2
    simp only [Shop.okM, Bool.and_eq_true] at hok
    obtain ⟨hT1, hT2⟩ := hT _ h2
    have hlt2 := (tin_bnd hT1).2
    have eT : s.lTin = s.mTin := if_neg (by omega)
    refine ⟨.inl h1, by omega, by omega, hr4, fun h => ?_, fun _ => ⟨hok.1, by omega, hT2, (safe1_iff hs hok.1).2 hok.2⟩, fun hv hk => ?_⟩
    · have := hz h (s.mAdd (priceG s)); rw [h2] at this; cases this
    · have hadd : s.okM add = true := by unfold Shop.okM; rw [hv, (safe1_iff hs hv).1 hk]; rfl
      have g1 := h4 add hadd
      refine ⟨h1, by omega, (hT add hadd).2, ?_⟩
      rcases least_specM hs (priceG s) (price_ok s) with ⟨k1, _⟩ | ⟨_, _, _, k4⟩
      · omega
      · have k5 := price_le (k4 add hadd)
        rw [e, h3]
        rcases k5 with k5 | ⟨k5, k6⟩
        · exact .inl k5
        · right
          by_cases g : sumOf Pig.pounds s.pigs (s.mAdd (priceG s)) < sumOf Pig.pounds s.pigs add
          · exact .inl g
          · right
            refine ⟨by omega, ?_⟩
            cases ge : earlier add (s.mAdd (priceG s)) with
            | false => rfl
            | true =>
              have k7 := best_first hs h1 hadd ge
              rw [show priceG s (s.mAdd (priceG s)) = priceG s add from by show [sumOf Pig.pence s.pigs (s.mAdd (priceG s)), sumOf Pig.pounds s.pigs (s.mAdd (priceG s))] = [sumOf Pig.pence s.pigs add, sumOf Pig.pounds s.pigs add]; rw [k5, show sumOf Pig.pounds s.pigs (s.mAdd (priceG s)) = sumOf Pig.pounds s.pigs add by omega], cmpL_refl] at k7
              omega
end Go.Flong
namespace Go.Flong
open Go Go.Eng Go.Proofs
theorem F61_0 : Fld Try.prog 61 0 0 := .mk Try.underlying61 rfl rfl rfl Try.sizeOf3 rfl
theorem F61_1 : Fld Try.prog 61 1 1 := .mk Try.underlying61 rfl rfl rfl Try.sizeOf3 rfl
theorem G61 : TyG Try.prog 61 2 := ⟨Try.isAgg61, Try.sizeOf61⟩
theorem e33 : Enters' Try.prog 33 := Try.call33
theorem e21 : Enters' Try.prog 21 := Try.call21
theorem e36 : Enters' Try.prog 36 := Try.call36
theorem e46 : Enters' Try.prog 46 := Try.call46
theorem e23 : Enters' Try.prog 23 := Try.call23
theorem w33 {s : Shop} {t a : Int} : ∀ x ∈ ([.e (.g [ai (s.pounds), ai (s.tl), ai (s.th), ai (s.al), ai (s.ah), ai (s.room), ai (s.tpl), ai (s.tph), ai (s.apl), ai (s.aph), .q 0]), .e (.g [ai (t), ai (a)])] : List SV), x.res (keys (α := Pred) [(0, PL EPig (s.pigs))]) := by simp [SV.res, El.res, At.res, keys]
theorem r33 {s : Shop} {t a : Int} : SV.res (keys (α := Pred) []) (.b (within t s.tl s.th && within a s.al s.ah)) := by simp [SV.res, El.res, At.res, keys]
set_option maxHeartbeats 4000000 in
theorem c33 (s : Shop) (t a : Int)  : Sig Try.prog 33 [.e (.g [ai (s.pounds), ai (s.tl), ai (s.th), ai (s.al), ai (s.ah), ai (s.room), ai (s.tpl), ai (s.tph), ai (s.apl), ai (s.aph), .q 0]), .e (.g [ai (t), ai (a)])] [(0, PL EPig (s.pigs))] (.b (within t s.tl s.th && within a s.al s.ah)) [] := by
  refine Sig.intro Try.func33 rfl 1 [(0, .e (.g [ai (s.pounds), ai (s.tl), ai (s.th), ai (s.al), ai (s.ah), ai (s.room), ai (s.tpl), ai (s.tph), ai (s.apl), ai (s.aph), .q 0])), (1, .e (.g [ai (t), ai (a)]))] rfl w33 rfl rfl fun I w => ?_
  refine WP.seq ?_
  refine WP.region ?_
  refine WPl.l 1 2 rfl rfl rfl (o_boxg rfl) ?_
  refine WPl.l 2 3 rfl rfl rfl (o_boxg rfl) ?_
  refine WPl.v rfl (o_assign rfl) ?_
  refine WPl.nil ?_
  refine EX.then ?_
  refine WP.seq ?_
  refine WP.region ?_
  refine WPl.v rfl (o_fldp F61_0 rfl) ?_
  refine WPl.v rfl (o_ldp S3 rfl rfl rfl) ?_
  refine WPl.v rfl (o_fldp F28_0 rfl) ?_
  refine WPl.v rfl (o_fldp F25_1 rfl) ?_
  refine WPl.v rfl (o_fldp F23_0 rfl) ?_
  refine WPl.v rfl (o_ldp S3 rfl rfl rfl) ?_
  refine WPl.v rfl (o_fldp F28_0 rfl) ?_
  refine WPl.v rfl (o_fldp F25_1 rfl) ?_
  refine WPl.v rfl (o_fldp F23_1 rfl) ?_
  refine WPl.v rfl (o_ldp S3 rfl rfl rfl) ?_
  refine WPl.cs 3 rfl rfl rfl rfl (o_sig 3 id (c24 t s.tl s.th) e24 rfl rfl rfl w24 trivial r24) ?_
  refine WPl.v rfl (o_move rfl) ?_
  refine WPl.bit 3 4 (within t s.tl s.th) rfl rfl ?_
  refine WPl.gv 3 rfl rfl (.plain rfl Iff.rfl rfl) (fun hb => o_fldp F61_1 rfl) ?_
  refine WPl.gv 3 rfl rfl (.plain rfl Iff.rfl rfl) (fun hb => o_ldp S3 rfl rfl rfl) ?_
  refine WPl.gv 3 rfl rfl (.plain rfl Iff.rfl rfl) (fun hb => o_fldp F28_0 rfl) ?_
  refine WPl.gv 3 rfl rfl (.plain rfl Iff.rfl rfl) (fun hb => o_fldp F25_2 rfl) ?_
  refine WPl.gv 3 rfl rfl (.plain rfl Iff.rfl rfl) (fun hb => o_fldp F23_0 rfl) ?_
  refine WPl.gv 3 rfl rfl (.plain rfl Iff.rfl rfl) (fun hb => o_ldp S3 rfl rfl rfl) ?_
  refine WPl.gv 3 rfl rfl (.plain rfl Iff.rfl rfl) (fun hb => o_fldp F28_0 rfl) ?_
  refine WPl.gv 3 rfl rfl (.plain rfl Iff.rfl rfl) (fun hb => o_fldp F25_2 rfl) ?_
  refine WPl.gv 3 rfl rfl (.plain rfl Iff.rfl rfl) (fun hb => o_fldp F23_1 rfl) ?_
  refine WPl.gv 3 rfl rfl (.plain rfl Iff.rfl rfl) (fun hb => o_ldp S3 rfl rfl rfl) ?_
  refine WPl.gc0 3 rfl rfl (.plain rfl Iff.rfl rfl) (fun hb => o_sig 4 id (c24 a s.al s.ah) e24 rfl rfl rfl w24 trivial r24) ?_
  refine WPl.v rfl (o_and rfl rfl rfl id) ?_
  refine WPl.v rfl (o_assign rfl) ?_
  refine WPl.nil ?_
  refine EX.then ?_
  refine WP.ret ?_
  exact EX.fin id (.inl rfl) rfl (.tmp rfl .nil) rfl r33 trivial (by simp) (by simp)
theorem w10 {s : Shop} {add : List Int} {t a : Int} : ∀ x ∈ ([.e (.g [ai (s.pounds), ai (s.tl), ai (s.th), ai (s.al), ai (s.ah), ai (s.room), ai (s.tpl), ai (s.tph), ai (s.apl), ai (s.aph), .q 0]), .e (.a (.q 1)), .e (.g [ai (t), ai (a)])] : List SV), x.res (keys (α := Pred) [(0, PL EPig (s.pigs)), (1, PL EP.int (add))]) := by simp [SV.res, El.res, At.res, keys]
theorem r10  : SV.res (keys (α := Pred) []) (.b (true)) := by simp [SV.res, El.res, At.res, keys]
set_option maxHeartbeats 4000000 in
theorem c10 (s : Shop) (add : List Int) (t a : Int) (hlaw : s.ready = true → isAdd s add = true → within t s.tl s.th = true → within a s.al s.ah = true → MEachLaw s add t a) : Sig Try.prog 10 [.e (.g [ai (s.pounds), ai (s.tl), ai (s.th), ai (s.al), ai (s.ah), ai (s.room), ai (s.tpl), ai (s.tph), ai (s.apl), ai (s.aph), .q 0]), .e (.a (.q 1)), .e (.g [ai (t), ai (a)])] [(0, PL EPig (s.pigs)), (1, PL EP.int (add))] (.b (true)) [] := by
  refine Sig.intro Try.func10 rfl 2 [(0, .e (.g [ai (s.pounds), ai (s.tl), ai (s.th), ai (s.al), ai (s.ah), ai (s.room), ai (s.tpl), ai (s.tph), ai (s.apl), ai (s.aph), .q 0])), (1, .e (.a (.q 1))), (2, .e (.g [ai (t), ai (a)]))] rfl w10 rfl rfl fun I w => ?_
  refine WP.seq ?_
  refine WP.region ?_
  refine WPl.l 2 3 rfl rfl rfl (o_boxg rfl) ?_
  refine WPl.l 3 4 rfl rfl rfl (o_boxg rfl) ?_
  refine WPl.v rfl (o_assign rfl) ?_
  refine WPl.nil ?_
  refine EX.then ?_
  refine WP.seq ?_
  refine WP.seq ?_
  refine WP.region ?_
  refine WPl.v rfl (o_ldpa G28 rfl rfl rfl) ?_
  refine WPl.cs 4 rfl rfl rfl rfl (o_sig 4 (ren [(0, 0)]) (c15 s) e15 rfl rfl rfl w15 ⟨(lx rfl), trivial⟩ r15) ?_
  refine WPl.v rfl (o_not rfl) ?_
  refine WPl.v rfl (o_move rfl) ?_
  refine WPl.bit 4 5 (!(!s.ready)) rfl rfl ?_
  refine WPl.gv 4 rfl rfl (.plain rfl (by first | (simp; done) | simp only [Bool.not_eq_true']) rfl) (fun hb => o_ldpa G28 rfl rfl rfl) ?_
  refine WPl.gv 4 rfl rfl (.plain rfl (by first | (simp; done) | simp only [Bool.not_eq_true']) rfl) (fun hb => o_move rfl) ?_
  refine WPl.gc0 4 rfl rfl (.plain rfl (by first | (simp; done) | simp only [Bool.not_eq_true']) rfl) (fun hb => o_sig 5 (ren [(0, 0), (1, 1)]) (c20 s add (ready_chk (by simpa using hb))) e20 rfl rfl rfl w20 ⟨(lx rfl), (lx rfl), trivial⟩ r20) ?_
  refine WPl.gv 4 rfl rfl (.plain rfl (by first | (simp; done) | simp only [Bool.not_eq_true']) rfl) (fun hb => o_not rfl) ?_
  refine WPl.v rfl (o_or rfl rfl rfl (by first | (simp; done) | exact fun h => by rw [h]; rfl | exact fun h => Bool.and_eq_true_iff.2 ⟨hb, by rw [h]; rfl⟩ | simp_all)) ?_
  refine WPl.v rfl (o_move rfl) ?_
  refine WPl.bit 5 6 (!((!s.ready) || (!(decide ((add.length : Int) ≤ 40) && isAdd s add)))) rfl rfl ?_
  refine WPl.gv 5 rfl rfl (.plain rfl (by first | (simp; done) | simp only [Bool.not_eq_true']) rfl) (fun hb => o_ldpa G28 rfl rfl rfl) ?_
  refine WPl.gv 5 rfl rfl (.plain rfl (by first | (simp; done) | simp only [Bool.not_eq_true']) rfl) (fun hb => o_ldpa G61 rfl rfl rfl) ?_
  refine WPl.gc0 5 rfl rfl (.plain rfl (by first | (simp; done) | simp only [Bool.not_eq_true']) rfl) (fun hb => o_sig 6 (ren [(0, 0)]) (c33 s t a) e33 rfl rfl rfl w33 ⟨(lx rfl), trivial⟩ r33) ?_
  refine WPl.gv 5 rfl rfl (.plain rfl (by first | (simp; done) | simp only [Bool.not_eq_true']) rfl) (fun hb => o_not rfl) ?_
  refine WPl.v rfl (o_or rfl rfl rfl (by first | (simp; done) | exact fun h => by rw [h]; rfl | exact fun h => Bool.and_eq_true_iff.2 ⟨hb, by rw [h]; rfl⟩ | simp_all)) ?_
  refine WPl.nil ?_
  refine EX.then ?_
  refine WP.cond rfl (fun hc1 => ?_) (fun hc1 => ?_)
  · try simp only [decide_eq_true_eq, decide_eq_false_iff_not, Bool.and_eq_true, Bool.or_eq_true, Bool.and_eq_false_iff, Bool.or_eq_false_iff, Bool.not_eq_true', Bool.not_eq_false', ne_eq, Decidable.not_not] at hc1
    refine WP.seq ?_
    refine WP.region ?_
    refine WPl.cs 6 rfl rfl rfl rfl (o_sig 6 id c17 e17 rfl rfl rfl w17 trivial r17) ?_
    refine WPl.v rfl (o_assign rfl) ?_
    refine WPl.nil ?_
    refine EX.then ?_
    refine WP.ret ?_
    refine EX.ret_then ?_
    exact EX.fin id (.inl rfl) rfl (.tmp rfl .nil) rfl r10 trivial (by simp) (by simp)
  · try simp only [decide_eq_true_eq, decide_eq_false_iff_not, Bool.and_eq_true, Bool.or_eq_true, Bool.and_eq_false_iff, Bool.or_eq_false_iff, Bool.not_eq_true', Bool.not_eq_false', ne_eq, Decidable.not_not] at hc1
    obtain ⟨hr, hi1, hv, ht, ha⟩ : s.ready = true ∧ ((add.length : Int) ≤ 40 ∧ isAdd s add = true ∧ within t s.tl s.th = true ∧ within a s.al s.ah = true) := by simpa [and_assoc] using hc1
    have hs : s.chk = true := ready_chk hr
    have hpg := Shop.pigsOK hs
    have hl4 := hpg.2
    have had := isAddB hpg hv
    have hab := aft_bnd hs (l := add) (by omega) had.2.2
    have hab2 := hab
    unfold PoB at hab2
    have htb := tl_bnd hs
    have law := hlaw hr hv ht ha
    have hE : opE s (isAdd s add) = 0 := (mSafe_in hs hv).1
    have hMA : s.mAft add = s.aft add := if_pos hE
    have hf4 : (s.mFails add).length ≤ 4 := by rw [mFails_eq hs hv]; exact mFailsTo_len s add 4
    have ht2 := ht
    have ha2 := ha
    simp only [within, Bool.and_eq_true, decide_eq_true_eq] at ht2 ha2
    have hs0 := sumOf_bnd (f := Pig.pounds) hpg (by omega) had.2.2 (fun p h => by have := Pig.bnds h; omega)
    have hs1 := sumOf_bnd (f := Pig.tin) hpg (by omega) had.2.2 (fun p h => by have := Pig.bnds h; omega)
    have hs2 := sumOf_bnd (f := Pig.ant) hpg (by omega) had.2.2 (fun p h => by have := Pig.bnds h; omega)
    refine WP.skip ?_
    refine EX.then ?_
    refine WP.seq ?_
    refine WP.region ?_
    refine WPl.v rfl (o_ldpa G28 rfl rfl rfl) ?_
    refine WPl.v rfl (o_move rfl) ?_
    refine WPl.cs 6 rfl rfl rfl rfl (o_sig 6 (ren [(0, 0), (1, 1)]) (c21 s add hs hv) e21 rfl rfl rfl w21 ⟨(lx rfl), (lx rfl), trivial⟩ r21) ?_
    refine WPl.v rfl (o_move rfl) ?_
    refine WPl.v rfl (o_extract rfl rfl) ?_
    refine WPl.v rfl (o_extract rfl rfl) ?_
    refine WPl.imp (Imp.bitF 39 (b' := s.ready) rfl hr.symm) ?_
    refine WPl.v rfl (o_assign rfl) ?_
    refine WPl.v rfl (o_assign rfl) ?_
    refine WPl.nil ?_
    refine EX.then ?_
    refine WP.seq ?_
    refine WP.draw (nf := 9) [⟨[42, 43, 44], [6, 7], [], [], []⟩, ⟨[41, 43], [], [6], [6], []⟩, ⟨[41, 42], [6], [], [], []⟩, ⟨[41], [], [7], [7, 6], [1, 2]⟩, ⟨[], [], [8], [8], [0, 1, 2, 3]⟩, ⟨[], [], [], [], [0, 1, 2, 3, 4]⟩, ⟨[47], [], [], [], [0, 1, 2, 3, 4, 5]⟩, ⟨[46, 9], [], [], [], [0, 1, 2, 3, 4, 5]⟩, ⟨[47], [], [], [], [0, 1, 2, 3, 4, 5, 6]⟩, ⟨[], [], [], [], [0, 1, 2, 3, 4, 5, 6, 7, 8]⟩] (by kernel_rfl) (by kernel_rfl) ?_
    refine DRQ.v rfl rfl rfl (o_ldpa G28 rfl rfl rfl) ?_
    refine DRQ.l 6 rfl rfl rfl rfl (o_bsl (E := EP.int) (l := []) R29 rfl rfl (.nil) rfl rfl) ?_
    refine DRQ.v rfl rfl rfl (o_move rfl) ?_
    refine DRQ.u1 7 rfl rfl rfl (OpG.settle1 (.inl rfl) rfl (o_apps R29 EP.int_one rfl rfl rfl (lx rfl) (by first | omega | (simp; omega) | (simp at *; omega)) (by first | omega | (simp; omega) | (simp at *; omega)))) rfl ?_
    refine DRQ.cs rfl rfl rfl rfl (o_sig 8 (ren [(0, 0), (1, 7)]) (c22 s ([] ++ add) (by omega)) e22 rfl rfl rfl w22 ⟨(lx rfl), (lx rfl), trivial⟩ r22) ?_
    refine DRQ.v rfl rfl rfl (o_move rfl) ?_
    refine DRQ.v rfl rfl rfl (o_extract rfl rfl) ?_
    refine DRQ.v rfl rfl rfl (o_extract rfl rfl) ?_
    refine DRQ.v rfl rfl rfl (o_assign rfl) ?_
    refine DRQ.v rfl rfl rfl (o_assign rfl) ?_
    refine DRQ.nil' ?_
    refine EX.then ?_
    refine WP.seq ?_
    refine WP.draw (nf := 12) [⟨[50, 51, 52, 11], [9, 10, 11], [], [], []⟩, ⟨[49, 51, 11], [11], [9], [9], []⟩, ⟨[49, 50, 11], [9, 11], [], [], []⟩, ⟨[49, 11], [11], [10], [10, 9], [1, 2]⟩, ⟨[11], [11], [], [], [0, 1, 2, 3]⟩, ⟨[11], [11], [], [], [0, 1, 2, 3, 4]⟩, ⟨[55, 11], [11], [], [], [0, 1, 2, 3, 4, 5]⟩, ⟨[54, 11], [11], [], [], [0, 1, 2, 3, 4, 5]⟩, ⟨[49, 50, 51, 52, 53, 48, 54, 55], [9, 10], [11], [11], []⟩, ⟨[55], [], [], [11], [0, 1, 2, 3, 4, 5, 6, 8]⟩, ⟨[], [], [], [], [0, 1, 2, 3, 4, 5, 6, 7, 8, 9]⟩] (by kernel_rfl) (by kernel_rfl) ?_
    refine DRQ.v rfl rfl rfl (o_ldpa G28 rfl rfl rfl) ?_
    refine DRQ.l 9 rfl rfl rfl rfl (o_bsl (E := EP.int) (l := []) R29 rfl rfl (.nil) rfl rfl) ?_
    refine DRQ.v rfl rfl rfl (o_move rfl) ?_
    refine DRQ.u1 10 rfl rfl rfl (OpG.settle1 (.inl rfl) rfl (o_apps R29 EP.int_one rfl rfl rfl (lx rfl) (by first | omega | (simp; omega) | (simp at *; omega)) (by first | omega | (simp; omega) | (simp at *; omega)))) rfl ?_
    refine DRQ.cs rfl rfl rfl rfl (o_sig 11 (ren [(0, 0), (1, 10)]) (c36 s ([] ++ add) (by omega)) e36 rfl rfl rfl w36 ⟨(lx rfl), (lx rfl), trivial⟩ r36) ?_
    refine DRQ.v rfl rfl rfl (o_move rfl) ?_
    refine DRQ.v rfl rfl rfl (o_extract rfl rfl) ?_
    refine DRQ.v rfl rfl rfl (o_extract rfl rfl) ?_
    refine DRQ.l 11 rfl rfl rfl rfl (o_alloc Z25) ?_
    refine DRQ.s 11 rfl rfl rfl (o_stag G25 rfl rfl rfl ⟨rfl, rfl, rfl, rfl, rfl, trivial⟩ rfl rfl) ?_
    refine DRQ.v rfl rfl rfl (o_assign rfl) ?_
    refine DRQ.nil' ?_
    refine EX.then ?_
    refine WP.seq ?_
    refine WP.seq ?_
    refine WP.imp (Imp.bit 12 13 (!(!s.ready)) rfl rfl) ?_
    refine WP.imp (Imp.bit 13 14 (!((!s.ready) || (decide ((opE s (isAdd s ([] ++ add))) ≠ 0)))) rfl rfl) ?_
    refine WP.imp (Imp.bit 14 15 (!(((!s.ready) || (decide ((opE s (isAdd s ([] ++ add))) ≠ 0))) || (decide ((opE s (isAdd s ([] ++ add))) ≠ 0)))) rfl rfl) ?_
    refine WP.imp (Imp.bit 15 16 (!((((!s.ready) || (decide ((opE s (isAdd s ([] ++ add))) ≠ 0))) || (decide ((opE s (isAdd s ([] ++ add))) ≠ 0))) || (!(rising (s.mFails ([] ++ add)) 1 4)))) rfl rfl) ?_
    refine WP.imp (Imp.bit 16 17 (!(((((!s.ready) || (decide ((opE s (isAdd s ([] ++ add))) ≠ 0))) || (decide ((opE s (isAdd s ([] ++ add))) ≠ 0))) || (!(rising (s.mFails ([] ++ add)) 1 4))) || ((decide (((s.mFails ([] ++ add)).length : Int) = 0)) != (decide ((s.mSafe add) = 1))))) rfl rfl) ?_
    refine WP.draw (nf := 17) [⟨[], [], [], [], []⟩, ⟨[], [], [], [], [0]⟩, ⟨[], [], [], [], [0, 1]⟩, ⟨[], [], [], [], [0, 1, 2]⟩, ⟨[], [], [], [], [0, 1, 2, 3]⟩, ⟨[], [], [], [], [0, 1, 2, 3, 4]⟩, ⟨[], [], [], [], [0, 1, 2, 3, 4, 5]⟩, ⟨[], [], [], [], [0, 1, 2, 3, 4, 5, 6]⟩, ⟨[], [], [], [], [0, 1, 2, 3, 4, 5, 6, 7]⟩, ⟨[], [], [], [], [0, 1, 2, 3, 4, 5, 6, 7, 8]⟩, ⟨[], [], [], [], [0, 1, 2, 3, 4, 5, 6, 7, 8, 9]⟩, ⟨[], [], [], [], [0, 1, 2, 3, 4, 5, 6, 7, 8, 9, 10]⟩, ⟨[], [], [], [], [0, 1, 2, 3, 4, 5, 6, 7, 8, 9, 10, 11]⟩, ⟨[], [], [], [], [0, 1, 2, 3, 4, 5, 6, 7, 8, 9, 10, 11, 12]⟩, ⟨[], [], [], [], [0, 1, 2, 3, 4, 5, 6, 7, 8, 9, 10, 11, 12, 13]⟩, ⟨[], [], [], [], [0, 1, 2, 3, 4, 5, 6, 7, 8, 9, 10, 11, 12, 13, 14]⟩, ⟨[75, 76], [], [], [], [0, 1, 2, 3, 4, 5, 6, 7, 8, 9, 10, 11, 12, 13, 14, 15]⟩, ⟨[75, 76], [], [], [], [0, 1, 2, 3, 4, 5, 6, 7, 8, 9, 10, 11, 12, 13, 14, 15, 16]⟩, ⟨[75, 76], [], [], [], [0, 1, 2, 3, 4, 5, 6, 7, 8, 9, 10, 11, 12, 13, 14, 15, 16, 17]⟩, ⟨[72, 73, 74], [], [], [], [0, 1, 2, 3, 4, 5, 6, 7, 8, 9, 10, 11, 12, 13, 14, 15]⟩, ⟨[72, 73, 74], [], [], [], [0, 1, 2, 3, 4, 5, 6, 7, 8, 9, 10, 11, 12, 13, 14, 15, 19]⟩, ⟨[], [], [], [], [0, 1, 2, 3, 4, 5, 6, 7, 8, 9, 10, 11, 12, 13, 14, 15, 16, 17, 18, 19, 20]⟩, ⟨[], [], [], [], [0, 1, 2, 3, 4, 5, 6, 7, 8, 9, 10, 11, 12, 13, 14, 15, 16, 17, 18, 19, 20, 21]⟩, ⟨[], [], [], [], [0, 1, 2, 3, 4, 5, 6, 7, 8, 9, 10, 11, 12, 13, 14, 15, 16, 17, 18, 19, 20, 21, 22]⟩, ⟨[82, 83, 84, 85, 86, 87, 88], [], [], [], [0, 1, 2, 3, 4, 5, 6, 7, 8, 9, 10, 11, 12, 13, 14, 15, 16, 17, 18, 19, 20, 21, 22, 23]⟩, ⟨[82, 83, 84, 85, 86, 87, 88], [], [], [], [0, 1, 2, 3, 4, 5, 6, 7, 8, 9, 10, 11, 12, 13, 14, 15, 16, 17, 18, 19, 20, 21, 22, 23, 24]⟩, ⟨[80, 81, 85, 86, 87], [], [], [], [0, 1, 2, 3, 4, 5, 6, 7, 8, 9, 10, 11, 12, 13, 14, 15, 16, 17, 18, 19, 20, 21, 22, 23]⟩, ⟨[80, 81, 85, 86, 87], [], [], [], [0, 1, 2, 3, 4, 5, 6, 7, 8, 9, 10, 11, 12, 13, 14, 15, 16, 17, 18, 19, 20, 21, 22, 23, 26]⟩, ⟨[80, 81, 85, 86, 87], [], [], [], [0, 1, 2, 3, 4, 5, 6, 7, 8, 9, 10, 11, 12, 13, 14, 15, 16, 17, 18, 19, 20, 21, 22, 23, 26, 27]⟩, ⟨[80, 81, 82, 83, 84, 86], [], [], [], [0, 1, 2, 3, 4, 5, 6, 7, 8, 9, 10, 11, 12, 13, 14, 15, 16, 17, 18, 19, 20, 21, 22, 23]⟩, ⟨[80, 81, 82, 83, 84, 85], [], [], [], [0, 1, 2, 3, 4, 5, 6, 7, 8, 9, 10, 11, 12, 13, 14, 15, 16, 17, 18, 19, 20, 21, 22, 23]⟩, ⟨[80, 81, 82, 83, 84], [], [], [], [0, 1, 2, 3, 4, 5, 6, 7, 8, 9, 10, 11, 12, 13, 14, 15, 16, 17, 18, 19, 20, 21, 22, 23, 29, 30]⟩, ⟨[80, 81], [], [], [], [0, 1, 2, 3, 4, 5, 6, 7, 8, 9, 10, 11, 12, 13, 14, 15, 16, 17, 18, 19, 20, 21, 22, 23, 26, 27, 28, 29, 30, 31]⟩, ⟨[], [], [], [], [0, 1, 2, 3, 4, 5, 6, 7, 8, 9, 10, 11, 12, 13, 14, 15, 16, 17, 18, 19, 20, 21, 22, 23, 24, 25, 26, 27, 28, 29, 30, 31, 32]⟩, ⟨[], [], [], [], [0, 1, 2, 3, 4, 5, 6, 7, 8, 9, 10, 11, 12, 13, 14, 15, 16, 17, 18, 19, 20, 21, 22, 23, 24, 25, 26, 27, 28, 29, 30, 31, 32, 33]⟩] (by kernel_rfl) (by kernel_rfl) ?_
    refine DRQ.v rfl rfl rfl (o_move rfl) ?_
    refine DRQ.v rfl rfl rfl (o_not rfl) ?_
    refine DRQ.v rfl rfl rfl (o_move rfl) ?_
    refine DRQ.gv 12 rfl rfl (.plain rfl (by first | (simp; done) | simp only [Bool.not_eq_true']) rfl) rfl (fun hb => o_move rfl) ?_
    refine DRQ.gv 12 rfl rfl (.plain rfl (by first | (simp; done) | simp only [Bool.not_eq_true']) rfl) rfl (fun hb => o_neq rfl rfl) ?_
    refine DRQ.v rfl rfl rfl (o_or rfl rfl rfl (by first | (simp; done) | exact fun h => by rw [h]; rfl | exact fun h => Bool.and_eq_true_iff.2 ⟨hb, by rw [h]; rfl⟩ | simp_all)) ?_
    refine DRQ.v rfl rfl rfl (o_move rfl) ?_
    refine DRQ.gv 13 rfl rfl (.plain rfl (by first | (simp; done) | simp only [Bool.not_eq_true']) rfl) rfl (fun hb => o_move rfl) ?_
    refine DRQ.gv 13 rfl rfl (.plain rfl (by first | (simp; done) | simp only [Bool.not_eq_true']) rfl) rfl (fun hb => o_neq rfl rfl) ?_
    refine DRQ.v rfl rfl rfl (o_or rfl rfl rfl (by first | (simp; done) | exact fun h => by rw [h]; rfl | exact fun h => Bool.and_eq_true_iff.2 ⟨hb, by rw [h]; rfl⟩ | simp_all)) ?_
    refine DRQ.v rfl rfl rfl (o_move rfl) ?_
    refine DRQ.gv 14 rfl rfl (.plain rfl (by first | (simp; done) | simp only [Bool.not_eq_true']) rfl) rfl (fun hb => o_move rfl) ?_
    refine DRQ.gv 14 rfl rfl (.plain rfl (by first | (simp; done) | simp only [Bool.not_eq_true']) rfl) rfl (fun hb => o_sig 17 (ren [(0, 8)]) (c46 (s.mFails ([] ++ add)) 1 4 (by rw [List.nil_append]; omega)) e46 rfl rfl rfl w46 ⟨(lx rfl), trivial⟩ r46) ?_
    refine DRQ.gv 14 rfl rfl (.plain rfl (by first | (simp; done) | simp only [Bool.not_eq_true']) rfl) rfl (fun hb => o_not rfl) ?_
    refine DRQ.v rfl rfl rfl (o_or rfl rfl rfl (by first | (simp; done) | exact fun h => by rw [h]; rfl | exact fun h => Bool.and_eq_true_iff.2 ⟨hb, by rw [h]; rfl⟩ | simp_all)) ?_
    refine DRQ.v rfl rfl rfl (o_move rfl) ?_
    refine DRQ.gv 15 rfl rfl (.plain rfl (by first | (simp; done) | simp only [Bool.not_eq_true']) rfl) rfl (fun hb => o_move rfl) ?_
    refine DRQ.gv 15 rfl rfl (.plain rfl (by first | (simp; done) | simp only [Bool.not_eq_true']) rfl) rfl (fun hb => o_lenq L29 rfl (lx rfl)) ?_
    refine DRQ.gv 15 rfl rfl (.plain rfl (by first | (simp; done) | simp only [Bool.not_eq_true']) rfl) rfl (fun hb => o_eql rfl rfl) ?_
    refine DRQ.gv 15 rfl rfl (.plain rfl (by first | (simp; done) | simp only [Bool.not_eq_true']) rfl) rfl (fun hb => o_move rfl) ?_
    refine DRQ.gv 15 rfl rfl (.plain rfl (by first | (simp; done) | simp only [Bool.not_eq_true']) rfl) rfl (fun hb => o_eql rfl rfl) ?_
    refine DRQ.gv 15 rfl rfl (.plain rfl (by first | (simp; done) | simp only [Bool.not_eq_true']) rfl) rfl (fun hb => o_neb Try.underlying4 rfl rfl) ?_
    refine DRQ.v rfl rfl rfl (o_or rfl rfl rfl (by first | (simp; done) | exact fun h => by rw [h]; rfl | exact fun h => Bool.and_eq_true_iff.2 ⟨hb, by rw [h]; rfl⟩ | simp_all)) ?_
    refine DRQ.v rfl rfl rfl (o_move rfl) ?_
    refine DRQ.gv 16 rfl rfl (.plain rfl (by first | (simp; done) | simp only [Bool.not_eq_true']) rfl) rfl (fun hb => o_fldp F25_0 rfl) ?_
    refine DRQ.gv 16 rfl rfl (.plain rfl (by first | (simp; done) | simp only [Bool.not_eq_true']) rfl) rfl (fun hb => o_ldp S3 rfl rfl rfl) ?_
    refine DRQ.gv 16 rfl rfl (.plain rfl (by first | (simp; done) | simp only [Bool.not_eq_true']) rfl) rfl (fun hb => o_fldp F28_0 rfl) ?_
    refine DRQ.gv 16 rfl rfl (.plain rfl (by first | (simp; done) | simp only [Bool.not_eq_true']) rfl) rfl (fun hb => o_fldp F25_0 rfl) ?_
    refine DRQ.gv 16 rfl rfl (.plain rfl (by first | (simp; done) | simp only [Bool.not_eq_true']) rfl) rfl (fun hb => o_ldp S3 rfl rfl rfl) ?_
    refine DRQ.gv 16 rfl rfl (.plain rfl (by first | (simp; done) | simp only [Bool.not_eq_true']) rfl) rfl (fun hb => o_ldpa G28 rfl rfl rfl) ?_
    refine DRQ.gv 16 rfl rfl (.plain rfl (by first | (simp; done) | simp only [Bool.not_eq_true']) rfl) rfl (fun hb => o_move rfl) ?_
    refine DRQ.gv 16 rfl rfl (.plain rfl (by first | (simp; done) | simp only [Bool.not_eq_true']) rfl) rfl (fun hb => o_sig 17 (ren [(0, 0), (1, 1)]) (c47 s add hpg had.2.2 (by omega)) e47 rfl rfl rfl w47 ⟨(lx rfl), (lx rfl), trivial⟩ r47) ?_
    refine DRQ.gv 16 rfl rfl (.plain rfl (by first | (simp; done) | simp only [Bool.not_eq_true']) rfl) rfl (fun hb => o_add rfl rfl (by first | omega | (simp; omega)) (by first | omega | (simp; omega))) ?_
    refine DRQ.gv 16 rfl rfl (.plain rfl (by first | (simp; done) | simp only [Bool.not_eq_true']) rfl) rfl (fun hb => o_neq rfl rfl) ?_
    refine DRQ.v rfl rfl rfl (o_or rfl rfl rfl (by first | (simp; done) | exact fun h => by rw [h]; rfl | exact fun h => Bool.and_eq_true_iff.2 ⟨hb, by rw [h]; rfl⟩ | simp_all)) ?_
    refine DRQ.nil' ?_
    refine EX.then ?_
    refine WP.cond rfl (fun hc2 => ?_) (fun hc2 => ?_)
    · try simp only [decide_eq_true_eq, decide_eq_false_iff_not, Bool.and_eq_true, Bool.or_eq_true, Bool.and_eq_false_iff, Bool.or_eq_false_iff, Bool.not_eq_true', Bool.not_eq_false', ne_eq, Decidable.not_not] at hc2
      exfalso
      simp only [List.nil_append] at hc2
      rcases hc2 with ((((h | h) | h) | h) | h) | h
      · rw [hr] at h; cases h
      · exact h hE
      · exact h hE
      · rw [law.r] at h; cases h
      · rw [law.z] at h; simp at h
      · exact h (by rw [hMA]; rfl)
    · try simp only [decide_eq_true_eq, decide_eq_false_iff_not, Bool.and_eq_true, Bool.or_eq_true, Bool.and_eq_false_iff, Bool.or_eq_false_iff, Bool.not_eq_true', Bool.not_eq_false', ne_eq, Decidable.not_not] at hc2
      refine WP.skip ?_
      refine EX.then ?_
      refine WP.seq ?_
      refine WP.draw (nf := 17) [⟨[93, 94, 95, 97, 98, 99, 100, 101, 102], [], [], [], []⟩, ⟨[93, 94, 95, 97, 98, 99, 100, 101, 102], [], [], [], [0]⟩, ⟨[91, 92, 94, 97, 98, 99, 100], [], [], [], []⟩, ⟨[91, 92, 93, 97, 98, 99, 100], [], [], [], []⟩, ⟨[91, 92, 97, 98, 99, 100], [], [], [], [2, 3]⟩, ⟨[97, 98, 99, 100, 101, 102], [], [], [], [0, 1, 2, 3, 4]⟩, ⟨[91, 92, 93, 94, 95, 96, 99, 100, 101, 13], [], [], [], []⟩, ⟨[91, 92, 93, 94, 95, 96, 99, 100, 101, 13], [], [], [], [6]⟩, ⟨[91, 92, 93, 94, 95, 96, 97, 98, 100], [], [], [], []⟩, ⟨[91, 92, 93, 94, 95, 96, 97, 98, 99], [], [], [], []⟩, ⟨[91, 92, 96, 97, 98], [], [], [], [2, 3, 4, 8, 9]⟩, ⟨[91, 92, 96, 13], [], [], [], [2, 3, 4, 6, 7, 8, 9, 10]⟩, ⟨[97, 98, 102], [], [], [], [0, 1, 2, 3, 4, 5, 8, 9, 10]⟩, ⟨[], [], [], [], [0, 1, 2, 3, 4, 5, 6, 7, 8, 9, 10, 11, 12]⟩] (by kernel_rfl) (by kernel_rfl) ?_
      refine DRQ.v rfl rfl rfl (o_fldp F61_0 rfl) ?_
      refine DRQ.v rfl rfl rfl (o_ldp S3 rfl rfl rfl) ?_
      refine DRQ.v rfl rfl rfl (o_ldpa G28 rfl rfl rfl) ?_
      refine DRQ.v rfl rfl rfl (o_move rfl) ?_
      refine DRQ.cs rfl rfl rfl rfl (o_sig 17 (ren [(0, 0), (1, 1)]) (c48 s add hpg had.2.2 (by omega)) e48 rfl rfl rfl w48 ⟨(lx rfl), (lx rfl), trivial⟩ r48) ?_
      refine DRQ.v rfl rfl rfl (o_add rfl rfl (by first | omega | (simp; omega)) (by first | omega | (simp; omega))) ?_
      refine DRQ.v rfl rfl rfl (o_fldp F61_1 rfl) ?_
      refine DRQ.v rfl rfl rfl (o_ldp S3 rfl rfl rfl) ?_
      refine DRQ.v rfl rfl rfl (o_ldpa G28 rfl rfl rfl) ?_
      refine DRQ.v rfl rfl rfl (o_move rfl) ?_
      refine DRQ.cs rfl rfl rfl rfl (o_sig 17 (ren [(0, 0), (1, 1)]) (c49 s add hpg had.2.2 (by omega)) e49 rfl rfl rfl w49 ⟨(lx rfl), (lx rfl), trivial⟩ r49) ?_
      refine DRQ.v rfl rfl rfl (o_add rfl rfl (by first | omega | (simp; omega)) (by first | omega | (simp; omega))) ?_
      refine DRQ.v rfl rfl rfl (o_assign rfl) ?_
      refine DRQ.v rfl rfl rfl (o_assign rfl) ?_
      refine DRQ.nil' ?_
      refine EX.then ?_
      refine WP.seq ?_
      refine WP.seq ?_
      refine WP.region ?_
      rw [List.nil_append]
      rw [hMA]
      refine WPl.v rfl (o_move rfl) ?_
      refine WPl.v rfl (o_fldp F25_1 rfl) ?_
      refine WPl.v rfl (o_fldp F23_0 rfl) ?_
      refine WPl.v rfl (o_ldp S3 rfl rfl rfl) ?_
      refine WPl.v rfl (o_fldp F25_1 rfl) ?_
      refine WPl.v rfl (o_fldp F23_1 rfl) ?_
      refine WPl.v rfl (o_ldp S3 rfl rfl rfl) ?_
      refine WPl.cs 17 rfl rfl rfl rfl (o_sig 17 id (c24 (t + (sumOf Pig.tin s.pigs add)) ((s.aft add).tl) ((s.aft add).th)) e24 rfl rfl rfl w24 trivial r24) ?_
      refine WPl.v rfl (o_not rfl) ?_
      refine WPl.v rfl (o_move rfl) ?_
      refine WPl.bit 17 18 (!(!(within (t + (sumOf Pig.tin s.pigs add)) ((s.aft add).tl) ((s.aft add).th)))) rfl rfl ?_
      refine WPl.gv 17 rfl rfl (.plain rfl (by first | (simp; done) | simp only [Bool.not_eq_true']) rfl) (fun hb => o_move rfl) ?_
      refine WPl.gv 17 rfl rfl (.plain rfl (by first | (simp; done) | simp only [Bool.not_eq_true']) rfl) (fun hb => o_fldp F25_2 rfl) ?_
      refine WPl.gv 17 rfl rfl (.plain rfl (by first | (simp; done) | simp only [Bool.not_eq_true']) rfl) (fun hb => o_fldp F23_0 rfl) ?_
      refine WPl.gv 17 rfl rfl (.plain rfl (by first | (simp; done) | simp only [Bool.not_eq_true']) rfl) (fun hb => o_ldp S3 rfl rfl rfl) ?_
      refine WPl.gv 17 rfl rfl (.plain rfl (by first | (simp; done) | simp only [Bool.not_eq_true']) rfl) (fun hb => o_fldp F25_2 rfl) ?_
      refine WPl.gv 17 rfl rfl (.plain rfl (by first | (simp; done) | simp only [Bool.not_eq_true']) rfl) (fun hb => o_fldp F23_1 rfl) ?_
      refine WPl.gv 17 rfl rfl (.plain rfl (by first | (simp; done) | simp only [Bool.not_eq_true']) rfl) (fun hb => o_ldp S3 rfl rfl rfl) ?_
      refine WPl.gc0 17 rfl rfl (.plain rfl (by first | (simp; done) | simp only [Bool.not_eq_true']) rfl) (fun hb => o_sig 18 id (c24 (a + (sumOf Pig.ant s.pigs add)) ((s.aft add).al) ((s.aft add).ah)) e24 rfl rfl rfl w24 trivial r24) ?_
      refine WPl.gv 17 rfl rfl (.plain rfl (by first | (simp; done) | simp only [Bool.not_eq_true']) rfl) (fun hb => o_not rfl) ?_
      refine WPl.v rfl (o_or rfl rfl rfl (by first | (simp; done) | exact fun h => by rw [h]; rfl | exact fun h => Bool.and_eq_true_iff.2 ⟨hb, by rw [h]; rfl⟩ | simp_all)) ?_
      refine WPl.nil ?_
      refine EX.then ?_
      refine WP.cond rfl (fun hc3 => ?_) (fun hc3 => ?_)
      · try simp only [decide_eq_true_eq, decide_eq_false_iff_not, Bool.and_eq_true, Bool.or_eq_true, Bool.and_eq_false_iff, Bool.or_eq_false_iff, Bool.not_eq_true', Bool.not_eq_false', ne_eq, Decidable.not_not] at hc3
        exfalso
        simp [law.w.1, law.w.2] at hc3
      · try simp only [decide_eq_true_eq, decide_eq_false_iff_not, Bool.and_eq_true, Bool.or_eq_true, Bool.and_eq_false_iff, Bool.or_eq_false_iff, Bool.not_eq_true', Bool.not_eq_false', ne_eq, Decidable.not_not] at hc3
        refine WP.skip ?_
        refine EX.then ?_
        refine WP.seq ?_
        refine WP.region ?_
        refine WPl.v rfl (o_assign rfl) ?_
        refine WPl.nil ?_
        refine EX.then ?_
        refine WP.seq ?_
        refine WP.seq ?_
        refine WP.region ?_
        refine WPl.v rfl (o_assign rfl) ?_
        refine WPl.nil ?_
        refine EX.then ?_
        refine WP.block ?_
        refine WP.loop (Gh := Nat) (fun i => ⟨18, [(3, .e (.a (.p 2 (0)))), (6, .b (false)), (7, .i (s.mSafe add)), (9, .e (.a (.q 8))), (11, .e (.a (.p 11 (0)))), (13, .i (t + (sumOf Pig.tin s.pigs add))), (14, .i (a + (sumOf Pig.ant s.pigs add))), (15, .b (s.keepsTo (s.aft add).pounds (t + (sumOf Pig.tin s.pigs add)) (a + (sumOf Pig.ant s.pigs add)) i)), (16, .i ((i : Int) + 1))], [(0, PL EPig (s.pigs)), (8, PL EP.int (s.mFails (add)))], [(2, .blk [ai (s.pounds), ai (s.tl), ai (s.th), ai (s.al), ai (s.ah), ai (s.room), ai (s.tpl), ai (s.tph), ai (s.apl), ai (s.aph), .q 0] 28), (11, .blk [ai ((s.aft add).pounds), ai ((s.aft add).tl), ai ((s.aft add).th), ai ((s.aft add).al), ai ((s.aft add).ah)] 25)], [], []⟩) (fun i => i ≤ 4) (fun i => 4 - i) (0) id ?_ (LeR.of ⟨rfl, rfl, rfl, rfl, rfl, rfl, rfl, rfl, rfl, trivial⟩ ⟨(lx rfl), (lx rfl), trivial⟩ ⟨rfl, rfl, trivial⟩ rfl rfl rfl rfl rfl) ?_
        · first | trivial | omega | (constructor <;> omega) | simp
        intro i hφ
        try simp only [] at hφ
        refine WP.seq ?_
        refine WP.seq ?_
        refine WP.region ?_
        refine WPl.v rfl (o_move rfl) ?_
        refine WPl.v rfl (o_leq rfl rfl) ?_
        refine WPl.nil ?_
        refine EX.then ?_
        refine WP.cond rfl (fun hc4 => ?_) (fun hc4 => ?_)
        · try simp only [decide_eq_true_eq, decide_eq_false_iff_not, Bool.and_eq_true, Bool.or_eq_true, Bool.and_eq_false_iff, Bool.or_eq_false_iff, Bool.not_eq_true', Bool.not_eq_false', ne_eq, Decidable.not_not] at hc4
          refine WP.skip ?_
          refine EX.then ?_
          refine WP.seq ?_
          refine WP.block ?_
          refine WP.seq ?_
          refine WP.region ?_
          refine WPl.v rfl (o_ldpa G28 rfl rfl rfl) ?_
          refine WPl.v rfl (o_move rfl) ?_
          refine WPl.v rfl (o_fldp F25_0 rfl) ?_
          refine WPl.v rfl (o_ldp S3 rfl rfl rfl) ?_
          refine WPl.v rfl (o_move rfl) ?_
          refine WPl.v rfl (o_move rfl) ?_
          refine WPl.cs 18 rfl rfl rfl rfl (o_sig 18 (ren [(0, 0)]) (c50 s ((i : Int) + 1) ((s.aft add).pounds) (t + (sumOf Pig.tin s.pigs add)) (a + (sumOf Pig.ant s.pigs add)) hs (by omega) (by omega) (by omega)) e50 rfl rfl rfl w50 ⟨(lx rfl), trivial⟩ r50) ?_
          refine WPl.v rfl (o_assign rfl) ?_
          refine WPl.nil ?_
          refine EX.then ?_
          refine WP.seq ?_
          refine WP.seq ?_
          refine WP.region ?_
          refine WPl.v rfl (o_move rfl) ?_
          refine WPl.v rfl (o_not rfl) ?_
          refine WPl.v rfl (o_move rfl) ?_
          refine WPl.bit 18 19 (!(keeps1 s ((i : Int) + 1) ((s.aft add).pounds) (t + (sumOf Pig.tin s.pigs add)) (a + (sumOf Pig.ant s.pigs add)))) rfl rfl ?_
          refine WPl.gv 18 rfl rfl (.plain rfl Iff.rfl rfl) (fun hb => o_move rfl) ?_
          refine WPl.gv 18 rfl rfl (.plain rfl Iff.rfl rfl) (fun hb => o_move rfl) ?_
          refine WPl.gc0 18 rfl rfl (.plain rfl Iff.rfl rfl) (fun hb => o_sig 19 (ren [(0, 8)]) (c23 (s.mFails (add)) ((i : Int) + 1) (by omega)) e23 rfl rfl rfl w23 ⟨(lx rfl), trivial⟩ r23) ?_
          refine WPl.gv 18 rfl rfl (.plain rfl Iff.rfl rfl) (fun hb => o_not rfl) ?_
          refine WPl.v rfl (o_and rfl rfl rfl id) ?_
          refine WPl.nil ?_
          refine EX.then ?_
          refine WP.cond rfl (fun hc5 => ?_) (fun hc5 => ?_)
          · try simp only [decide_eq_true_eq, decide_eq_false_iff_not, Bool.and_eq_true, Bool.or_eq_true, Bool.and_eq_false_iff, Bool.or_eq_false_iff, Bool.not_eq_true', Bool.not_eq_false', ne_eq, Decidable.not_not] at hc5
            exfalso
            obtain ⟨h1, h2⟩ := hc5
            rw [law.k i (by omega) h1] at h2; cases h2
          · try simp only [decide_eq_true_eq, decide_eq_false_iff_not, Bool.and_eq_true, Bool.or_eq_true, Bool.and_eq_false_iff, Bool.or_eq_false_iff, Bool.not_eq_true', Bool.not_eq_false', ne_eq, Decidable.not_not] at hc5
            refine WP.skip ?_
            refine EX.then ?_
            refine WP.region ?_
            refine WPl.v rfl (o_move rfl) ?_
            refine WPl.v rfl (o_move rfl) ?_
            refine WPl.bit 19 20 (s.keepsTo (s.aft add).pounds (t + (sumOf Pig.tin s.pigs add)) (a + (sumOf Pig.ant s.pigs add)) i) rfl rfl ?_
            refine WPl.gv 19 rfl rfl (.plain rfl Iff.rfl rfl) (fun hb => o_move rfl) ?_
            refine WPl.v rfl (o_and rfl rfl rfl id) ?_
            refine WPl.v rfl (o_assign rfl) ?_
            refine WPl.nil ?_
            refine EX.blk ?_
            refine EX.then ?_
            refine WP.region ?_
            refine WPl.v rfl (o_move rfl) ?_
            refine WPl.v rfl (o_add rfl rfl (by first | omega | (simp; omega)) (by first | omega | (simp; omega))) ?_
            refine WPl.v rfl (o_assign rfl) ?_
            refine WPl.nil ?_
            refine EX.again (i + 1) id (by first | omega | (constructor <;> omega)) (by omega) (LeR.of ⟨rfl, rfl, rfl, rfl, rfl, rfl, rfl, rfl, (congrArg (fun z => some (SV.i z)) (show (((i : Int) + 1) + 1) = ((fun i => (i : Int) + 1) (i + 1)) from by show (i : Int) + 1 + 1 = ((i + 1 : Nat) : Int) + 1; omega)), trivial⟩ ⟨(lx rfl), (lx rfl), trivial⟩ ⟨rfl, rfl, trivial⟩ rfl rfl rfl rfl rfl)
        · try simp only [decide_eq_true_eq, decide_eq_false_iff_not, Bool.and_eq_true, Bool.or_eq_true, Bool.and_eq_false_iff, Bool.or_eq_false_iff, Bool.not_eq_true', Bool.not_eq_false', ne_eq, Decidable.not_not] at hc4
          have hi4 : i = 4 := by omega
          have hg := law.g
          have hn := law.n
          rw [← hi4] at hg hn
          refine WP.exit ?_
          refine EX.exit_then ?_
          refine EX.exit_then ?_
          refine EX.exit_blk ?_
          refine EX.then ?_
          refine WP.seq ?_
          refine WP.region ?_
          refine WPl.v rfl (o_move rfl) ?_
          refine WPl.v rfl (o_neq rfl rfl) ?_
          refine WPl.v rfl (o_move rfl) ?_
          refine WPl.bit 18 19 (!(decide ((s.mSafe add) ≠ 1))) rfl rfl ?_
          refine WPl.gv 18 rfl rfl (.plain rfl (by first | (simp; done) | simp only [Bool.not_eq_true']) rfl) (fun hb => o_move rfl) ?_
          refine WPl.v rfl (o_or rfl rfl rfl (by first | (simp; done) | exact fun h => by rw [h]; rfl | exact fun h => Bool.and_eq_true_iff.2 ⟨hb, by rw [h]; rfl⟩ | simp_all)) ?_
          refine WPl.imp (Imp.bitF 150 (b' := true) rfl (by by_cases h : s.mSafe add = 1; (simp [hg h]); (simp [h]))) ?_
          refine WPl.v rfl (o_move rfl) ?_
          refine WPl.on rfl ⟨_, _, rfl, rfl, rfl⟩ (o_move rfl) ?_
          refine WPl.on rfl ⟨_, _, rfl, rfl, rfl⟩ (o_neq rfl rfl) ?_
          refine WPl.on rfl ⟨_, _, rfl, rfl, rfl⟩ (o_move rfl) ?_
          refine WPl.bit 19 20 (!(decide ((s.mSafe add) ≠ 2))) rfl rfl ?_
          refine WPl.gv 19 rfl rfl (.plain rfl (by first | (simp; done) | simp only [Bool.not_eq_true']) rfl) (fun hb => o_move rfl) ?_
          refine WPl.gv 19 rfl rfl (.plain rfl (by first | (simp; done) | simp only [Bool.not_eq_true']) rfl) (fun hb => o_not rfl) ?_
          refine WPl.on rfl ⟨_, _, rfl, rfl, rfl⟩ (o_or rfl rfl rfl (by first | (simp; done) | exact fun h => by rw [h]; rfl | exact fun h => Bool.and_eq_true_iff.2 ⟨hb, by rw [h]; rfl⟩ | simp_all)) ?_
          refine WPl.imp (Imp.bitF 157 (b' := true) rfl (by by_cases h : s.mSafe add = 2; (simp [hn h]); (simp [h]))) ?_
          refine WPl.v rfl (o_pickT rfl rfl) ?_
          refine WPl.v rfl (o_move rfl) ?_
          refine WPl.ung ⟨_, _, rfl, rfl, rfl⟩ ?_
          refine WPl.cs 20 rfl rfl rfl rfl (o_sig 20 id c17 e17 rfl rfl rfl w17 trivial r17) ?_
          refine WPl.v rfl (o_pickT rfl rfl) ?_
          refine WPl.v rfl (o_assign rfl) ?_
          refine WPl.nil ?_
          refine EX.then ?_
          refine WP.ret ?_
          exact EX.fin id (.inl rfl) rfl (.tmp rfl .nil) rfl r10 trivial (by simp) (by simp)
end Go.Flong
namespace Go.Flong
open Go Go.Eng Go.Proofs
theorem e60 : Enters' Try.prog 60 := Try.call60
theorem e56 : Enters' Try.prog 56 := Try.call56
theorem e65 : Enters' Try.prog 65 := Try.call65
theorem e66 : Enters' Try.prog 66 := Try.call66
theorem w14 {s : Shop} {add : List Int} : ∀ x ∈ ([.e (.g [ai (s.pounds), ai (s.tl), ai (s.th), ai (s.al), ai (s.ah), ai (s.room), ai (s.tpl), ai (s.tph), ai (s.apl), ai (s.aph), .q 0]), .e (.a (.q 1))] : List SV), x.res (keys (α := Pred) [(0, PL EPig (s.pigs)), (1, PL EP.int (add))]) := by simp [SV.res, El.res, At.res, keys]
theorem r14  : SV.res (keys (α := Pred) []) (.b (true)) := by simp [SV.res, El.res, At.res, keys]
set_option maxHeartbeats 4000000 in
set_option maxRecDepth 10000 in
theorem c14 (s : Shop) (add : List Int) (hlaw : s.ready = true → BestLaw s add) : Sig Try.prog 14 [.e (.g [ai (s.pounds), ai (s.tl), ai (s.th), ai (s.al), ai (s.ah), ai (s.room), ai (s.tpl), ai (s.tph), ai (s.apl), ai (s.aph), .q 0]), .e (.a (.q 1))] [(0, PL EPig (s.pigs)), (1, PL EP.int (add))] (.b (true)) [] := by
  refine Sig.intro Try.func14 rfl 2 [(0, .e (.g [ai (s.pounds), ai (s.tl), ai (s.th), ai (s.al), ai (s.ah), ai (s.room), ai (s.tpl), ai (s.tph), ai (s.apl), ai (s.aph), .q 0])), (1, .e (.a (.q 1)))] rfl w14 rfl rfl fun I w => ?_
  refine WP.seq ?_
  refine WP.region ?_
  refine WPl.l 2 3 rfl rfl rfl (o_boxg rfl) ?_
  refine WPl.v rfl (o_assign rfl) ?_
  refine WPl.nil ?_
  refine EX.then ?_
  refine WP.seq ?_
  refine WP.seq ?_
  refine WP.region ?_
  refine WPl.v rfl (o_ldpa G28 rfl rfl rfl) ?_
  refine WPl.cs 3 rfl rfl rfl rfl (o_sig 3 (ren [(0, 0)]) (c15 s) e15 rfl rfl rfl w15 ⟨(lx rfl), trivial⟩ r15) ?_
  refine WPl.v rfl (o_not rfl) ?_
  refine WPl.nil ?_
  refine EX.then ?_
  refine WP.cond rfl (fun hc1 => ?_) (fun hc1 => ?_)
  · try simp only [decide_eq_true_eq, decide_eq_false_iff_not, Bool.and_eq_true, Bool.or_eq_true, Bool.and_eq_false_iff, Bool.or_eq_false_iff, Bool.not_eq_true', Bool.not_eq_false', ne_eq, Decidable.not_not] at hc1
    refine WP.seq ?_
    refine WP.region ?_
    refine WPl.cs 3 rfl rfl rfl rfl (o_sig 3 id c17 e17 rfl rfl rfl w17 trivial r17) ?_
    refine WPl.v rfl (o_assign rfl) ?_
    refine WPl.nil ?_
    refine EX.then ?_
    refine WP.ret ?_
    refine EX.ret_then ?_
    exact EX.fin id (.inl rfl) rfl (.tmp rfl .nil) rfl r14 trivial (by simp) (by simp)
  · try simp only [decide_eq_true_eq, decide_eq_false_iff_not, Bool.and_eq_true, Bool.or_eq_true, Bool.and_eq_false_iff, Bool.or_eq_false_iff, Bool.not_eq_true', Bool.not_eq_false', ne_eq, Decidable.not_not] at hc1
    have hr : s.ready = true := by simpa using hc1
    have law := hlaw hr
    have hs : s.chk = true := ready_chk hr
    have hpg := Shop.pigsOK hs
    have hl4 := hpg.2
    have hsl : s.mShort.length ≤ 4 := by have := shortTo_len s 4; unfold Shop.mShort; rw [hs]; exact this
    refine WP.skip ?_
    refine EX.then ?_
    refine WP.seq ?_
    refine WP.region ?_
    refine WPl.v rfl (o_ldpa G28 rfl rfl rfl) ?_
    refine WPl.cs 3 rfl rfl rfl rfl (o_sig 3 (ren [(0, 0)]) (c26 s hs) e26 rfl rfl rfl w26 ⟨(lx rfl), trivial⟩ r26) ?_
    refine WPl.v rfl (o_move rfl) ?_
    refine WPl.v rfl (o_extract rfl rfl) ?_
    refine WPl.v rfl (o_extract rfl rfl) ?_
    refine WPl.v rfl (o_assign rfl) ?_
    refine WPl.v rfl (o_assign rfl) ?_
    refine WPl.nil ?_
    refine EX.then ?_
    refine WP.seq ?_
    refine WP.region ?_
    refine WPl.v rfl (o_ldpa G28 rfl rfl rfl) ?_
    refine WPl.cs 3 rfl rfl rfl rfl (o_sig 3 (ren [(0, 0)]) (c64 s hs) e64 rfl rfl rfl w64 ⟨(lx rfl), trivial⟩ r64) ?_
    refine WPl.v rfl (o_move rfl) ?_
    refine WPl.v rfl (o_extract rfl rfl) ?_
    refine WPl.v rfl (o_extract rfl rfl) ?_
    refine WPl.v rfl (o_assign rfl) ?_
    refine WPl.v rfl (o_assign rfl) ?_
    refine WPl.nil ?_
    refine EX.then ?_
    refine WP.seq ?_
    refine WP.region ?_
    refine WPl.v rfl (o_ldpa G28 rfl rfl rfl) ?_
    refine WPl.cs 4 rfl rfl rfl rfl (o_sig 3 (ren [(0, 0)]) (c60 s (by omega)) e60 rfl rfl rfl w60 ⟨(lx rfl), trivial⟩ r60) ?_
    refine WPl.v rfl (o_move rfl) ?_
    refine WPl.v rfl (o_extract rfl rfl) ?_
    refine WPl.v rfl (o_extract rfl rfl) ?_
    refine WPl.v rfl (o_assign rfl) ?_
    refine WPl.v rfl (o_assign rfl) ?_
    refine WPl.nil ?_
    refine EX.then ?_
    refine WP.seq ?_
    refine WP.region ?_
    refine WPl.v rfl (o_ldpa G28 rfl rfl rfl) ?_
    refine WPl.cs 5 rfl rfl rfl rfl (o_sig 4 (ren [(0, 0)]) (c56 s (by omega)) e56 rfl rfl rfl w56 ⟨(lx rfl), trivial⟩ r56) ?_
    refine WPl.v rfl (o_move rfl) ?_
    refine WPl.v rfl (o_extract rfl rfl) ?_
    refine WPl.v rfl (o_extract rfl rfl) ?_
    refine WPl.v rfl (o_assign rfl) ?_
    refine WPl.v rfl (o_assign rfl) ?_
    refine WPl.nil ?_
    refine EX.then ?_
    refine WP.seq ?_
    refine WP.seq ?_
    refine WP.region ?_
    refine WPl.v rfl (o_move rfl) ?_
    refine WPl.v rfl (o_not rfl) ?_
    refine WPl.v rfl (o_move rfl) ?_
    refine WPl.on rfl ⟨_, _, rfl, rfl, rfl⟩ (o_move rfl) ?_
    refine WPl.on rfl ⟨_, _, rfl, rfl, rfl⟩ (o_not rfl) ?_
    refine WPl.v rfl (o_pickF rfl rfl) ?_
    refine WPl.v rfl (o_move rfl) ?_
    refine WPl.on rfl ⟨_, _, rfl, rfl, rfl⟩ (o_move rfl) ?_
    refine WPl.on rfl ⟨_, _, rfl, rfl, rfl⟩ (o_neq rfl rfl) ?_
    refine WPl.on rfl ⟨_, _, rfl, rfl, rfl⟩ (o_move rfl) ?_
    refine WPl.bit 5 6 (decide ((s.mE (priceG s)) ≠ 0)) rfl rfl ?_
    refine WPl.gv 5 rfl rfl (.plain rfl Iff.rfl rfl) (fun hb => o_move rfl) ?_
    refine WPl.gv 5 rfl rfl (.plain rfl Iff.rfl rfl) (fun hb => o_neq rfl rfl) ?_
    refine WPl.on rfl ⟨_, _, rfl, rfl, rfl⟩ (o_and rfl rfl rfl id) ?_
    refine WPl.v rfl (o_pickF rfl rfl) ?_
    refine WPl.imp (Imp.bitF 57 (b' := false) rfl (by rcases law.e with h | h <;> simp [h])) ?_
    refine WPl.v rfl (o_move rfl) ?_
    refine WPl.on rfl ⟨_, _, rfl, rfl, rfl⟩ (o_move rfl) ?_
    refine WPl.on rfl ⟨_, _, rfl, rfl, rfl⟩ (o_neq rfl rfl) ?_
    refine WPl.imp (Imp.bitF 60 (b' := false) rfl (by simp [errM, hs])) ?_
    refine WPl.v rfl (o_pickF rfl rfl) ?_
    refine WPl.v rfl (o_move rfl) ?_
    refine WPl.on rfl ⟨_, _, rfl, rfl, rfl⟩ (o_move rfl) ?_
    refine WPl.on rfl ⟨_, _, rfl, rfl, rfl⟩ (o_eql rfl rfl) ?_
    refine WPl.on rfl ⟨_, _, rfl, rfl, rfl⟩ (o_move rfl) ?_
    refine WPl.on rfl ⟨_, _, rfl, rfl, rfl⟩ (o_lss rfl rfl) ?_
    refine WPl.on rfl ⟨_, _, rfl, rfl, rfl⟩ (o_neb Try.underlying4 rfl rfl) ?_
    refine WPl.imp (Imp.bitF 67 (b' := false) rfl (by simp [law.n])) ?_
    refine WPl.v rfl (o_pickF rfl rfl) ?_
    refine WPl.v rfl (o_move rfl) ?_
    refine WPl.on rfl ⟨_, _, rfl, rfl, rfl⟩ (o_move rfl) ?_
    refine WPl.on rfl ⟨_, _, rfl, rfl, rfl⟩ (o_eql rfl rfl) ?_
    refine WPl.on rfl ⟨_, _, rfl, rfl, rfl⟩ (o_move rfl) ?_
    refine WPl.on rfl ⟨_, _, rfl, rfl, rfl⟩ (o_lss rfl rfl) ?_
    refine WPl.on rfl ⟨_, _, rfl, rfl, rfl⟩ (o_neb Try.underlying4 rfl rfl) ?_
    refine WPl.imp (Imp.bitF 74 (b' := false) rfl (by simp [law.t])) ?_
    refine WPl.v rfl (o_pickF rfl rfl) ?_
    refine WPl.v rfl (o_move rfl) ?_
    refine WPl.on rfl ⟨_, _, rfl, rfl, rfl⟩ (o_move rfl) ?_
    refine WPl.ung ⟨_, _, rfl, rfl, rfl⟩ ?_
    refine WPl.cs 6 rfl rfl rfl rfl (o_sig 6 (ren [(0, 4)]) (c46 s.mShort 1 4 (by omega)) e46 rfl rfl rfl w46 ⟨(lx rfl), trivial⟩ r46) ?_
    refine WPl.on rfl ⟨_, _, rfl, rfl, rfl⟩ (o_not rfl) ?_
    refine WPl.imp (Imp.bitF 79 (b' := false) rfl (by rw [law.r]; rfl)) ?_
    refine WPl.v rfl (o_pickF rfl rfl) ?_
    refine WPl.v rfl (o_move rfl) ?_
    refine WPl.on rfl ⟨_, _, rfl, rfl, rfl⟩ (o_move rfl) ?_
    refine WPl.ung ⟨_, _, rfl, rfl, rfl⟩ ?_
    refine WPl.v rfl (o_lenq L29 rfl (lx rfl)) ?_
    refine WPl.on rfl ⟨_, _, rfl, rfl, rfl⟩ (o_gtr rfl rfl) ?_
    refine WPl.on rfl ⟨_, _, rfl, rfl, rfl⟩ (o_move rfl) ?_
    refine WPl.bit 6 7 (decide (0 < (s.mShort.length : Int))) rfl rfl ?_
    refine WPl.gv 6 rfl rfl (.plain rfl Iff.rfl rfl) (fun hb => o_move rfl) ?_
    refine WPl.gv 6 rfl rfl (.plain rfl Iff.rfl rfl) (fun hb => o_eql rfl rfl) ?_
    refine WPl.on rfl ⟨_, _, rfl, rfl, rfl⟩ (o_and rfl rfl rfl id) ?_
    refine WPl.v rfl (o_pickF rfl rfl) ?_
    refine WPl.nil ?_
    refine EX.then ?_
    refine WP.cond rfl (fun hc2 => ?_) (fun hc2 => ?_)
    · try simp only [decide_eq_true_eq, decide_eq_false_iff_not, Bool.and_eq_true, Bool.or_eq_true, Bool.and_eq_false_iff, Bool.or_eq_false_iff, Bool.not_eq_true', Bool.not_eq_false', ne_eq, Decidable.not_not] at hc2
      exfalso
      exact law.z (by omega) hc2.2
    · try simp only [decide_eq_true_eq, decide_eq_false_iff_not, Bool.and_eq_true, Bool.or_eq_true, Bool.and_eq_false_iff, Bool.or_eq_false_iff, Bool.not_eq_true', Bool.not_eq_false', ne_eq, Decidable.not_not] at hc2
      refine WP.skip ?_
      refine EX.then ?_
      refine WP.seq ?_
      refine WP.seq ?_
      refine WP.region ?_
      refine WPl.v rfl (o_move rfl) ?_
      refine WPl.v rfl (o_eql rfl rfl) ?_
      refine WPl.nil ?_
      refine EX.then ?_
      refine WP.cond rfl (fun hc3 => ?_) (fun hc3 => ?_)
      · try simp only [decide_eq_true_eq, decide_eq_false_iff_not, Bool.and_eq_true, Bool.or_eq_true, Bool.and_eq_false_iff, Bool.or_eq_false_iff, Bool.not_eq_true', Bool.not_eq_false', ne_eq, Decidable.not_not] at hc3
        have ho := law.o (by simpa using hc3)
        have hol := add_len ho.1
        have hod := isAddB hpg ho.1
        refine WP.seq ?_
        refine WP.seq ?_
        refine WP.region ?_
        refine WPl.v rfl (o_ldpa G28 rfl rfl rfl) ?_
        refine WPl.v rfl (o_move rfl) ?_
        refine WPl.cs 7 rfl rfl rfl rfl (o_sig 7 (ren [(0, 0), (1, 3)]) (c20 s (s.mAdd (priceG s)) hs) e20 rfl rfl rfl w20 ⟨(lx rfl), (lx rfl), trivial⟩ r20) ?_
        refine WPl.v rfl (o_not rfl) ?_
        refine WPl.imp (Imp.bitF 95 (b' := false) rfl (by simp [ho.1]; omega)) ?_
        refine WPl.v rfl (o_move rfl) ?_
        refine WPl.ung ⟨_, _, rfl, rfl, rfl⟩ ?_
        refine WPl.v rfl (o_ldpa G28 rfl rfl rfl) ?_
        refine WPl.on rfl ⟨_, _, rfl, rfl, rfl⟩ (o_move rfl) ?_
        refine WPl.ung ⟨_, _, rfl, rfl, rfl⟩ ?_
        refine WPl.cs 7 rfl rfl rfl rfl (o_sig 7 (ren [(0, 0), (1, 3)]) (c65 s (s.mAdd (priceG s)) hpg hod.2.2 (by omega)) e65 rfl rfl rfl w65 ⟨(lx rfl), (lx rfl), trivial⟩ r65) ?_
        refine WPl.on rfl ⟨_, _, rfl, rfl, rfl⟩ (o_move rfl) ?_
        refine WPl.on rfl ⟨_, _, rfl, rfl, rfl⟩ (o_neq rfl rfl) ?_
        refine WPl.imp (Imp.bitF 101 (b' := false) rfl (by simp [ho.2.1])) ?_
        refine WPl.v rfl (o_pickF rfl rfl) ?_
        refine WPl.v rfl (o_move rfl) ?_
        refine WPl.ung ⟨_, _, rfl, rfl, rfl⟩ ?_
        refine WPl.v rfl (o_ldpa G28 rfl rfl rfl) ?_
        refine WPl.on rfl ⟨_, _, rfl, rfl, rfl⟩ (o_move rfl) ?_
        refine WPl.ung ⟨_, _, rfl, rfl, rfl⟩ ?_
        refine WPl.cs 7 rfl rfl rfl rfl (o_sig 7 (ren [(0, 0), (1, 3)]) (c48 s (s.mAdd (priceG s)) hpg hod.2.2 (by omega)) e48 rfl rfl rfl w48 ⟨(lx rfl), (lx rfl), trivial⟩ r48) ?_
        refine WPl.on rfl ⟨_, _, rfl, rfl, rfl⟩ (o_move rfl) ?_
        refine WPl.on rfl ⟨_, _, rfl, rfl, rfl⟩ (o_lss rfl rfl) ?_
        refine WPl.imp (Imp.bitF 108 (b' := false) rfl (by simp; omega)) ?_
        refine WPl.v rfl (o_pickF rfl rfl) ?_
        refine WPl.nil ?_
        refine EX.then ?_
        refine WP.cond rfl (fun h => by cases h) (fun _ => ?_)
        refine WP.skip ?_
        refine EX.then ?_
        refine WP.seq ?_
        refine WP.region ?_
        refine WPl.v rfl (o_ldpa G28 rfl rfl rfl) ?_
        refine WPl.v rfl (o_move rfl) ?_
        refine WPl.cs 7 rfl rfl rfl rfl (o_sig 7 (ren [(0, 0), (1, 3)]) (c21 s (s.mAdd (priceG s)) hs ho.1) e21 rfl rfl rfl w21 ⟨(lx rfl), (lx rfl), trivial⟩ r21) ?_
        refine WPl.v rfl (o_move rfl) ?_
        refine WPl.v rfl (o_extract rfl rfl) ?_
        refine WPl.v rfl (o_extract rfl rfl) ?_
        refine WPl.v rfl (o_assign rfl) ?_
        refine WPl.v rfl (o_assign rfl) ?_
        refine WPl.nil ?_
        refine EX.then ?_
        refine WP.seq ?_
        refine WP.region ?_
        refine WPl.v rfl (o_move rfl) ?_
        refine WPl.v rfl (o_not rfl) ?_
        refine WPl.v rfl (o_move rfl) ?_
        refine WPl.on rfl ⟨_, _, rfl, rfl, rfl⟩ (o_move rfl) ?_
        refine WPl.on rfl ⟨_, _, rfl, rfl, rfl⟩ (o_neq rfl rfl) ?_
        refine WPl.imp (Imp.bitF 120 (b' := false) rfl (by simp [ho.2.2.2])) ?_
        refine WPl.v rfl (o_pickF rfl rfl) ?_
        refine WPl.nil ?_
        refine EX.then ?_
        refine WP.cond rfl (fun h => by cases h) (fun _ => ?_)
        refine WP.skip ?_
        refine EX.then ?_
        refine WP.seq ?_
        refine WP.seq ?_
        refine WP.region ?_
        refine WPl.v rfl (o_ldpa G28 rfl rfl rfl) ?_
        refine WPl.v rfl (o_move rfl) ?_
        refine WPl.cs 7 rfl rfl rfl rfl (o_sig 7 (ren [(0, 0), (1, 1)]) (c20 s add hs) e20 rfl rfl rfl w20 ⟨(lx rfl), (lx rfl), trivial⟩ r20) ?_
        refine WPl.v rfl (o_not rfl) ?_
        refine WPl.nil ?_
        refine EX.then ?_
        refine WP.cond rfl (fun hc6 => ?_) (fun hc6 => ?_)
        · try simp only [decide_eq_true_eq, decide_eq_false_iff_not, Bool.and_eq_true, Bool.or_eq_true, Bool.and_eq_false_iff, Bool.or_eq_false_iff, Bool.not_eq_true', Bool.not_eq_false', ne_eq, Decidable.not_not] at hc6
          refine WP.seq ?_
          refine WP.region ?_
          refine WPl.cs 7 rfl rfl rfl rfl (o_sig 7 id c17 e17 rfl rfl rfl w17 trivial r17) ?_
          refine WPl.v rfl (o_assign rfl) ?_
          refine WPl.nil ?_
          refine EX.then ?_
          refine WP.ret ?_
          refine EX.ret_then ?_
          exact EX.fin id (.inl rfl) rfl (.tmp rfl .nil) rfl r14 trivial (by simp) (by simp)
        · try simp only [decide_eq_true_eq, decide_eq_false_iff_not, Bool.and_eq_true, Bool.or_eq_true, Bool.and_eq_false_iff, Bool.or_eq_false_iff, Bool.not_eq_true', Bool.not_eq_false', ne_eq, Decidable.not_not] at hc6
          have hv : isAdd s add = true := (by simpa using hc6 : (add.length : Int) ≤ 40 ∧ isAdd s add = true).2
          have had := isAddB hpg hv
          refine WP.skip ?_
          refine EX.then ?_
          refine WP.seq ?_
          refine WP.region ?_
          refine WPl.v rfl (o_ldpa G28 rfl rfl rfl) ?_
          refine WPl.v rfl (o_move rfl) ?_
          refine WPl.cs 7 rfl rfl rfl rfl (o_sig 7 (ren [(0, 0), (1, 1)]) (c21 s add hs hv) e21 rfl rfl rfl w21 ⟨(lx rfl), (lx rfl), trivial⟩ r21) ?_
          refine WPl.v rfl (o_move rfl) ?_
          refine WPl.v rfl (o_extract rfl rfl) ?_
          refine WPl.v rfl (o_extract rfl rfl) ?_
          refine WPl.v rfl (o_assign rfl) ?_
          refine WPl.v rfl (o_assign rfl) ?_
          refine WPl.nil ?_
          refine EX.then ?_
          refine WP.seq ?_
          refine WP.seq ?_
          refine WP.region ?_
          refine WPl.v rfl (o_move rfl) ?_
          refine WPl.v rfl (o_not rfl) ?_
          refine WPl.nil ?_
          refine EX.then ?_
          refine WP.cond rfl (fun h => by cases h) (fun _ => ?_)
          refine WP.skip ?_
          refine EX.then ?_
          refine WP.seq ?_
          refine WP.seq ?_
          refine WP.region ?_
          refine WPl.v rfl (o_move rfl) ?_
          refine WPl.v rfl (o_neq rfl rfl) ?_
          refine WPl.nil ?_
          refine EX.then ?_
          refine WP.cond rfl (fun hc8 => ?_) (fun hc8 => ?_)
          · try simp only [decide_eq_true_eq, decide_eq_false_iff_not, Bool.and_eq_true, Bool.or_eq_true, Bool.and_eq_false_iff, Bool.or_eq_false_iff, Bool.not_eq_true', Bool.not_eq_false', ne_eq, Decidable.not_not] at hc8
            refine WP.seq ?_
            refine WP.region ?_
            refine WPl.cs 7 rfl rfl rfl rfl (o_sig 7 id c17 e17 rfl rfl rfl w17 trivial r17) ?_
            refine WPl.v rfl (o_assign rfl) ?_
            refine WPl.nil ?_
            refine EX.then ?_
            refine WP.ret ?_
            refine EX.ret_then ?_
            exact EX.fin id (.inl rfl) rfl (.tmp rfl .nil) rfl r14 trivial (by simp) (by simp)
          · try simp only [decide_eq_true_eq, decide_eq_false_iff_not, Bool.and_eq_true, Bool.or_eq_true, Bool.and_eq_false_iff, Bool.or_eq_false_iff, Bool.not_eq_true', Bool.not_eq_false', ne_eq, Decidable.not_not] at hc8
            have hla := law.a hv (by simpa using hc8)
            refine WP.skip ?_
            refine EX.then ?_
            refine WP.seq ?_
            refine WP.draw (nf := 7) [⟨[139, 141, 142], [], [], [], []⟩, ⟨[138, 141, 142], [], [], [], []⟩, ⟨[141, 142], [], [], [], [0, 1]⟩, ⟨[138, 139, 140, 142], [], [], [], []⟩, ⟨[138, 139, 140, 141], [], [], [], []⟩, ⟨[], [], [], [], [0, 1, 2, 3, 4]⟩, ⟨[], [], [], [], [0, 1, 2, 3, 4, 5]⟩, ⟨[], [], [], [], [0, 1, 2, 3, 4, 5, 6]⟩] (by kernel_rfl) (by kernel_rfl) ?_
            refine DRQ.v rfl rfl rfl (o_ldpa G28 rfl rfl rfl) ?_
            refine DRQ.v rfl rfl rfl (o_move rfl) ?_
            refine DRQ.cs rfl rfl rfl rfl (o_sig 7 (ren [(0, 0), (1, 1)]) (c65 s add hpg had.2.2 (by omega)) e65 rfl rfl rfl w65 ⟨(lx rfl), (lx rfl), trivial⟩ r65) ?_
            refine DRQ.v rfl rfl rfl (o_ldpa G28 rfl rfl rfl) ?_
            refine DRQ.v rfl rfl rfl (o_move rfl) ?_
            refine DRQ.cs rfl rfl rfl rfl (o_sig 7 (ren [(0, 0), (1, 1)]) (c47 s add hpg had.2.2 (by omega)) e47 rfl rfl rfl w47 ⟨(lx rfl), (lx rfl), trivial⟩ r47) ?_
            refine DRQ.v rfl rfl rfl (o_assign rfl) ?_
            refine DRQ.v rfl rfl rfl (o_assign rfl) ?_
            refine DRQ.nil' ?_
            refine EX.then ?_
            refine WP.seq ?_
            refine WP.seq ?_
            refine WP.region ?_
            refine WPl.v rfl (o_move rfl) ?_
            refine WPl.v rfl (o_neq rfl rfl) ?_
            refine WPl.imp (Imp.bitF 145 (b' := false) rfl (by simpa using hc3)) ?_
            refine WPl.v rfl (o_move rfl) ?_
            refine WPl.on rfl ⟨_, _, rfl, rfl, rfl⟩ (o_move rfl) ?_
            refine WPl.on rfl ⟨_, _, rfl, rfl, rfl⟩ (o_move rfl) ?_
            refine WPl.on rfl ⟨_, _, rfl, rfl, rfl⟩ (o_lss rfl rfl) ?_
            refine WPl.imp (Imp.bitF 149 (b' := false) rfl (by simp; omega)) ?_
            refine WPl.v rfl (o_pickF rfl rfl) ?_
            refine WPl.v rfl (o_move rfl) ?_
            refine WPl.ung ⟨_, _, rfl, rfl, rfl⟩ ?_
            refine WPl.v rfl (o_ldpa G28 rfl rfl rfl) ?_
            refine WPl.on rfl ⟨_, _, rfl, rfl, rfl⟩ (o_move rfl) ?_
            refine WPl.ung ⟨_, _, rfl, rfl, rfl⟩ ?_
            refine WPl.cs 7 rfl rfl rfl rfl (o_sig 7 (ren [(0, 0), (1, 1)]) (c48 s add hpg had.2.2 (by omega)) e48 rfl rfl rfl w48 ⟨(lx rfl), (lx rfl), trivial⟩ r48) ?_
            refine WPl.on rfl ⟨_, _, rfl, rfl, rfl⟩ (o_move rfl) ?_
            refine WPl.on rfl ⟨_, _, rfl, rfl, rfl⟩ (o_lss rfl rfl) ?_
            refine WPl.imp (Imp.bitF 156 (b' := false) rfl (by simp; omega)) ?_
            refine WPl.v rfl (o_pickF rfl rfl) ?_
            refine WPl.nil ?_
            refine EX.then ?_
            refine WP.cond rfl (fun h => by cases h) (fun _ => ?_)
            refine WP.skip ?_
            refine EX.then ?_
            refine WP.seq ?_
            refine WP.region ?_
            refine WPl.v rfl (o_ldpa G28 rfl rfl rfl) ?_
            refine WPl.v rfl (o_move rfl) ?_
            refine WPl.cs 7 rfl rfl rfl rfl (o_sig 7 (ren [(0, 0), (1, 3)]) (c47 s (s.mAdd (priceG s)) hpg hod.2.2 (by omega)) e47 rfl rfl rfl w47 ⟨(lx rfl), (lx rfl), trivial⟩ r47) ?_
            refine WPl.v rfl (o_assign rfl) ?_
            refine WPl.nil ?_
            refine EX.then ?_
            refine WP.seq ?_
            refine WP.region ?_
            refine WPl.v rfl (o_move rfl) ?_
            refine WPl.v rfl (o_move rfl) ?_
            refine WPl.v rfl (o_gtr rfl rfl) ?_
            refine WPl.v rfl (o_move rfl) ?_
            refine WPl.bit 7 8 (!(decide (s.lCheap < (sumOf Pig.pence s.pigs add)))) rfl rfl ?_
            refine WPl.gv 7 rfl rfl (.plain rfl (by first | (simp; done) | simp only [Bool.not_eq_true']) rfl) (fun hb => o_move rfl) ?_
            refine WPl.gv 7 rfl rfl (.plain rfl (by first | (simp; done) | simp only [Bool.not_eq_true']) rfl) (fun hb => o_move rfl) ?_
            refine WPl.gv 7 rfl rfl (.plain rfl (by first | (simp; done) | simp only [Bool.not_eq_true']) rfl) (fun hb => o_gtr rfl rfl) ?_
            refine WPl.v rfl (o_or rfl rfl rfl (by first | (simp; done) | exact fun h => by rw [h]; rfl | exact fun h => Bool.and_eq_true_iff.2 ⟨hb, by rw [h]; rfl⟩ | simp_all)) ?_
            refine WPl.v rfl (o_move rfl) ?_
            refine WPl.bit 8 9 (!((decide (s.lCheap < (sumOf Pig.pence s.pigs add))) || (decide ((sumOf Pig.pounds s.pigs (s.mAdd (priceG s))) < (sumOf Pig.pounds s.pigs add))))) rfl rfl ?_
            refine WPl.gv 8 rfl rfl (.plain rfl (by first | (simp; done) | simp only [Bool.not_eq_true']) rfl) (fun hb => o_move rfl) ?_
            refine WPl.gv 8 rfl rfl (.plain rfl (by first | (simp; done) | simp only [Bool.not_eq_true']) rfl) (fun hb => o_move rfl) ?_
            refine WPl.gv 8 rfl rfl (.plain rfl (by first | (simp; done) | simp only [Bool.not_eq_true']) rfl) (fun hb => o_eql rfl rfl) ?_
            refine WPl.gv 8 rfl rfl (.plain rfl (by first | (simp; done) | simp only [Bool.not_eq_true']) rfl) (fun hb => o_move rfl) ?_
            refine WPl.bit 9 10 ((!((decide (s.lCheap < (sumOf Pig.pence s.pigs add))) || (decide ((sumOf Pig.pounds s.pigs (s.mAdd (priceG s))) < (sumOf Pig.pounds s.pigs add))))) && (decide ((sumOf Pig.pounds s.pigs add) = (sumOf Pig.pounds s.pigs (s.mAdd (priceG s)))))) rfl rfl ?_
            refine WPl.gv 9 rfl rfl (.nest rfl rfl (by first | (simp; done) | simp only [Bool.and_eq_true, Bool.not_eq_true']) rfl) (fun hb => o_move rfl) ?_
            refine WPl.gv 9 rfl rfl (.nest rfl rfl (by first | (simp; done) | simp only [Bool.and_eq_true, Bool.not_eq_true']) rfl) (fun hb => o_move rfl) ?_
            refine WPl.gc0 9 rfl rfl (.nest rfl rfl (by first | (simp; done) | simp only [Bool.and_eq_true, Bool.not_eq_true']) rfl) (fun hb => o_sig 10 (ren [(0, 1), (1, 3)]) (c66 add (s.mAdd (priceG s)) (by omega)) e66 rfl rfl rfl w66 ⟨(lx rfl), (lx rfl), trivial⟩ r66) ?_
            refine WPl.gv 9 rfl rfl (.nest rfl rfl (by first | (simp; done) | simp only [Bool.and_eq_true, Bool.not_eq_true']) rfl) (fun hb => o_not rfl) ?_
            refine WPl.gv 8 rfl rfl (.plain rfl (by first | (simp; done) | simp only [Bool.not_eq_true']) rfl) (fun hb => o_and rfl rfl rfl (by first | (simp; done) | exact fun h => Bool.and_eq_true_iff.2 ⟨hb, h⟩ | simp_all)) ?_
            refine WPl.v rfl (o_or rfl rfl rfl (by first | (simp; done) | exact fun h => by rw [h]; rfl | exact fun h => Bool.and_eq_true_iff.2 ⟨hb, by rw [h]; rfl⟩ | simp_all)) ?_
            refine WPl.imp (Imp.bitF 179 (b' := true) rfl (by have := hla.2.2.2; simp only [Bool.or_eq_true, Bool.and_eq_true, decide_eq_true_eq, Bool.not_eq_true']; rcases this with h | h | h; exact .inl (.inl h); exact .inl (.inr h); exact .inr h)) ?_
            refine WPl.v rfl (o_move rfl) ?_
            refine WPl.ung ⟨_, _, rfl, rfl, rfl⟩ ?_
            refine WPl.cs 10 rfl rfl rfl rfl (o_sig 10 id c17 e17 rfl rfl rfl w17 trivial r17) ?_
            refine WPl.v rfl (o_pickT rfl rfl) ?_
            refine WPl.v rfl (o_assign rfl) ?_
            refine WPl.nil ?_
            refine EX.then ?_
            refine WP.ret ?_
            exact EX.fin id (.inl rfl) rfl (.tmp rfl .nil) rfl r14 trivial (by simp) (by simp)
      · try simp only [decide_eq_true_eq, decide_eq_false_iff_not, Bool.and_eq_true, Bool.or_eq_true, Bool.and_eq_false_iff, Bool.or_eq_false_iff, Bool.not_eq_true', Bool.not_eq_false', ne_eq, Decidable.not_not] at hc3
        refine WP.skip ?_
        refine EX.then ?_
        refine WP.seq ?_
        refine WP.seq ?_
        refine WP.region ?_
        refine WPl.v rfl (o_ldpa G28 rfl rfl rfl) ?_
        refine WPl.v rfl (o_move rfl) ?_
        refine WPl.cs 7 rfl rfl rfl rfl (o_sig 7 (ren [(0, 0), (1, 1)]) (c20 s add hs) e20 rfl rfl rfl w20 ⟨(lx rfl), (lx rfl), trivial⟩ r20) ?_
        refine WPl.v rfl (o_not rfl) ?_
        refine WPl.nil ?_
        refine EX.then ?_
        refine WP.cond rfl (fun hc10 => ?_) (fun hc10 => ?_)
        · try simp only [decide_eq_true_eq, decide_eq_false_iff_not, Bool.and_eq_true, Bool.or_eq_true, Bool.and_eq_false_iff, Bool.or_eq_false_iff, Bool.not_eq_true', Bool.not_eq_false', ne_eq, Decidable.not_not] at hc10
          refine WP.seq ?_
          refine WP.region ?_
          refine WPl.cs 7 rfl rfl rfl rfl (o_sig 7 id c17 e17 rfl rfl rfl w17 trivial r17) ?_
          refine WPl.v rfl (o_assign rfl) ?_
          refine WPl.nil ?_
          refine EX.then ?_
          refine WP.ret ?_
          refine EX.ret_then ?_
          exact EX.fin id (.inl rfl) rfl (.tmp rfl .nil) rfl r14 trivial (by simp) (by simp)
        · try simp only [decide_eq_true_eq, decide_eq_false_iff_not, Bool.and_eq_true, Bool.or_eq_true, Bool.and_eq_false_iff, Bool.or_eq_false_iff, Bool.not_eq_true', Bool.not_eq_false', ne_eq, Decidable.not_not] at hc10
          have hv : isAdd s add = true := (by simpa using hc10 : (add.length : Int) ≤ 40 ∧ isAdd s add = true).2
          have had := isAddB hpg hv
          refine WP.skip ?_
          refine EX.then ?_
          refine WP.seq ?_
          refine WP.region ?_
          refine WPl.v rfl (o_ldpa G28 rfl rfl rfl) ?_
          refine WPl.v rfl (o_move rfl) ?_
          refine WPl.cs 7 rfl rfl rfl rfl (o_sig 7 (ren [(0, 0), (1, 1)]) (c21 s add hs hv) e21 rfl rfl rfl w21 ⟨(lx rfl), (lx rfl), trivial⟩ r21) ?_
          refine WPl.v rfl (o_move rfl) ?_
          refine WPl.v rfl (o_extract rfl rfl) ?_
          refine WPl.v rfl (o_extract rfl rfl) ?_
          refine WPl.v rfl (o_assign rfl) ?_
          refine WPl.v rfl (o_assign rfl) ?_
          refine WPl.nil ?_
          refine EX.then ?_
          refine WP.seq ?_
          refine WP.seq ?_
          refine WP.region ?_
          refine WPl.v rfl (o_move rfl) ?_
          refine WPl.v rfl (o_not rfl) ?_
          refine WPl.nil ?_
          refine EX.then ?_
          refine WP.cond rfl (fun h => by cases h) (fun _ => ?_)
          refine WP.skip ?_
          refine EX.then ?_
          refine WP.seq ?_
          refine WP.seq ?_
          refine WP.region ?_
          refine WPl.v rfl (o_move rfl) ?_
          refine WPl.v rfl (o_neq rfl rfl) ?_
          refine WPl.nil ?_
          refine EX.then ?_
          refine WP.cond rfl (fun hc12 => ?_) (fun hc12 => ?_)
          · try simp only [decide_eq_true_eq, decide_eq_false_iff_not, Bool.and_eq_true, Bool.or_eq_true, Bool.and_eq_false_iff, Bool.or_eq_false_iff, Bool.not_eq_true', Bool.not_eq_false', ne_eq, Decidable.not_not] at hc12
            refine WP.seq ?_
            refine WP.region ?_
            refine WPl.cs 7 rfl rfl rfl rfl (o_sig 7 id c17 e17 rfl rfl rfl w17 trivial r17) ?_
            refine WPl.v rfl (o_assign rfl) ?_
            refine WPl.nil ?_
            refine EX.then ?_
            refine WP.ret ?_
            refine EX.ret_then ?_
            exact EX.fin id (.inl rfl) rfl (.tmp rfl .nil) rfl r14 trivial (by simp) (by simp)
          · try simp only [decide_eq_true_eq, decide_eq_false_iff_not, Bool.and_eq_true, Bool.or_eq_true, Bool.and_eq_false_iff, Bool.or_eq_false_iff, Bool.not_eq_true', Bool.not_eq_false', ne_eq, Decidable.not_not] at hc12
            exact absurd (law.a hv (by simpa using hc12)).1 (by simpa using hc3)
end Go.Flong
namespace Go.Flong
open Go Go.Eng
def Shop.inTr (s : Shop) (t a : Int) : Shop := { s with tl := t, th := t, al := a, ah := a }
def Shop.InT (s : Shop) (t a : Int) : Prop := (s.tl ≤ t ∧ t ≤ s.th) ∧ s.al ≤ a ∧ a ≤ s.ah
theorem Shop.InT.ins {s : Shop} {t a : Int} (h : s.InT t a) : insideS t t s.tl s.th = true ∧ insideS a a s.al s.ah = true := by
  obtain ⟨h1, h2⟩ := h
  simp only [insideS, Bool.and_eq_true, decide_eq_true_eq]; omega
theorem Shop.InT.chk {s : Shop} {t a : Int} (hs : s.chk = true) (h : s.InT t a) : (s.inTr t a).chk = true := spans_chk (p := ⟨0, t, t, a, a⟩) hs h.ins.1 h.ins.2
theorem offer_hit {s : Shop} {t a : Int} {l : List Int} (hs : s.chk = true) (hv : isAdd s l = true) : (s.offer l).hit t a = (s.inTr t a).safeP ((s.inTr t a).aft l) := by
  have htb := tl_bnd hs
  have hx := isAddB (Shop.pigsOK hs) hv
  have hb := aft_bnd hs (l := l) (by omega) hx.2.2
  unfold PoB at hb
  have e : (s.aft l).pounds = s.pounds + sumOf Pig.pounds s.pigs l := rfl
  have k := mSafe_in hs hv
  have hp0 : 0 ≤ s.pounds + sumOf Pig.pounds s.pigs l := by omega
  have a1 := justL_iff (part := s.tpl) (all := s.pounds + sumOf Pig.pounds s.pigs l) (T := t + sumOf Pig.tin s.pigs l) (by omega) hp0
  have a2 := justH_iff (part := s.tph) (all := s.pounds + sumOf Pig.pounds s.pigs l) (T := t + sumOf Pig.tin s.pigs l) (by omega) hp0
  have a3 := justL_iff (part := s.apl) (all := s.pounds + sumOf Pig.pounds s.pigs l) (T := a + sumOf Pig.ant s.pigs l) (by omega) hp0
  have a4 := justH_iff (part := s.aph) (all := s.pounds + sumOf Pig.pounds s.pigs l) (T := a + sumOf Pig.ant s.pigs l) (by omega) hp0
  rw [Bool.eq_iff_iff, safeP_iff]
  unfold Offer.hit within
  simp only [Bool.and_eq_true, decide_eq_true_eq]
  simp only [Shop.offer, Shop.inTr, Shop.aft]
  omega
theorem offS_of {s : Shop} {l : List Int} (hs : s.chk = true) (hv : isAdd s l = true) : s.offer l ∈ s.offS := by
  rw [Shop.offS, (sortL_perm offSwo (s.offTo s.adL.length)).mem_iff, offTo_eq s _ (Nat.le_refl _), List.take_length]
  exact List.mem_map.2 ⟨l, (mem_adL (Shop.pigsOK hs)).2 hv, rfl⟩
theorem offCf_lt {a b : Offer} : offCf a b < 0 ↔ a.pence < b.pence := by
  unfold offCf Lib.compareInt
  split
  · omega
  · split <;> omega
theorem offS_le {s : Shop} {i j : Nat} (hij : i ≤ j) (hj : j < s.offS.length) : (nth s.offS (i : Int)).pence ≤ (nth s.offS (j : Int)).pence := by
  by_cases e : i = j
  · subst e; exact Int.le_refl _
  · have h := sortL_sorted offSwo (s.offTo s.adL.length) (i := i) (j := j) (by omega) hj
    rw [nthN hj, nthN (by omega)]
    exact Int.not_lt.1 fun g => h (offCf_lt.2 g)
theorem idxF_spec (h : Offer → Bool) (l : List Offer) : (idxF h l = -1 ∧ ∀ x ∈ l, h x = false) ∨ ∃ i : Nat, i < l.length ∧ idxF h l = i ∧ h (nth l (i : Int)) = true ∧ ∀ j : Nat, j < i → h (nth l (j : Int)) = false := by
  cases e : l.findIdx? h with
  | none =>
    left
    refine ⟨by unfold idxF; rw [e]; rfl, fun x hx => by simpa using List.findIdx?_eq_none_iff.1 e x hx⟩
  | some i =>
    right
    obtain ⟨h1, h2, h3⟩ := List.findIdx?_eq_some_iff_getElem.1 e
    refine ⟨i, h1, by unfold idxF; rw [e]; rfl, by rw [nthN h1]; exact h2, fun j hj => ?_⟩
    rw [nthN (by omega)]
    simpa using h3 j hj
theorem pen_spec {s : Shop} (hs : s.chk = true) {i j : Nat} (hT : s.InT (s.tl + i) (s.al + j)) :
    (s.hitAt i j = false ∧ (s.inTr (s.tl + i) (s.al + j)).mE (priceG (s.inTr (s.tl + i) (s.al + j))) = 3) ∨
    (s.hitAt i j = true ∧ (s.inTr (s.tl + i) (s.al + j)).mE (priceG (s.inTr (s.tl + i) (s.al + j))) = 0 ∧ s.penAt i j = (s.inTr (s.tl + i) (s.al + j)).mCheap) := by
  have ho := hT.chk hs
  have hmem : ∀ x ∈ s.offS, x.hit (s.tl + i) (s.al + j) = true → ∃ l, (s.inTr (s.tl + i) (s.al + j)).okM l = true ∧ x.pence = sumOf Pig.pence s.pigs l := fun x hx hh => by
    obtain ⟨l, h1, h2⟩ := offS_mem hx
    have hv := (mem_adL (Shop.pigsOK hs)).1 h1
    subst h2
    refine ⟨l, ?_, rfl⟩
    unfold Shop.okM
    rw [← offer_hit hs hv, hh, Bool.and_true]; exact hv
  have hok : ∀ l, (s.inTr (s.tl + i) (s.al + j)).okM l = true → s.offer l ∈ s.offS ∧ (s.offer l).hit (s.tl + i) (s.al + j) = true := fun l hl => by
    unfold Shop.okM at hl
    rw [Bool.and_eq_true] at hl
    have hv : isAdd s l = true := hl.1
    exact ⟨offS_of hs hv, by rw [offer_hit hs hv]; exact hl.2⟩
  rcases cheap_spec ho with ⟨h1, _, h3⟩ | ⟨h1, h2, h3, h4⟩
  · left
    refine ⟨?_, h1⟩
    unfold Shop.hitAt Shop.idxAt
    rcases idxF_spec (fun o => o.hit (s.tl + (i : Int)) (s.al + (j : Int))) s.offS with ⟨g1, _⟩ | ⟨k, g1, _, g3, _⟩
    · rw [g1]; rfl
    · obtain ⟨l, g4, _⟩ := hmem _ (by rw [nthN g1]; exact List.getElem_mem g1) g3
      rw [h3 l] at g4; cases g4
  · right
    obtain ⟨k1, k2⟩ := hok _ h2
    rcases idxF_spec (fun o => o.hit (s.tl + (i : Int)) (s.al + (j : Int))) s.offS with ⟨_, g2⟩ | ⟨k, g1, g2, g3, g4⟩
    · rw [g2 _ k1] at k2; cases k2
    · have hx : s.idxAt i j = k := g2
      refine ⟨by unfold Shop.hitAt; rw [hx]; simp, h1, ?_⟩
      unfold Shop.penAt
      rw [hx]
      obtain ⟨l, m1, m2⟩ := hmem _ (by rw [nthN g1]; exact List.getElem_mem g1) g3
      have m3 := h4 l m1
      obtain ⟨n, n1, n2⟩ := List.mem_iff_getElem.1 k1
      have n3 : k ≤ n := by
        by_cases g : k ≤ n
        · exact g
        · have := g4 n (by omega)
          rw [nthN n1, n2, k2] at this; cases this
      have n4 := offS_le n3 n1
      rw [nthN n1, n2] at n4
      have n5 : (s.offer ((s.inTr (s.tl + i) (s.al + j)).mAdd (priceG (s.inTr (s.tl + i) (s.al + j))))).pence = (s.inTr (s.tl + i) (s.al + j)).mCheap := h3.symm
      have m4 : (nth s.offS (k : Int)).pence = sumOf Pig.pence (s.inTr (s.tl + i) (s.al + j)).pigs l := m2
      omega
def KIn (P : Int → Prop) (p : Int × Int) : Prop := ((∀ n, ¬ P n) ∧ p.1 < 0) ∨ (0 ≤ p.1 ∧ P p.1 ∧ P p.2 ∧ ∀ n, P n → p.1 ≤ n ∧ n ≤ p.2)
theorem KIn.congr {P Q : Int → Prop} {p : Int × Int} (h : KIn P p) (e : ∀ n, P n ↔ Q n) : KIn Q p := by
  have : P = Q := funext fun n => propext (e n)
  rwa [this] at h
theorem KIn.step {P : Int → Prop} {p : Int × Int} (h : KIn P p) {n : Int} (hn : 0 ≤ n) : KIn (fun m => P m ∨ m = n) (stepK p n) := by
  unfold stepK
  rcases h with ⟨h1, h2⟩ | ⟨h1, h2, h3, h4⟩
  · rw [if_pos h2]
    exact .inr ⟨hn, .inr rfl, .inr rfl, fun m hm => hm.elim (fun g => absurd g (h1 m)) fun g => by subst g; exact ⟨Int.le_refl _, Int.le_refl _⟩⟩
  · rw [if_neg (by omega)]
    have := h4 _ h2
    refine .inr ⟨by simp only []; omega, ?_, ?_, fun m hm => ?_⟩
    · simp only []
      by_cases g : p.1 ≤ n
      · rw [Int.min_eq_left g]; exact .inl h2
      · rw [Int.min_eq_right (by omega)]; exact .inr rfl
    · simp only []
      by_cases g : p.2 ≤ n
      · rw [Int.max_eq_right g]; exact .inr rfl
      · rw [Int.max_eq_left (by omega)]; exact .inl h3
    · simp only []
      rcases hm with hm | rfl
      · have := h4 m hm; omega
      · omega
theorem KIn.uniq {P : Int → Prop} {p q : Int × Int} (hp : KIn P p) (hq : KIn P q) (he : ∃ n, P n) : p = q := by
  obtain ⟨n, hn⟩ := he
  rcases hp with ⟨h1, _⟩ | ⟨_, h2, h3, h4⟩
  · exact absurd hn (h1 n)
  · rcases hq with ⟨g1, _⟩ | ⟨_, g2, g3, g4⟩
    · exact absurd hn (g1 n)
    · have a1 := h4 _ g2
      have a2 := h4 _ g3
      have a3 := g4 _ h2
      have a4 := g4 _ h3
      exact Prod.ext (by omega) (by omega)
theorem knIn_in {s : Shop} (hs : s.chk = true) {i : Nat} {P : Int → Prop} {p : Int × Int} (h : KIn P p) : ∀ {j : Nat}, allI (s.hitAt i) j = true → KIn (fun m => P m ∨ ∃ k : Nat, k < j ∧ m = s.penAt i k) (s.knIn i p j)
  | 0, _ => h.congr fun n => ⟨.inl, fun g => g.elim id fun ⟨k, hk, _⟩ => absurd hk (by omega)⟩
  | j + 1, ha => by
    simp only [allI, Bool.and_eq_true] at ha
    refine ((knIn_in hs h ha.1).step (penAt_bnd hs ha.2).1).congr fun n => ?_
    constructor
    · rintro ((g | ⟨k, hk, e⟩) | e)
      · exact .inl g
      · exact .inr ⟨k, by omega, e⟩
      · exact .inr ⟨j, by omega, e⟩
    · rintro (g | ⟨k, hk, e⟩)
      · exact .inl (.inl g)
      · by_cases hkj : k = j
        · subst hkj; exact .inr e
        · exact .inl (.inr ⟨k, by omega, e⟩)
theorem knOut_in {s : Shop} (hs : s.chk = true) : ∀ {i : Nat}, allI s.knRow i = true → KIn (fun m => ∃ k : Nat, k < i ∧ ∃ j : Nat, j < s.nA ∧ m = s.penAt k j) (s.knOut i)
  | 0, _ => .inl ⟨fun n ⟨k, hk, _⟩ => absurd hk (by omega), by simp [Shop.knOut]⟩
  | i + 1, ha => by
    simp only [allI, Bool.and_eq_true] at ha
    refine (knIn_in hs (knOut_in hs ha.1) ha.2).congr fun n => ?_
    constructor
    · rintro (⟨k, hk, g⟩ | ⟨j, hj, e⟩)
      · exact ⟨k, by omega, g⟩
      · exact ⟨i, by omega, j, hj, e⟩
    · rintro ⟨k, hk, j, hj, e⟩
      by_cases hki : k = i
      · subst hki; exact .inr ⟨j, hj, e⟩
      · exact .inl ⟨k, by omega, j, hj, e⟩
def Shop.CostIn (s : Shop) (m : Int) : Prop := ∃ t a, s.InT t a ∧ m = (s.inTr t a).mCheap
theorem InT_at {s : Shop} {t a : Int} (h : s.InT t a) : ∃ i j : Nat, i < s.nT ∧ j < s.nA ∧ t = s.tl + i ∧ a = s.al + j := by
  obtain ⟨h1, h2⟩ := h
  refine ⟨(t - s.tl).toNat, (a - s.al).toNat, ?_, ?_, by omega, by omega⟩
  · unfold Shop.nT; omega
  · unfold Shop.nA; omega
theorem InT_of {s : Shop} {i j : Nat} (hi : i < s.nT) (hj : j < s.nA) : s.InT (s.tl + i) (s.al + j) := by
  unfold Shop.nT at hi
  unfold Shop.nA at hj
  unfold Shop.InT
  omega
theorem known_spec {s : Shop} (hs : s.chk = true) : (s.kE = 3 ∧ s.mKnown = (0, 0) ∧ ∃ t a, s.InT t a ∧ (s.inTr t a).mE (priceG (s.inTr t a)) = 3) ∨
    (s.kE = 0 ∧ (∀ t a, s.InT t a → (s.inTr t a).mE (priceG (s.inTr t a)) = 0) ∧ KIn s.CostIn s.mKnown) := by
  have hE : s.kE = if allI s.knRow s.nT then 0 else 3 := by unfold Shop.kE; rw [hs]; rfl
  cases hk : allI s.knRow s.nT with
  | false =>
    left
    have e3 : s.kE = 3 := by rw [hE, hk]; rfl
    refine ⟨e3, by unfold Shop.mKnown; rw [if_neg (by omega)], ?_⟩
    obtain ⟨i, hi, h1⟩ := not_allI_iff.1 (show (!allI s.knRow s.nT) = true by rw [hk]; rfl)
    obtain ⟨j, hj, h2⟩ := not_allI_iff.1 (show (!allI (s.hitAt i) s.nA) = true by rw [show allI (s.hitAt i) s.nA = false from h1]; rfl)
    refine ⟨_, _, InT_of hi hj, ?_⟩
    rcases pen_spec hs (InT_of hi hj) with ⟨_, g⟩ | ⟨g, _⟩
    · exact g
    · rw [h2] at g; cases g
  | true =>
    right
    have e0 : s.kE = 0 := by rw [hE, hk]; rfl
    have hall : ∀ i j : Nat, i < s.nT → j < s.nA → s.hitAt i j = true := fun i j hi hj => allI_iff.1 (show allI (s.hitAt i) s.nA = true from allI_iff.1 hk i hi) j hj
    refine ⟨e0, fun t a hT => ?_, ?_⟩
    · obtain ⟨i, j, hi, hj, rfl, rfl⟩ := InT_at hT
      rcases pen_spec hs hT with ⟨g, _⟩ | ⟨_, g, _⟩
      · rw [hall i j hi hj] at g; cases g
      · exact g
    · have e : s.mKnown = s.knOut s.nT := by unfold Shop.mKnown; rw [if_pos e0]
      rw [e]
      refine (knOut_in hs hk).congr fun m => ?_
      constructor
      · rintro ⟨i, hi, j, hj, rfl⟩
        refine ⟨_, _, InT_of hi hj, ?_⟩
        rcases pen_spec hs (InT_of hi hj) with ⟨g, _⟩ | ⟨_, _, g⟩
        · rw [hall i j hi hj] at g; cases g
        · exact g
      · rintro ⟨t, a, hT, rfl⟩
        obtain ⟨i, j, hi, hj, rfl, rfl⟩ := InT_at hT
        refine ⟨i, hi, j, hj, ?_⟩
        rcases pen_spec hs hT with ⟨g, _⟩ | ⟨_, _, g⟩
        · rw [hall i j hi hj] at g; cases g
        · exact g.symm
theorem InT_ex {s : Shop} (hs : s.chk = true) : s.InT s.tl s.al := by
  have h := hs
  simp only [Shop.chk, Shop.head, isPot, isSpan, within, Bool.and_eq_true, decide_eq_true_eq] at h
  unfold Shop.InT; omega
structure AnaLaw (s : Shop) (t a : Int) : Prop where
  m : (s.inTr t a).lCheap ≤ s.lCheap
  k : s.kE = 0 ∨ s.kE = 3
  w : s.wE = 0 ∨ s.wE = 3
  n : s.wE = 0 ↔ s.lCheap < 100000
  e : s.lCheap < 100000 → s.kE = 0
  i : s.kE = 0 → (s.inTr t a).lCheap ≠ 100000 ∧ within (s.inTr t a).lCheap s.mKnown.1 s.mKnown.2 = true ∧ 0 ≤ s.mKnown.1
  v : s.wE = 0 → 0 ≤ s.mWorth ∧ s.mWorth = s.lCheap - s.mKnown.2
theorem tr_less {s : Shop} (hr : s.ready = true) {t a : Int} (hT : s.InT t a) : (s.inTr t a).lCheap ≤ s.lCheap := by
  have := (clearLaw (p := ⟨0, t, t, a, a⟩) (add := []) hr hT.ins.1 hT.ins.2).l
  simp only [less2, Bool.and_eq_true, decide_eq_true_eq] at this
  exact this.1
theorem lCheap_eq {s : Shop} (h : s.mE (priceG s) = 0) : s.lCheap = s.mCheap := if_neg (by omega)
theorem anaLaw {s : Shop} {t a : Int} (hr : s.ready = true) (hT : s.InT t a) : AnaLaw s t a := by
  have hs := ready_chk hr
  have hE : s.mE (priceG s) = 0 ∨ s.mE (priceG s) = 3 := by rcases cheap_spec hs with ⟨h, _⟩ | ⟨h, _⟩; exact .inr h; exact .inl h
  have hn : s.mE (priceG s) = 0 ↔ s.lCheap < 100000 := (bestLaw (add := []) hr).n
  have hk : s.kE = 0 ∨ s.kE = 3 := by rcases known_spec hs with ⟨h, _⟩ | ⟨h, _⟩; exact .inr h; exact .inl h
  have hlow : s.mE (priceG s) = 0 → s.kE = 0 := fun h0 => by
    rcases known_spec hs with ⟨_, _, t', a', hT', g⟩ | ⟨g, _⟩
    · exfalso
      have h1 := tr_less hr hT'
      have h2 := hn.1 h0
      have e : (s.inTr t' a').lCheap = 100000 := if_pos g
      omega
    · exact g
  have hW : s.wE = if s.mE (priceG s) = 0 then s.kE else s.mE (priceG s) := rfl
  refine ⟨tr_less hr hT, hk, ?_, ?_, fun h => hlow (hn.2 h), fun h => ?_, fun h => ?_⟩
  · rw [hW]; split; exact hk; exact hE
  · rw [hW, ← hn]
    constructor
    · intro h; split at h; assumption; exact h
    · intro h; rw [if_pos h]; exact hlow h
  · rcases known_spec hs with ⟨g, _⟩ | ⟨_, g1, g2⟩
    · omega
    · have e0 := g1 t a hT
      have e := lCheap_eq e0
      have hb := (cheap_bnd e0).2
      rcases g2 with ⟨k1, _⟩ | ⟨k1, _, _, k4⟩
      · exact absurd ⟨t, a, hT, rfl⟩ (k1 (s.inTr t a).mCheap)
      · have := k4 _ ⟨t, a, hT, rfl⟩
        refine ⟨by omega, ?_, k1⟩
        simp only [within, Bool.and_eq_true, decide_eq_true_eq]; omega
  · have h0 : s.mE (priceG s) = 0 := by rw [hW] at h; split at h; assumption; exact h
    have hk0 := hlow h0
    have e : s.mWorth = s.mCheap - s.mKnown.2 := if_pos h
    rw [lCheap_eq h0]
    refine ⟨?_, e⟩
    rcases known_spec hs with ⟨g, _⟩ | ⟨_, g1, g2⟩
    · omega
    · rcases g2 with ⟨k1, _⟩ | ⟨_, _, ⟨t', a', k2, k3⟩, _⟩
      · exact absurd ⟨_, _, InT_ex hs, rfl⟩ (k1 (s.inTr s.tl s.al).mCheap)
      · have h1 := tr_less hr k2
        rw [lCheap_eq h0, lCheap_eq (g1 _ _ k2)] at h1
        omega
def Shop.farN (s : Shop) : Nat → Int
  | 0 => (s.th - s.tl + 1) * (s.ah - s.al + 1)
  | i + 1 => Shop.farN s i * ((nth s.pigs (i : Int)).many + 1)
def Shop.far (s : Shop) : Bool := hugeS s || (s.chk && decide (2000 < s.farN s.pigs.length))
theorem farN_bnd {s : Shop} (hs : s.chk = true) : ∀ i : Nat, i ≤ s.pigs.length → 0 ≤ s.farN i ∧ s.farN i ≤ 160801 * 6 ^ i
  | 0, _ => by
    have := tl_bnd hs
    have h1 := mulb (a := s.th - s.tl + 1) (A := 401) (b := s.ah - s.al + 1) (B := 401) (by omega) (by omega) (by omega) (by omega)
    simp only [Shop.farN]; omega
  | i + 1, hi => by
    have h1 := farN_bnd hs i (by omega)
    have h2 := Pig.bnds ((Shop.pigsOK hs).at (show i < s.pigs.length by omega))
    have h3 : (0 : Int) ≤ 160801 * 6 ^ i := by omega
    have h4 := Int.mul_nonneg h1.1 (show (0 : Int) ≤ (nth s.pigs (i : Int)).many + 1 by omega)
    have h5 := Int.mul_le_mul h1.2 (show (nth s.pigs (i : Int)).many + 1 ≤ 6 by omega) (by omega) h3
    simp only [Shop.farN]
    rw [Int.pow_succ, ← Int.mul_assoc]
    exact ⟨h4, h5⟩
theorem six_le {i : Nat} (h : i ≤ 4) : (160801 : Int) * 6 ^ i ≤ 300000000 := by
  have : i = 0 ∨ i = 1 ∨ i = 2 ∨ i = 3 ∨ i = 4 := by omega
  rcases this with rfl | rfl | rfl | rfl | rfl <;> decide
theorem lCheap_bnd (s : Shop) : 0 ≤ s.lCheap ∧ s.lCheap ≤ 1000000 := by
  have := mCheap_bnd s
  unfold Shop.lCheap; split <;> omega
end Go.Flong
namespace Go.Flong
open Go Go.Eng Go.Proofs
theorem e30 : Enters' Try.prog 30 := Try.call30
theorem e34 : Enters' Try.prog 34 := Try.call34
theorem w30 {s : Shop} : ∀ x ∈ ([.e (.g [ai (s.pounds), ai (s.tl), ai (s.th), ai (s.al), ai (s.ah), ai (s.room), ai (s.tpl), ai (s.tph), ai (s.apl), ai (s.aph), .q 0])] : List SV), x.res (keys (α := Pred) [(0, PL EPig (s.pigs))]) := by simp [SV.res, El.res, At.res, keys]
theorem r30 {s : Shop} : SV.res (keys (α := Pred) []) (.b (s.far)) := by simp [SV.res, El.res, At.res, keys]
set_option maxHeartbeats 4000000 in
theorem c30 (s : Shop)  : Sig Try.prog 30 [.e (.g [ai (s.pounds), ai (s.tl), ai (s.th), ai (s.al), ai (s.ah), ai (s.room), ai (s.tpl), ai (s.tph), ai (s.apl), ai (s.aph), .q 0])] [(0, PL EPig (s.pigs))] (.b (s.far)) [] := by
  refine Sig.intro Try.func30 rfl 1 [(0, .e (.g [ai (s.pounds), ai (s.tl), ai (s.th), ai (s.al), ai (s.ah), ai (s.room), ai (s.tpl), ai (s.tph), ai (s.apl), ai (s.aph), .q 0]))] rfl w30 rfl rfl fun I w => ?_
  refine WP.seq ?_
  refine WP.region ?_
  refine WPl.l 1 2 rfl rfl rfl (o_boxg rfl) ?_
  refine WPl.v rfl (o_assign rfl) ?_
  refine WPl.nil ?_
  refine EX.then ?_
  refine WP.seq ?_
  refine WP.seq ?_
  refine WP.region ?_
  refine WPl.v rfl (o_ldpa G28 rfl rfl rfl) ?_
  refine WPl.cs 2 rfl rfl rfl rfl (o_sig 2 (ren [(0, 0)]) (c35 s) e35 rfl rfl rfl w35 ⟨(lx rfl), trivial⟩ r35) ?_
  refine WPl.nil ?_
  refine EX.then ?_
  refine WP.cond rfl (fun hc1 => ?_) (fun hc1 => ?_)
  · try simp only [decide_eq_true_eq, decide_eq_false_iff_not, Bool.and_eq_true, Bool.or_eq_true, Bool.and_eq_false_iff, Bool.or_eq_false_iff, Bool.not_eq_true', Bool.not_eq_false', ne_eq, Decidable.not_not] at hc1
    refine WP.seq ?_
    refine WP.region ?_
    refine WPl.v rfl (o_assign rfl) ?_
    refine WPl.nil ?_
    refine EX.then ?_
    refine WP.ret ?_
    refine EX.ret_then ?_
    rw [show s.far = true from by unfold Shop.far; rw [hc1]; rfl]
    exact EX.fin id (.inl rfl) rfl (.tmp rfl .nil) rfl (by simp [SV.res, El.res, At.res, keys]) trivial (by simp) (by simp)
  · try simp only [decide_eq_true_eq, decide_eq_false_iff_not, Bool.and_eq_true, Bool.or_eq_true, Bool.and_eq_false_iff, Bool.or_eq_false_iff, Bool.not_eq_true', Bool.not_eq_false', ne_eq, Decidable.not_not] at hc1
    have hh : hugeS s = false := by simpa using hc1
    refine WP.skip ?_
    refine EX.then ?_
    refine WP.seq ?_
    refine WP.seq ?_
    refine WP.region ?_
    refine WPl.v rfl (o_ldpa G28 rfl rfl rfl) ?_
    refine WPl.cs 2 rfl rfl rfl rfl (o_sig 2 (ren [(0, 0)]) (c39 s) e39 rfl rfl rfl w39 ⟨(lx rfl), trivial⟩ r39) ?_
    refine WPl.v rfl (o_neq rfl rfl) ?_
    refine WPl.nil ?_
    refine EX.then ?_
    refine WP.cond rfl (fun hc2 => ?_) (fun hc2 => ?_)
    · try simp only [decide_eq_true_eq, decide_eq_false_iff_not, Bool.and_eq_true, Bool.or_eq_true, Bool.and_eq_false_iff, Bool.or_eq_false_iff, Bool.not_eq_true', Bool.not_eq_false', ne_eq, Decidable.not_not] at hc2
      refine WP.seq ?_
      refine WP.region ?_
      refine WPl.v rfl (o_assign rfl) ?_
      refine WPl.nil ?_
      refine EX.then ?_
      refine WP.ret ?_
      refine EX.ret_then ?_
      rw [show s.far = false from by unfold Shop.far; rw [hh, show s.chk = false from errM_ne.1 (by simpa using hc2)]; rfl]
      exact EX.fin id (.inl rfl) rfl (.tmp rfl .nil) rfl (by simp [SV.res, El.res, At.res, keys]) trivial (by simp) (by simp)
    · try simp only [decide_eq_true_eq, decide_eq_false_iff_not, Bool.and_eq_true, Bool.or_eq_true, Bool.and_eq_false_iff, Bool.or_eq_false_iff, Bool.not_eq_true', Bool.not_eq_false', ne_eq, Decidable.not_not] at hc2
      have hs : s.chk = true := errM_eq.1 (by simpa using hc2)
      have hpg := Shop.pigsOK hs
      have hl4 := hpg.2
      have htb := tl_bnd hs
      have hfm := mulb (a := s.th - s.tl + 1) (A := 401) (b := s.ah - s.al + 1) (B := 401) (by omega) (by omega) (by omega) (by omega)
      refine WP.skip ?_
      refine EX.then ?_
      refine WP.seq ?_
      refine WP.region ?_
      refine WPl.v rfl (o_fldp F28_0 rfl) ?_
      refine WPl.v rfl (o_fldp F25_1 rfl) ?_
      refine WPl.v rfl (o_fldp F23_1 rfl) ?_
      refine WPl.v rfl (o_ldp S3 rfl rfl rfl) ?_
      refine WPl.v rfl (o_fldp F28_0 rfl) ?_
      refine WPl.v rfl (o_fldp F25_1 rfl) ?_
      refine WPl.v rfl (o_fldp F23_0 rfl) ?_
      refine WPl.v rfl (o_ldp S3 rfl rfl rfl) ?_
      refine WPl.v rfl (o_sub rfl rfl (by first | omega | (simp; omega)) (by first | omega | (simp; omega))) ?_
      refine WPl.v rfl (o_add rfl rfl (by first | omega | (simp; omega)) (by first | omega | (simp; omega))) ?_
      refine WPl.v rfl (o_fldp F28_0 rfl) ?_
      refine WPl.v rfl (o_fldp F25_2 rfl) ?_
      refine WPl.v rfl (o_fldp F23_1 rfl) ?_
      refine WPl.v rfl (o_ldp S3 rfl rfl rfl) ?_
      refine WPl.v rfl (o_fldp F28_0 rfl) ?_
      refine WPl.v rfl (o_fldp F25_2 rfl) ?_
      refine WPl.v rfl (o_fldp F23_0 rfl) ?_
      refine WPl.v rfl (o_ldp S3 rfl rfl rfl) ?_
      refine WPl.v rfl (o_sub rfl rfl (by first | omega | (simp; omega)) (by first | omega | (simp; omega))) ?_
      refine WPl.v rfl (o_add rfl rfl (by first | omega | (simp; omega)) (by first | omega | (simp; omega))) ?_
      refine WPl.v rfl (o_mul rfl rfl (by first | omega | (simp; omega)) (by first | omega | (simp; omega))) ?_
      refine WPl.v rfl (o_assign rfl) ?_
      refine WPl.nil ?_
      refine EX.then ?_
      refine WP.seq ?_
      refine WP.seq ?_
      refine WP.region ?_
      refine WPl.v rfl (o_assign rfl) ?_
      refine WPl.nil ?_
      refine EX.then ?_
      refine WP.block ?_
      refine WP.loop (Gh := Nat) (fun i => ⟨2, [(1, .e (.a (.p 1 (0)))), (2, .b (false)), (3, .i (s.farN i)), (4, .i ((i : Int)))], [(0, PL EPig (s.pigs))], [(1, .blk [ai (s.pounds), ai (s.tl), ai (s.th), ai (s.al), ai (s.ah), ai (s.room), ai (s.tpl), ai (s.tph), ai (s.apl), ai (s.aph), .q 0] 28)], [], []⟩) (fun i => i ≤ s.pigs.length) (fun i => s.pigs.length - i) (0) id ?_ (LeR.of ⟨rfl, rfl, rfl, rfl, trivial⟩ ⟨(lx rfl), trivial⟩ ⟨rfl, trivial⟩ rfl rfl rfl rfl rfl) ?_
      · first | trivial | omega | (constructor <;> omega) | simp
      intro i hφ
      have hi : i ≤ s.pigs.length := hφ
      have hfb := farN_bnd hs i (by omega)
      have hf6 := six_le (show i ≤ 4 by have := hpg.2; omega)
      refine WP.seq ?_
      refine WP.seq ?_
      refine WP.region ?_
      refine WPl.v rfl (o_move rfl) ?_
      refine WPl.v rfl (o_fldp F28_4 rfl) ?_
      refine WPl.v rfl (o_ldp S26 rfl rfl rfl) ?_
      refine WPl.v rfl (o_lenq L26 rfl (lx rfl)) ?_
      refine WPl.v rfl (o_lss rfl rfl) ?_
      refine WPl.nil ?_
      refine EX.then ?_
      refine WP.cond rfl (fun hc3 => ?_) (fun hc3 => ?_)
      · try simp only [decide_eq_true_eq, decide_eq_false_iff_not, Bool.and_eq_true, Bool.or_eq_true, Bool.and_eq_false_iff, Bool.or_eq_false_iff, Bool.not_eq_true', Bool.not_eq_false', ne_eq, Decidable.not_not] at hc3
        refine WP.skip ?_
        refine EX.then ?_
        refine WP.seq ?_
        refine WP.block ?_
        refine WP.region ?_
        refine WPl.v rfl (o_move rfl) ?_
        refine WPl.v rfl (o_fldp F28_4 rfl) ?_
        refine WPl.v rfl (o_ldp S26 rfl rfl rfl) ?_
        refine WPl.v rfl (o_move rfl) ?_
        refine WPl.x 2 3 rfl rfl rfl (o_idx L26 rfl (lx rfl) rfl (by first | omega | (simp; omega)) (by first | omega | (simp; omega))) ?_
        refine WPl.v rfl (o_fldq F49_4 rfl (lx rfl)) ?_
        have hpb := Pig.bnds (hpg.at (show i < s.pigs.length by omega))
        have hfm2 := mulb (a := s.farN i) (A := 300000000) (b := (nth s.pigs (i : Int)).many + 1) (B := 6) (by omega) (by omega) (by omega) (by omega)
        refine WPl.v rfl (o_lde S3 rfl (lx rfl) (strI rfl)) ?_
        refine WPl.v rfl (o_add rfl rfl (by first | omega | (simp; omega)) (by first | omega | (simp; omega))) ?_
        refine WPl.v rfl (o_mul rfl rfl (by first | omega | (simp; omega)) (by first | omega | (simp; omega))) ?_
        refine WPl.v rfl (o_assign rfl) ?_
        refine WPl.nil ?_
        refine EX.blk ?_
        refine EX.then ?_
        refine WP.region ?_
        refine WPl.v rfl (o_move rfl) ?_
        refine WPl.v rfl (o_add rfl rfl (by first | omega | (simp; omega)) (by first | omega | (simp; omega))) ?_
        refine WPl.v rfl (o_assign rfl) ?_
        refine WPl.nil ?_
        refine EX.again (i + 1) id (by first | omega | (constructor <;> omega)) (by omega) (LeR.of ⟨rfl, rfl, rfl, rfl, trivial⟩ ⟨(lx rfl), trivial⟩ ⟨rfl, trivial⟩ rfl rfl rfl rfl rfl)
      · try simp only [decide_eq_true_eq, decide_eq_false_iff_not, Bool.and_eq_true, Bool.or_eq_true, Bool.and_eq_false_iff, Bool.or_eq_false_iff, Bool.not_eq_true', Bool.not_eq_false', ne_eq, Decidable.not_not] at hc3
        refine WP.exit ?_
        refine EX.exit_then ?_
        refine EX.exit_then ?_
        refine EX.exit_blk ?_
        refine EX.then ?_
        refine WP.seq ?_
        refine WP.region ?_
        refine WPl.v rfl (o_move rfl) ?_
        refine WPl.v rfl (o_gtr rfl rfl) ?_
        refine WPl.v rfl (o_assign rfl) ?_
        refine WPl.nil ?_
        refine EX.then ?_
        refine WP.ret ?_
        rw [show s.far = decide (2000 < s.farN i) from by unfold Shop.far; rw [hh, hs, show i = s.pigs.length by omega]; rfl]
        exact EX.fin id (.inl rfl) rfl (.tmp rfl .nil) rfl (by simp [SV.res, El.res, At.res, keys]) trivial (by simp) (by simp)
theorem w34 {s : Shop} {t a : Int} : ∀ x ∈ ([.e (.g [ai (s.pounds), ai (s.tl), ai (s.th), ai (s.al), ai (s.ah), ai (s.room), ai (s.tpl), ai (s.tph), ai (s.apl), ai (s.aph), .q 0]), .i (t), .i (a)] : List SV), x.res (keys (α := Pred) [(0, PL EPig (s.pigs))]) := by simp [SV.res, El.res, At.res, keys]
theorem r34 {s : Shop} {t a : Int} : SV.res (keys (α := Pred) [(0, PL EPig ((s.inTr t a).pigs))]) (.e (.g [ai ((s.inTr t a).pounds), ai ((s.inTr t a).tl), ai ((s.inTr t a).th), ai ((s.inTr t a).al), ai ((s.inTr t a).ah), ai ((s.inTr t a).room), ai ((s.inTr t a).tpl), ai ((s.inTr t a).tph), ai ((s.inTr t a).apl), ai ((s.inTr t a).aph), .q 0])) := by simp [SV.res, El.res, At.res, keys]
set_option maxHeartbeats 4000000 in
theorem c34 (s : Shop) (t a : Int) (hl : s.pigs.length ≤ 40) : Sig Try.prog 34 [.e (.g [ai (s.pounds), ai (s.tl), ai (s.th), ai (s.al), ai (s.ah), ai (s.room), ai (s.tpl), ai (s.tph), ai (s.apl), ai (s.aph), .q 0]), .i (t), .i (a)] [(0, PL EPig (s.pigs))] (.e (.g [ai ((s.inTr t a).pounds), ai ((s.inTr t a).tl), ai ((s.inTr t a).th), ai ((s.inTr t a).al), ai ((s.inTr t a).ah), ai ((s.inTr t a).room), ai ((s.inTr t a).tpl), ai ((s.inTr t a).tph), ai ((s.inTr t a).apl), ai ((s.inTr t a).aph), .q 0])) [(0, PL EPig ((s.inTr t a).pigs))] := by
  refine Sig.intro Try.func34 rfl 1 [(0, .e (.g [ai (s.pounds), ai (s.tl), ai (s.th), ai (s.al), ai (s.ah), ai (s.room), ai (s.tpl), ai (s.tph), ai (s.apl), ai (s.aph), .q 0])), (1, .i (t)), (2, .i (a))] rfl w34 rfl rfl fun I w => ?_
  refine WP.seq ?_
  refine WP.region ?_
  refine WPl.l 1 2 rfl rfl rfl (o_boxg rfl) ?_
  refine WPl.l 2 3 rfl rfl rfl (o_alloc Z28) ?_
  refine WPl.nil ?_
  refine EX.then ?_
  refine WP.seq ?_
  refine WP.region ?_
  refine WPl.v rfl (o_ldpa G28 rfl rfl rfl) ?_
  refine WPl.cs 4 rfl rfl rfl rfl (o_sig 3 (ren [(0, 0)]) (c18 s (by omega)) e18 rfl rfl rfl w18 ⟨(lx rfl), trivial⟩ r18) ?_
  refine WPl.l 4 5 rfl rfl rfl (o_alloc Z28) ?_
  refine WPl.s1 (o_stag G28 rfl rfl rfl ⟨rfl, rfl, rfl, rfl, rfl, rfl, rfl, rfl, rfl, rfl, (.inl ⟨_, (lx rfl), PL.one⟩), trivial⟩ rfl rfl) ?_
  refine WPl.nil ?_
  refine EX.then ?_
  refine WP.seq ?_
  refine WP.region ?_
  refine WPl.v rfl (o_move rfl) ?_
  refine WPl.v rfl (o_move rfl) ?_
  refine WPl.v rfl (o_build B23 rfl ⟨rfl, rfl, trivial⟩ rfl rfl) ?_
  refine WPl.v rfl (o_fldp F28_0 rfl) ?_
  refine WPl.v rfl (o_fldp F25_1 rfl) ?_
  refine WPl.s1 (o_stag G23 rfl rfl rfl ⟨rfl, rfl, trivial⟩ rfl rfl) ?_
  refine WPl.nil ?_
  refine EX.then ?_
  refine WP.seq ?_
  refine WP.region ?_
  refine WPl.v rfl (o_move rfl) ?_
  refine WPl.v rfl (o_move rfl) ?_
  refine WPl.v rfl (o_build B23 rfl ⟨rfl, rfl, trivial⟩ rfl rfl) ?_
  refine WPl.v rfl (o_fldp F28_0 rfl) ?_
  refine WPl.v rfl (o_fldp F25_2 rfl) ?_
  refine WPl.s1 (o_stag G23 rfl rfl rfl ⟨rfl, rfl, trivial⟩ rfl rfl) ?_
  refine WPl.nil ?_
  refine EX.then ?_
  refine WP.seq ?_
  refine WP.region ?_
  refine WPl.v rfl (o_ldpa G28 rfl rfl rfl) ?_
  refine WPl.s1 (o_stag G28 rfl rfl rfl ⟨rfl, rfl, rfl, rfl, rfl, rfl, rfl, rfl, rfl, rfl, (.inl ⟨_, (lx rfl), PL.one⟩), trivial⟩ rfl rfl) ?_
  refine WPl.nil ?_
  refine EX.then ?_
  refine WP.ret ?_
  exact EX.fin (ren [(0, 3)]) (.inl rfl) rfl (.cellg G28 rfl rfl rfl (.nil)) rfl r34 ⟨(lx rfl), trivial⟩ (by simp) (by simp)
theorem w8 {s : Shop} {t a : Int} : ∀ x ∈ ([.e (.g [ai (s.pounds), ai (s.tl), ai (s.th), ai (s.al), ai (s.ah), ai (s.room), ai (s.tpl), ai (s.tph), ai (s.apl), ai (s.aph), .q 0]), .e (.g [ai (t), ai (a)])] : List SV), x.res (keys (α := Pred) [(0, PL EPig (s.pigs))]) := by simp [SV.res, El.res, At.res, keys]
theorem r8  : SV.res (keys (α := Pred) []) (.b (true)) := by simp [SV.res, El.res, At.res, keys]
set_option maxHeartbeats 4000000 in
set_option maxRecDepth 10000 in
theorem c8 (s : Shop) (t a : Int) (hlaw : s.ready = true → s.InT t a → AnaLaw s t a) : Sig Try.prog 8 [.e (.g [ai (s.pounds), ai (s.tl), ai (s.th), ai (s.al), ai (s.ah), ai (s.room), ai (s.tpl), ai (s.tph), ai (s.apl), ai (s.aph), .q 0]), .e (.g [ai (t), ai (a)])] [(0, PL EPig (s.pigs))] (.b (true)) [] := by
  refine Sig.intro Try.func8 rfl 1 [(0, .e (.g [ai (s.pounds), ai (s.tl), ai (s.th), ai (s.al), ai (s.ah), ai (s.room), ai (s.tpl), ai (s.tph), ai (s.apl), ai (s.aph), .q 0])), (1, .e (.g [ai (t), ai (a)]))] rfl w8 rfl rfl fun I w => ?_
  refine WP.seq ?_
  refine WP.region ?_
  refine WPl.l 1 2 rfl rfl rfl (o_boxg rfl) ?_
  refine WPl.l 2 3 rfl rfl rfl (o_boxg rfl) ?_
  refine WPl.v rfl (o_assign rfl) ?_
  refine WPl.nil ?_
  refine EX.then ?_
  refine WP.seq ?_
  refine WP.seq ?_
  refine WP.region ?_
  refine WPl.v rfl (o_ldpa G28 rfl rfl rfl) ?_
  refine WPl.cs 3 rfl rfl rfl rfl (o_sig 3 (ren [(0, 0)]) (c30 s) e30 rfl rfl rfl w30 ⟨(lx rfl), trivial⟩ r30) ?_
  refine WPl.v rfl (o_move rfl) ?_
  refine WPl.bit 3 4 (!s.far) rfl rfl ?_
  refine WPl.gv 3 rfl rfl (.plain rfl (by first | (simp; done) | simp only [Bool.not_eq_true']) rfl) (fun hb => o_ldpa G28 rfl rfl rfl) ?_
  refine WPl.gc0 3 rfl rfl (.plain rfl (by first | (simp; done) | simp only [Bool.not_eq_true']) rfl) (fun hb => o_sig 4 (ren [(0, 0)]) (c15 s) e15 rfl rfl rfl w15 ⟨(lx rfl), trivial⟩ r15) ?_
  refine WPl.gv 3 rfl rfl (.plain rfl (by first | (simp; done) | simp only [Bool.not_eq_true']) rfl) (fun hb => o_not rfl) ?_
  refine WPl.v rfl (o_or rfl rfl rfl (by first | (simp; done) | exact fun h => by rw [h]; rfl | exact fun h => Bool.and_eq_true_iff.2 ⟨hb, by rw [h]; rfl⟩ | simp_all)) ?_
  refine WPl.v rfl (o_move rfl) ?_
  refine WPl.bit 4 5 (!(s.far || (!s.ready))) rfl rfl ?_
  refine WPl.gv 4 rfl rfl (.plain rfl (by first | (simp; done) | simp only [Bool.not_eq_true']) rfl) (fun hb => o_ldpa G28 rfl rfl rfl) ?_
  refine WPl.gv 4 rfl rfl (.plain rfl (by first | (simp; done) | simp only [Bool.not_eq_true']) rfl) (fun hb => o_ldpa G61 rfl rfl rfl) ?_
  refine WPl.gc0 4 rfl rfl (.plain rfl (by first | (simp; done) | simp only [Bool.not_eq_true']) rfl) (fun hb => o_sig 5 (ren [(0, 0)]) (c33 s t a) e33 rfl rfl rfl w33 ⟨(lx rfl), trivial⟩ r33) ?_
  refine WPl.gv 4 rfl rfl (.plain rfl (by first | (simp; done) | simp only [Bool.not_eq_true']) rfl) (fun hb => o_not rfl) ?_
  refine WPl.v rfl (o_or rfl rfl rfl (by first | (simp; done) | exact fun h => by rw [h]; rfl | exact fun h => Bool.and_eq_true_iff.2 ⟨hb, by rw [h]; rfl⟩ | simp_all)) ?_
  refine WPl.nil ?_
  refine EX.then ?_
  refine WP.cond rfl (fun hc1 => ?_) (fun hc1 => ?_)
  · try simp only [decide_eq_true_eq, decide_eq_false_iff_not, Bool.and_eq_true, Bool.or_eq_true, Bool.and_eq_false_iff, Bool.or_eq_false_iff, Bool.not_eq_true', Bool.not_eq_false', ne_eq, Decidable.not_not] at hc1
    refine WP.seq ?_
    refine WP.region ?_
    refine WPl.cs 5 rfl rfl rfl rfl (o_sig 5 id c17 e17 rfl rfl rfl w17 trivial r17) ?_
    refine WPl.v rfl (o_assign rfl) ?_
    refine WPl.nil ?_
    refine EX.then ?_
    refine WP.ret ?_
    refine EX.ret_then ?_
    exact EX.fin id (.inl rfl) rfl (.tmp rfl .nil) rfl r8 trivial (by simp) (by simp)
  · try simp only [decide_eq_true_eq, decide_eq_false_iff_not, Bool.and_eq_true, Bool.or_eq_true, Bool.and_eq_false_iff, Bool.or_eq_false_iff, Bool.not_eq_true', Bool.not_eq_false', ne_eq, Decidable.not_not] at hc1
    obtain ⟨_, hr, ht, ha⟩ : s.far = false ∧ s.ready = true ∧ within t s.tl s.th = true ∧ within a s.al s.ah = true := by simpa [and_assoc] using hc1
    have hs : s.chk = true := ready_chk hr
    have hpg := Shop.pigsOK hs
    have hl4 := hpg.2
    have hT : s.InT t a := by simp only [within, Bool.and_eq_true, decide_eq_true_eq] at ht ha; exact ⟨ht, ha⟩
    have law := hlaw hr hT
    have ho := hT.chk hs
    have hkb := mKnown_bnd s
    have hcb := lCheap_bnd s
    have hlm := law.m
    refine WP.skip ?_
    refine EX.then ?_
    refine WP.seq ?_
    refine WP.region ?_
    refine WPl.v rfl (o_ldpa G28 rfl rfl rfl) ?_
    refine WPl.cs 5 rfl rfl rfl rfl (o_sig 5 (ren [(0, 0)]) (c26 s hs) e26 rfl rfl rfl w26 ⟨(lx rfl), trivial⟩ r26) ?_
    refine WPl.v rfl (o_move rfl) ?_
    refine WPl.v rfl (o_extract rfl rfl) ?_
    refine WPl.v rfl (o_extract rfl rfl) ?_
    refine WPl.v rfl (o_assign rfl) ?_
    refine WPl.v rfl (o_assign rfl) ?_
    refine WPl.nil ?_
    refine EX.then ?_
    refine WP.seq ?_
    refine WP.region ?_
    refine WPl.v rfl (o_ldpa G28 rfl rfl rfl) ?_
    refine WPl.v rfl (o_fldp F61_0 rfl) ?_
    refine WPl.v rfl (o_ldp S3 rfl rfl rfl) ?_
    refine WPl.v rfl (o_fldp F61_1 rfl) ?_
    refine WPl.v rfl (o_ldp S3 rfl rfl rfl) ?_
    refine WPl.cs 6 rfl rfl rfl rfl (o_sig 5 (ren [(0, 0)]) (c34 s t a (by omega)) e34 rfl rfl rfl w34 ⟨(lx rfl), trivial⟩ r34) ?_
    refine WPl.cs 6 rfl rfl rfl rfl (o_sig 6 (ren [(0, 5)]) (c26 (s.inTr t a) ho) e26 rfl rfl rfl w26 ⟨(lx rfl), trivial⟩ r26) ?_
    refine WPl.v rfl (o_move rfl) ?_
    refine WPl.v rfl (o_extract rfl rfl) ?_
    refine WPl.v rfl (o_extract rfl rfl) ?_
    refine WPl.v rfl (o_assign rfl) ?_
    refine WPl.v rfl (o_assign rfl) ?_
    refine WPl.nil ?_
    refine EX.then ?_
    refine WP.seq ?_
    refine WP.region ?_
    refine WPl.v rfl (o_ldpa G28 rfl rfl rfl) ?_
    refine WPl.cs 6 rfl rfl rfl rfl (o_sig 6 (ren [(0, 0)]) (c31 s (by omega)) e31 rfl rfl rfl w31 ⟨(lx rfl), trivial⟩ r31) ?_
    refine WPl.v rfl (o_move rfl) ?_
    refine WPl.v rfl (o_extract rfl rfl) ?_
    refine WPl.v rfl (o_extract rfl rfl) ?_
    refine WPl.l 6 7 rfl rfl rfl (o_alloc Z23) ?_
    refine WPl.s1 (o_stag G23 rfl rfl rfl ⟨rfl, rfl, trivial⟩ rfl rfl) ?_
    refine WPl.v rfl (o_assign rfl) ?_
    refine WPl.nil ?_
    refine EX.then ?_
    refine WP.seq ?_
    refine WP.region ?_
    refine WPl.v rfl (o_ldpa G28 rfl rfl rfl) ?_
    refine WPl.cs 7 rfl rfl rfl rfl (o_sig 7 (ren [(0, 0)]) (c32 s (by omega)) e32 rfl rfl rfl w32 ⟨(lx rfl), trivial⟩ r32) ?_
    refine WPl.v rfl (o_move rfl) ?_
    refine WPl.v rfl (o_extract rfl rfl) ?_
    refine WPl.v rfl (o_extract rfl rfl) ?_
    refine WPl.v rfl (o_assign rfl) ?_
    refine WPl.v rfl (o_assign rfl) ?_
    refine WPl.nil ?_
    refine EX.then ?_
    refine WP.seq ?_
    refine WP.seq ?_
    refine WP.region ?_
    refine WPl.v rfl (o_move rfl) ?_
    refine WPl.v rfl (o_not rfl) ?_
    refine WPl.v rfl (o_move rfl) ?_
    refine WPl.on rfl ⟨_, _, rfl, rfl, rfl⟩ (o_move rfl) ?_
    refine WPl.on rfl ⟨_, _, rfl, rfl, rfl⟩ (o_not rfl) ?_
    refine WPl.v rfl (o_pickF rfl rfl) ?_
    refine WPl.v rfl (o_move rfl) ?_
    refine WPl.on rfl ⟨_, _, rfl, rfl, rfl⟩ (o_move rfl) ?_
    refine WPl.on rfl ⟨_, _, rfl, rfl, rfl⟩ (o_move rfl) ?_
    refine WPl.on rfl ⟨_, _, rfl, rfl, rfl⟩ (o_gtr rfl rfl) ?_
    refine WPl.imp (Imp.bitF 61 (b' := false) rfl (by simp; omega)) ?_
    refine WPl.v rfl (o_pickF rfl rfl) ?_
    refine WPl.v rfl (o_move rfl) ?_
    refine WPl.on rfl ⟨_, _, rfl, rfl, rfl⟩ (o_move rfl) ?_
    refine WPl.on rfl ⟨_, _, rfl, rfl, rfl⟩ (o_neq rfl rfl) ?_
    refine WPl.on rfl ⟨_, _, rfl, rfl, rfl⟩ (o_move rfl) ?_
    refine WPl.bit 7 8 (decide (s.kE ≠ 0)) rfl rfl ?_
    refine WPl.gv 7 rfl rfl (.plain rfl Iff.rfl rfl) (fun hb => o_move rfl) ?_
    refine WPl.gv 7 rfl rfl (.plain rfl Iff.rfl rfl) (fun hb => o_neq rfl rfl) ?_
    refine WPl.on rfl ⟨_, _, rfl, rfl, rfl⟩ (o_and rfl rfl rfl id) ?_
    refine WPl.v rfl (o_pickF rfl rfl) ?_
    refine WPl.imp (Imp.bitF 70 (b' := false) rfl (by rcases law.k with h | h <;> simp [h])) ?_
    refine WPl.v rfl (o_move rfl) ?_
    refine WPl.on rfl ⟨_, _, rfl, rfl, rfl⟩ (o_move rfl) ?_
    refine WPl.on rfl ⟨_, _, rfl, rfl, rfl⟩ (o_eql rfl rfl) ?_
    refine WPl.on rfl ⟨_, _, rfl, rfl, rfl⟩ (o_move rfl) ?_
    refine WPl.on rfl ⟨_, _, rfl, rfl, rfl⟩ (o_lss rfl rfl) ?_
    refine WPl.on rfl ⟨_, _, rfl, rfl, rfl⟩ (o_neb Try.underlying4 rfl rfl) ?_
    refine WPl.imp (Imp.bitF 76 (b' := false) rfl (by simp [law.n])) ?_
    refine WPl.v rfl (o_pickF rfl rfl) ?_
    refine WPl.v rfl (o_move rfl) ?_
    refine WPl.on rfl ⟨_, _, rfl, rfl, rfl⟩ (o_move rfl) ?_
    refine WPl.on rfl ⟨_, _, rfl, rfl, rfl⟩ (o_neq rfl rfl) ?_
    refine WPl.on rfl ⟨_, _, rfl, rfl, rfl⟩ (o_move rfl) ?_
    refine WPl.bit 8 9 (decide (s.wE ≠ 0)) rfl rfl ?_
    refine WPl.gv 8 rfl rfl (.plain rfl Iff.rfl rfl) (fun hb => o_move rfl) ?_
    refine WPl.gv 8 rfl rfl (.plain rfl Iff.rfl rfl) (fun hb => o_neq rfl rfl) ?_
    refine WPl.on rfl ⟨_, _, rfl, rfl, rfl⟩ (o_and rfl rfl rfl id) ?_
    refine WPl.v rfl (o_pickF rfl rfl) ?_
    refine WPl.imp (Imp.bitF 85 (b' := false) rfl (by rcases law.w with h | h <;> simp [h])) ?_
    refine WPl.v rfl (o_move rfl) ?_
    refine WPl.on rfl ⟨_, _, rfl, rfl, rfl⟩ (o_move rfl) ?_
    refine WPl.on rfl ⟨_, _, rfl, rfl, rfl⟩ (o_lss rfl rfl) ?_
    refine WPl.on rfl ⟨_, _, rfl, rfl, rfl⟩ (o_move rfl) ?_
    refine WPl.bit 9 10 (decide (s.lCheap < 100000)) rfl rfl ?_
    refine WPl.gv 9 rfl rfl (.plain rfl Iff.rfl rfl) (fun hb => o_move rfl) ?_
    refine WPl.gv 9 rfl rfl (.plain rfl Iff.rfl rfl) (fun hb => o_neq rfl rfl) ?_
    refine WPl.on rfl ⟨_, _, rfl, rfl, rfl⟩ (o_and rfl rfl rfl id) ?_
    refine WPl.v rfl (o_pickF rfl rfl) ?_
    refine WPl.imp (Imp.bitF 93 (b' := false) rfl (by simp; exact law.e)) ?_
    refine WPl.nil ?_
    refine EX.then ?_
    refine WP.cond rfl (fun h => by cases h) (fun _ => ?_)
    refine WP.skip ?_
    refine EX.then ?_
    refine WP.seq ?_
    refine WP.seq ?_
    refine WP.region ?_
    refine WPl.v rfl (o_move rfl) ?_
    refine WPl.v rfl (o_eql rfl rfl) ?_
    refine WPl.v rfl (o_move rfl) ?_
    refine WPl.bit 10 11 (decide (s.kE = 0)) rfl rfl ?_
    refine WPl.gv 10 rfl rfl (.plain rfl Iff.rfl rfl) (fun hb => o_move rfl) ?_
    refine WPl.gv 10 rfl rfl (.plain rfl Iff.rfl rfl) (fun hb => o_eql rfl rfl) ?_
    refine WPl.gv 10 rfl rfl (.plain rfl Iff.rfl rfl) (fun hb => o_move rfl) ?_
    refine WPl.bit 11 12 ((decide (s.kE = 0)) && !(decide (((s.inTr t a).lCheap) = 100000))) rfl rfl ?_
    refine WPl.gv 11 rfl rfl (.nest rfl rfl (by first | (simp; done) | simp only [Bool.and_eq_true, Bool.not_eq_true']) rfl) (fun hb => o_move rfl) ?_
    refine WPl.gv 11 rfl rfl (.nest rfl rfl (by first | (simp; done) | simp only [Bool.and_eq_true, Bool.not_eq_true']) rfl) (fun hb => o_fldp F23_0 rfl) ?_
    refine WPl.gv 11 rfl rfl (.nest rfl rfl (by first | (simp; done) | simp only [Bool.and_eq_true, Bool.not_eq_true']) rfl) (fun hb => o_ldp S3 rfl rfl rfl) ?_
    refine WPl.gv 11 rfl rfl (.nest rfl rfl (by first | (simp; done) | simp only [Bool.and_eq_true, Bool.not_eq_true']) rfl) (fun hb => o_fldp F23_1 rfl) ?_
    refine WPl.gv 11 rfl rfl (.nest rfl rfl (by first | (simp; done) | simp only [Bool.and_eq_true, Bool.not_eq_true']) rfl) (fun hb => o_ldp S3 rfl rfl rfl) ?_
    refine WPl.gc0 11 rfl rfl (.nest rfl rfl (by first | (simp; done) | simp only [Bool.and_eq_true, Bool.not_eq_true']) rfl) (fun hb => o_sig 12 id (c24 ((s.inTr t a).lCheap) s.mKnown.1 s.mKnown.2) e24 rfl rfl rfl w24 trivial r24) ?_
    refine WPl.gv 11 rfl rfl (.nest rfl rfl (by first | (simp; done) | simp only [Bool.and_eq_true, Bool.not_eq_true']) rfl) (fun hb => o_not rfl) ?_
    refine WPl.gv 10 rfl rfl (.plain rfl Iff.rfl rfl) (fun hb => o_or rfl rfl rfl (by first | (simp; done) | exact fun h => by rw [h]; rfl | exact fun h => Bool.and_eq_true_iff.2 ⟨hb, by rw [h]; rfl⟩ | simp_all)) ?_
    refine WPl.gv 10 rfl rfl (.plain rfl Iff.rfl rfl) (fun hb => o_move rfl) ?_
    refine WPl.bit 12 13 ((decide (s.kE = 0)) && !((decide (((s.inTr t a).lCheap) = 100000)) || (!(within ((s.inTr t a).lCheap) s.mKnown.1 s.mKnown.2)))) rfl rfl ?_
    refine WPl.gv 12 rfl rfl (.nest rfl rfl (by first | (simp; done) | simp only [Bool.and_eq_true, Bool.not_eq_true']) rfl) (fun hb => o_fldp F23_0 rfl) ?_
    refine WPl.gv 12 rfl rfl (.nest rfl rfl (by first | (simp; done) | simp only [Bool.and_eq_true, Bool.not_eq_true']) rfl) (fun hb => o_ldp S3 rfl rfl rfl) ?_
    refine WPl.gv 12 rfl rfl (.nest rfl rfl (by first | (simp; done) | simp only [Bool.and_eq_true, Bool.not_eq_true']) rfl) (fun hb => o_lss rfl rfl) ?_
    refine WPl.gv 10 rfl rfl (.plain rfl Iff.rfl rfl) (fun hb => o_or rfl rfl rfl (by first | (simp; done) | exact fun h => by rw [h]; rfl | exact fun h => Bool.and_eq_true_iff.2 ⟨hb, by rw [h]; rfl⟩ | simp_all)) ?_
    refine WPl.v rfl (o_and rfl rfl rfl id) ?_
    refine WPl.nil ?_
    refine EX.then ?_
    refine WP.cond rfl (fun hc3 => ?_) (fun hc3 => ?_)
    · try simp only [decide_eq_true_eq, decide_eq_false_iff_not, Bool.and_eq_true, Bool.or_eq_true, Bool.and_eq_false_iff, Bool.or_eq_false_iff, Bool.not_eq_true', Bool.not_eq_false', ne_eq, Decidable.not_not] at hc3
      exfalso
      obtain ⟨h, h2⟩ := hc3
      have h3 := law.i h
      rcases h2 with (h2 | h2) | h2
      · exact h3.1 h2
      · rw [h3.2.1] at h2; cases h2
      · omega
    · try simp only [decide_eq_true_eq, decide_eq_false_iff_not, Bool.and_eq_true, Bool.or_eq_true, Bool.and_eq_false_iff, Bool.or_eq_false_iff, Bool.not_eq_true', Bool.not_eq_false', ne_eq, Decidable.not_not] at hc3
      refine WP.skip ?_
      refine EX.then ?_
      refine WP.seq ?_
      refine WP.region ?_
      refine WPl.v rfl (o_move rfl) ?_
      refine WPl.v rfl (o_neq rfl rfl) ?_
      refine WPl.v rfl (o_move rfl) ?_
      refine WPl.bit 13 14 (!(decide (s.wE ≠ 0))) rfl rfl ?_
      refine WPl.gv 13 rfl rfl (.plain rfl (by first | (simp; done) | simp only [Bool.not_eq_true']) rfl) (fun hb => o_move rfl) ?_
      refine WPl.gv 13 rfl rfl (.plain rfl (by first | (simp; done) | simp only [Bool.not_eq_true']) rfl) (fun hb => o_geq rfl rfl) ?_
      refine WPl.gv 13 rfl rfl (.plain rfl (by first | (simp; done) | simp only [Bool.not_eq_true']) rfl) (fun hb => o_move rfl) ?_
      refine WPl.bit 14 15 ((!(decide (s.wE ≠ 0))) && (decide (0 ≤ s.mWorth))) rfl rfl ?_
      refine WPl.gv 14 rfl rfl (.nest rfl rfl (by first | (simp; done) | simp only [Bool.and_eq_true, Bool.not_eq_true']) rfl) (fun hb => o_move rfl) ?_
      refine WPl.gv 14 rfl rfl (.nest rfl rfl (by first | (simp; done) | simp only [Bool.and_eq_true, Bool.not_eq_true']) rfl) (fun hb => o_move rfl) ?_
      refine WPl.gv 14 rfl rfl (.nest rfl rfl (by first | (simp; done) | simp only [Bool.and_eq_true, Bool.not_eq_true']) rfl) (fun hb => o_fldp F23_1 rfl) ?_
      refine WPl.gv 14 rfl rfl (.nest rfl rfl (by first | (simp; done) | simp only [Bool.and_eq_true, Bool.not_eq_true']) rfl) (fun hb => o_ldp S3 rfl rfl rfl) ?_
      refine WPl.gv 14 rfl rfl (.nest rfl rfl (by first | (simp; done) | simp only [Bool.and_eq_true, Bool.not_eq_true']) rfl) (fun hb => o_sub rfl rfl (by first | omega | (simp; omega)) (by first | omega | (simp; omega))) ?_
      refine WPl.gv 14 rfl rfl (.nest rfl rfl (by first | (simp; done) | simp only [Bool.and_eq_true, Bool.not_eq_true']) rfl) (fun hb => o_eql rfl rfl) ?_
      refine WPl.gv 13 rfl rfl (.plain rfl (by first | (simp; done) | simp only [Bool.not_eq_true']) rfl) (fun hb => o_and rfl rfl rfl (by first | (simp; done) | exact fun h => Bool.and_eq_true_iff.2 ⟨hb, h⟩ | simp_all)) ?_
      refine WPl.v rfl (o_or rfl rfl rfl (by first | (simp; done) | exact fun h => by rw [h]; rfl | exact fun h => Bool.and_eq_true_iff.2 ⟨hb, by rw [h]; rfl⟩ | simp_all)) ?_
      refine WPl.imp (Imp.bitF 127 (b' := true) rfl (by by_cases h : s.wE = 0; (have hv := law.v h; simp only [Bool.or_eq_true, Bool.and_eq_true, decide_eq_true_eq]; exact .inr hv); (simp [h]))) ?_
      refine WPl.v rfl (o_move rfl) ?_
      refine WPl.ung ⟨_, _, rfl, rfl, rfl⟩ ?_
      refine WPl.cs 15 rfl rfl rfl rfl (o_sig 15 id c17 e17 rfl rfl rfl w17 trivial r17) ?_
      refine WPl.v rfl (o_pickT rfl rfl) ?_
      refine WPl.v rfl (o_assign rfl) ?_
      refine WPl.nil ?_
      refine EX.then ?_
      refine WP.ret ?_
      exact EX.fin id (.inl rfl) rfl (.tmp rfl .nil) rfl r8 trivial (by simp) (by simp)
end Go.Flong
namespace Go.Flong
open Go Go.Eng
def Pig.turn (p : Pig) : Pig := { p with tin := p.ant, ant := p.tin }
def turnTo (pigs : List Pig) : Nat → List Pig
  | 0 => pigs
  | i + 1 => lset (turnTo pigs i) (i : Int) (nth pigs (i : Int)).turn
theorem turnTo_len (pigs : List Pig) : ∀ i, (turnTo pigs i).length = pigs.length
  | 0 => rfl
  | i + 1 => by rw [turnTo, lset_len, turnTo_len pigs i]
theorem turnTo_nth (pigs : List Pig) : ∀ i : Nat, i ≤ pigs.length → ∀ j : Nat, nth (turnTo pigs i) (j : Int) = if j < i then (nth pigs (j : Int)).turn else nth pigs (j : Int)
  | 0, _, j => by simp [turnTo]
  | i + 1, h, j => by
    rw [turnTo, nth_lset' (by rw [turnTo_len]; omega), turnTo_nth pigs i (by omega)]
    by_cases e : j = i
    · subst e; rw [if_pos rfl, if_pos (by omega)]
    · rw [if_neg e]
      by_cases g : j < i
      · rw [if_pos g, if_pos (by omega)]
      · rw [if_neg g, if_neg (by omega)]
def Shop.turned (s : Shop) : Shop := ⟨s.pounds, s.al, s.ah, s.tl, s.th, s.room, s.apl, s.aph, s.tpl, s.tph, turnTo s.pigs s.pigs.length⟩
theorem turned_len (s : Shop) : s.turned.pigs.length = s.pigs.length := turnTo_len _ _
theorem turned_nth {s : Shop} {j : Nat} (hj : j < s.pigs.length) : nth s.turned.pigs (j : Int) = (nth s.pigs (j : Int)).turn := by
  have := turnTo_nth s.pigs s.pigs.length (Nat.le_refl _) j
  rw [if_pos hj] at this; exact this
theorem sumTo_turn {s : Shop} {f g : Pig → Int} (h : ∀ p : Pig, f p.turn = g p) {l : List Int} : ∀ i : Nat, i ≤ s.pigs.length → sumTo f s.turned.pigs l i = sumTo g s.pigs l i
  | 0, _ => rfl
  | i + 1, hi => by simp only [sumTo]; rw [sumTo_turn h i (by omega), turned_nth (by omega), h]
theorem sumOf_turn {s : Shop} {f g : Pig → Int} (h : ∀ p : Pig, f p.turn = g p) {l : List Int} (hl : l.length ≤ s.pigs.length) : sumOf f s.turned.pigs l = sumOf g s.pigs l := sumTo_turn h _ hl
theorem pig_turn_chk {p : Pig} (h : p.chk = true) : p.turn.chk = true := by
  show (within p.pounds 1 40 && within p.ant 0 p.pounds && within p.tin 0 (p.pounds - p.ant) && within p.pence 0 99 && within p.many 0 5) = true
  simp only [Pig.chk, within, Bool.and_eq_true, decide_eq_true_eq] at h ⊢; omega
theorem turned_chk {s : Shop} (h : s.chk = true) : s.turned.chk = true := by
  have hp := Shop.pigsOK h
  have hl := turned_len s
  simp only [Shop.chk, Bool.and_eq_true] at h ⊢
  refine ⟨?_, all_of fun j hj => ?_⟩
  · have h1 := h.1
    simp only [Shop.head, isPot, isSpan, within, Bool.and_eq_true, decide_eq_true_eq] at h1 ⊢
    rw [hl]
    simp only [Shop.turned]
    omega
  · rw [turned_nth (by omega)]; exact pig_turn_chk (hp.at (by omega))
theorem turned_add {s : Shop} {l : List Int} : isAdd s.turned l = isAdd s l := by
  unfold isAdd
  rw [turned_len]
  by_cases hl : (l.length : Int) = s.pigs.length
  · rw [sumOf_turn (f := Pig.pounds) (g := Pig.pounds) (fun _ => rfl) (by omega)]
    have : allI (fitsMany s.turned.pigs l) l.length = allI (fitsMany s.pigs l) l.length := by
      rw [Bool.eq_iff_iff, allI_iff, allI_iff]
      constructor
      · intro h j hj
        have := h j hj
        rwa [fitsMany, turned_nth (by omega)] at this
      · intro h j hj
        have := h j hj
        rw [fitsMany, turned_nth (by omega)]; exact this
    rw [this]; rfl
  · rw [decide_eq_false hl]; simp
theorem turned_aft {s : Shop} {l : List Int} (hl : l.length ≤ s.pigs.length) : s.turned.aft l = ⟨(s.aft l).pounds, (s.aft l).al, (s.aft l).ah, (s.aft l).tl, (s.aft l).th⟩ := by
  unfold Shop.aft
  rw [sumOf_turn (f := Pig.pounds) (g := Pig.pounds) (fun _ => rfl) hl, sumOf_turn (f := Pig.tin) (g := Pig.ant) (fun _ => rfl) hl, sumOf_turn (f := Pig.ant) (g := Pig.tin) (fun _ => rfl) hl]
  rfl
theorem turned_safe {s : Shop} {l : List Int} (hl : l.length ≤ s.pigs.length) : s.turned.safeP (s.turned.aft l) = s.safeP (s.aft l) := by
  rw [Bool.eq_iff_iff, safeP_iff, safeP_iff, turned_aft hl]
  simp only [Shop.turned]
  omega
theorem turned_can {s : Shop} {l : List Int} (hl : l.length ≤ s.pigs.length) : s.turned.canM (s.turned.aft l) = s.canM (s.aft l) := by
  unfold Shop.canM
  rw [turned_aft hl]
  simp only [Shop.turned]
  exact Bool.and_comm _ _
theorem turned_ok {s : Shop} {l : List Int} : s.turned.okM l = s.okM l := by
  unfold Shop.okM
  rw [turned_add]
  cases h : isAdd s l with
  | false => rfl
  | true => rw [turned_safe (by have := add_len h; omega)]
theorem cheap_same {s t : Shop} (hs : s.chk = true) (ht : t.chk = true) (h1 : ∀ l, t.okM l = s.okM l) (h2 : ∀ l, s.okM l = true → sumOf Pig.pence t.pigs l = sumOf Pig.pence s.pigs l) : t.mE (priceG t) = s.mE (priceG s) ∧ t.mCheap = s.mCheap := by
  rcases cheap_spec hs with ⟨a1, a2, a3⟩ | ⟨a1, a2, a3, a4⟩
  · rcases cheap_spec ht with ⟨b1, b2, _⟩ | ⟨_, b2, _⟩
    · exact ⟨by omega, by omega⟩
    · rw [h1, a3] at b2; cases b2
  · rcases cheap_spec ht with ⟨_, _, b3⟩ | ⟨b1, b2, b3, b4⟩
    · have := b3 (s.mAdd (priceG s)); rw [h1, a2] at this; cases this
    · have b5 := b2
      rw [h1] at b5
      have c1 := a4 _ b5
      have c2 := b4 (s.mAdd (priceG s)) (by rw [h1]; exact a2)
      have c3 := h2 _ b5
      have c4 := h2 _ a2
      exact ⟨by omega, by omega⟩
theorem turned_cheap {s : Shop} (hs : s.chk = true) : s.turned.mE (priceG s.turned) = s.mE (priceG s) ∧ s.turned.mCheap = s.mCheap :=
  cheap_same hs (turned_chk hs) (fun l => turned_ok) fun l hl => by
    simp only [Shop.okM, Bool.and_eq_true] at hl
    exact sumOf_turn (fun _ => rfl) (by have := add_len hl.1; omega)
theorem turned_known {s : Shop} (hs : s.chk = true) : s.turned.kE = s.kE ∧ s.turned.mKnown = s.mKnown := by
  have ht := turned_chk hs
  have hT : ∀ t a, s.turned.InT a t ↔ s.InT t a := fun t a => ⟨fun h => ⟨h.2, h.1⟩, fun h => ⟨h.2, h.1⟩⟩
  have hC : ∀ t a, s.InT t a → (s.turned.inTr a t).mE (priceG (s.turned.inTr a t)) = (s.inTr t a).mE (priceG (s.inTr t a)) ∧ (s.turned.inTr a t).mCheap = (s.inTr t a).mCheap := fun t a h => turned_cheap (s := s.inTr t a) (h.chk hs)
  rcases known_spec hs with ⟨a1, a2, t, a, a3, a4⟩ | ⟨a1, a2, a3⟩
  · rcases known_spec ht with ⟨b1, b2, _⟩ | ⟨_, b2, _⟩
    · exact ⟨by omega, by rw [a2, b2]⟩
    · have := b2 a t ((hT t a).2 a3)
      rw [(hC t a a3).1] at this; omega
  · rcases known_spec ht with ⟨_, _, t, a, b3, b4⟩ | ⟨b1, b2, b3⟩
    · have h := (hT a t).1 b3
      have := a2 a t h
      rw [(hC a t h).1] at b4; omega
    · refine ⟨by omega, KIn.uniq (b3.congr fun m => ?_) a3 ⟨_, _, _, InT_ex hs, rfl⟩⟩
      constructor
      · rintro ⟨t, a, h, rfl⟩
        exact ⟨a, t, (hT a t).1 h, (hC a t ((hT a t).1 h)).2⟩
      · rintro ⟨t, a, h, rfl⟩
        exact ⟨a, t, (hT t a).2 h, (hC t a h).2.symm⟩
structure TurnLaw (s : Shop) (add : List Int) : Prop where
  c : s.turned.lCheap = s.lCheap
  k : s.turned.kE = s.kE ∧ s.turned.mKnown = s.mKnown
  w : s.turned.wE = s.wE ∧ s.turned.mWorth = s.mWorth
  a : isAdd s.turned add = isAdd s add
  f : isAdd s add = true → s.turned.mSafe add = s.mSafe add
theorem turnLaw {s : Shop} {add : List Int} (hr : s.ready = true) : TurnLaw s add := by
  have hs := ready_chk hr
  obtain ⟨h1, h2⟩ := turned_cheap hs
  obtain ⟨h3, h4⟩ := turned_known hs
  have hW : s.turned.wE = s.wE := by unfold Shop.wE; rw [h1, h3]
  refine ⟨by unfold Shop.lCheap; rw [h1, h2], ⟨h3, h4⟩, ⟨hW, by unfold Shop.mWorth; rw [hW, h2, h4]⟩, turned_add, fun hv => ?_⟩
  rw [mSafe_eq (turned_chk hs) (by rw [turned_add]; exact hv), mSafe_eq hs hv, turned_safe (by have := add_len hv; omega), turned_can (by have := add_len hv; omega)]
end Go.Flong
namespace Go.Flong
open Go Go.Eng Go.Proofs
theorem w7 {s : Shop} {add : List Int} : ∀ x ∈ ([.e (.g [ai (s.pounds), ai (s.tl), ai (s.th), ai (s.al), ai (s.ah), ai (s.room), ai (s.tpl), ai (s.tph), ai (s.apl), ai (s.aph), .q 0]), .e (.a (.q 1))] : List SV), x.res (keys (α := Pred) [(0, PL EPig (s.pigs)), (1, PL EP.int (add))]) := by simp [SV.res, El.res, At.res, keys]
theorem r7  : SV.res (keys (α := Pred) []) (.b (true)) := by simp [SV.res, El.res, At.res, keys]
set_option maxHeartbeats 4000000 in
set_option maxRecDepth 10000 in
theorem c7 (s : Shop) (add : List Int) (hlaw : s.ready = true → TurnLaw s add) : Sig Try.prog 7 [.e (.g [ai (s.pounds), ai (s.tl), ai (s.th), ai (s.al), ai (s.ah), ai (s.room), ai (s.tpl), ai (s.tph), ai (s.apl), ai (s.aph), .q 0]), .e (.a (.q 1))] [(0, PL EPig (s.pigs)), (1, PL EP.int (add))] (.b (true)) [] := by
  refine Sig.intro Try.func7 rfl 2 [(0, .e (.g [ai (s.pounds), ai (s.tl), ai (s.th), ai (s.al), ai (s.ah), ai (s.room), ai (s.tpl), ai (s.tph), ai (s.apl), ai (s.aph), .q 0])), (1, .e (.a (.q 1)))] rfl w7 rfl rfl fun I w => ?_
  refine WP.seq ?_
  refine WP.region ?_
  refine WPl.l 2 3 rfl rfl rfl (o_boxg rfl) ?_
  refine WPl.v rfl (o_assign rfl) ?_
  refine WPl.nil ?_
  refine EX.then ?_
  refine WP.seq ?_
  refine WP.seq ?_
  refine WP.region ?_
  refine WPl.v rfl (o_ldpa G28 rfl rfl rfl) ?_
  refine WPl.cs 3 rfl rfl rfl rfl (o_sig 3 (ren [(0, 0)]) (c30 s) e30 rfl rfl rfl w30 ⟨(lx rfl), trivial⟩ r30) ?_
  refine WPl.v rfl (o_move rfl) ?_
  refine WPl.bit 3 4 (!s.far) rfl rfl ?_
  refine WPl.gv 3 rfl rfl (.plain rfl (by first | (simp; done) | simp only [Bool.not_eq_true']) rfl) (fun hb => o_ldpa G28 rfl rfl rfl) ?_
  refine WPl.gc0 3 rfl rfl (.plain rfl (by first | (simp; done) | simp only [Bool.not_eq_true']) rfl) (fun hb => o_sig 4 (ren [(0, 0)]) (c15 s) e15 rfl rfl rfl w15 ⟨(lx rfl), trivial⟩ r15) ?_
  refine WPl.gv 3 rfl rfl (.plain rfl (by first | (simp; done) | simp only [Bool.not_eq_true']) rfl) (fun hb => o_not rfl) ?_
  refine WPl.v rfl (o_or rfl rfl rfl (by first | (simp; done) | exact fun h => by rw [h]; rfl | exact fun h => Bool.and_eq_true_iff.2 ⟨hb, by rw [h]; rfl⟩ | simp_all)) ?_
  refine WPl.nil ?_
  refine EX.then ?_
  refine WP.cond rfl (fun hc1 => ?_) (fun hc1 => ?_)
  · try simp only [decide_eq_true_eq, decide_eq_false_iff_not, Bool.and_eq_true, Bool.or_eq_true, Bool.and_eq_false_iff, Bool.or_eq_false_iff, Bool.not_eq_true', Bool.not_eq_false', ne_eq, Decidable.not_not] at hc1
    refine WP.seq ?_
    refine WP.region ?_
    refine WPl.cs 4 rfl rfl rfl rfl (o_sig 4 id c17 e17 rfl rfl rfl w17 trivial r17) ?_
    refine WPl.v rfl (o_assign rfl) ?_
    refine WPl.nil ?_
    refine EX.then ?_
    refine WP.ret ?_
    refine EX.ret_then ?_
    exact EX.fin id (.inl rfl) rfl (.tmp rfl .nil) rfl r7 trivial (by simp) (by simp)
  · try simp only [decide_eq_true_eq, decide_eq_false_iff_not, Bool.and_eq_true, Bool.or_eq_true, Bool.and_eq_false_iff, Bool.or_eq_false_iff, Bool.not_eq_true', Bool.not_eq_false', ne_eq, Decidable.not_not] at hc1
    obtain ⟨_, hr⟩ : s.far = false ∧ s.ready = true := by simpa using hc1
    have hs : s.chk = true := ready_chk hr
    have hpg := Shop.pigsOK hs
    have hl4 := hpg.2
    have law := hlaw hr
    have ho := turned_chk hs
    have hotl : s.turned.pigs.length ≤ 40 := by rw [turned_len]; omega
    refine WP.skip ?_
    refine EX.then ?_
    refine WP.seq ?_
    refine WP.region ?_
    refine WPl.v rfl (o_ldpa G28 rfl rfl rfl) ?_
    refine WPl.cL 5 rfl rfl rfl rfl rfl (o_sigo 4 (ren [(0, 0)]) (c18O s (by omega)) e18 rfl rfl SvsOK.rf w18O ⟨(lx rfl), trivial⟩ r18O rfl rfl) ?_
    refine WPl.l 5 6 rfl rfl rfl (o_alloc Z28) ?_
    refine WPl.s1 (o_stag G28 rfl rfl rfl ⟨rfl, rfl, rfl, rfl, rfl, rfl, rfl, rfl, rfl, rfl, (.inr ⟨_, _, _, _, rfl⟩), trivial⟩ rfl rfl) ?_
    refine WPl.nil ?_
    refine EX.then ?_
    refine WP.seq ?_
    refine WP.draw (nf := 6) [⟨[37, 38, 39], [], [], [], []⟩, ⟨[37, 38, 39], [], [], [], [0]⟩, ⟨[37, 38, 39], [], [], [], [0, 1]⟩, ⟨[34, 35, 36, 40, 41], [5], [], [], []⟩, ⟨[34, 35, 36, 40, 41], [5], [], [], [3]⟩, ⟨[34, 35, 36, 40, 41], [5], [], [], [3, 4]⟩, ⟨[37, 38, 39], [], [], [], [0, 1, 2]⟩, ⟨[37, 38, 39], [], [], [], [0, 1, 2, 6]⟩, ⟨[37, 38, 39], [], [], [5], [0, 1, 2, 6, 7]⟩, ⟨[], [], [], [], [0, 1, 2, 3, 4, 5, 6, 7, 8]⟩, ⟨[], [], [], [], [0, 1, 2, 3, 4, 5, 6, 7, 8, 9]⟩, ⟨[], [], [], [5], [0, 1, 2, 3, 4, 5, 6, 7, 8, 9, 10]⟩] (by kernel_rfl) (by kernel_rfl) ?_
    refine DRQ.v rfl rfl rfl (o_fldp F28_0 rfl) ?_
    refine DRQ.v rfl rfl rfl (o_fldp F25_2 rfl) ?_
    refine DRQ.v rfl rfl rfl (o_ldpg G23 rfl rfl rfl) ?_
    refine DRQ.v rfl rfl rfl (o_fldp F28_0 rfl) ?_
    refine DRQ.v rfl rfl rfl (o_fldp F25_1 rfl) ?_
    refine DRQ.v rfl rfl rfl (o_ldpg G23 rfl rfl rfl) ?_
    refine DRQ.v rfl rfl rfl (o_fldp F28_0 rfl) ?_
    refine DRQ.v rfl rfl rfl (o_fldp F25_1 rfl) ?_
    refine DRQ.s 5 rfl rfl rfl (o_stag G23 rfl rfl rfl ⟨rfl, rfl, trivial⟩ rfl rfl) ?_
    refine DRQ.v rfl rfl rfl (o_fldp F28_0 rfl) ?_
    refine DRQ.v rfl rfl rfl (o_fldp F25_2 rfl) ?_
    refine DRQ.s 5 rfl rfl rfl (o_stag G23 rfl rfl rfl ⟨rfl, rfl, trivial⟩ rfl rfl) ?_
    refine DRQ.nil' ?_
    refine EX.then ?_
    refine WP.seq ?_
    refine WP.draw (nf := 6) [⟨[46, 47], [], [], [], []⟩, ⟨[46, 47], [], [], [], [0]⟩, ⟨[44, 45, 48], [5], [], [], []⟩, ⟨[44, 45, 48], [5], [], [], [2]⟩, ⟨[46, 47], [], [], [], [0, 1]⟩, ⟨[46, 47], [], [], [5], [0, 1, 4]⟩, ⟨[], [], [], [], [0, 1, 2, 3, 4, 5]⟩, ⟨[], [], [], [5], [0, 1, 2, 3, 4, 5, 6]⟩] (by kernel_rfl) (by kernel_rfl) ?_
    refine DRQ.v rfl rfl rfl (o_fldp F28_3 rfl) ?_
    refine DRQ.v rfl rfl rfl (o_ldpg G23 rfl rfl rfl) ?_
    refine DRQ.v rfl rfl rfl (o_fldp F28_2 rfl) ?_
    refine DRQ.v rfl rfl rfl (o_ldpg G23 rfl rfl rfl) ?_
    refine DRQ.v rfl rfl rfl (o_fldp F28_2 rfl) ?_
    refine DRQ.s 5 rfl rfl rfl (o_stag G23 rfl rfl rfl ⟨rfl, rfl, trivial⟩ rfl rfl) ?_
    refine DRQ.v rfl rfl rfl (o_fldp F28_3 rfl) ?_
    refine DRQ.s 5 rfl rfl rfl (o_stag G23 rfl rfl rfl ⟨rfl, rfl, trivial⟩ rfl rfl) ?_
    refine DRQ.nil' ?_
    refine EX.then ?_
    refine WP.seq ?_
    refine WP.seq ?_
    refine WP.region ?_
    refine WPl.v rfl (o_assign rfl) ?_
    refine WPl.nil ?_
    refine EX.then ?_
    refine WP.block ?_
    refine WP.loop (Gh := Nat) (fun i => ⟨6, [(1, .e (.a (.q 1))), (2, .e (.a (.p 2 (0)))), (4, .b (false)), (5, .e (.a (.p 5 (0)))), (6, .i ((i : Int)))], [(0, PL EPig (s.pigs)), (1, PL EP.int (add))], [(2, .blk [ai (s.pounds), ai (s.tl), ai (s.th), ai (s.al), ai (s.ah), ai (s.room), ai (s.tpl), ai (s.tph), ai (s.apl), ai (s.aph), .q 0] 28), (4, .own 49 EPig.size (turnTo s.pigs i).length (RP EPig (turnTo s.pigs i))), (5, .blk [ai (s.pounds), ai (s.al), ai (s.ah), ai (s.tl), ai (s.th), ai (s.room), ai (s.apl), ai (s.aph), ai (s.tpl), ai (s.tph), .q 4] 28)], [], []⟩) (fun i => i ≤ s.pigs.length) (fun i => s.pigs.length - i) (0) id ?_ (LeR.of ⟨rfl, rfl, rfl, rfl, rfl, trivial⟩ ⟨(lx rfl), (lx rfl), trivial⟩ ⟨rfl, rfl, rfl, trivial⟩ rfl rfl rfl rfl rfl) ?_
    · first | trivial | omega | (constructor <;> omega) | simp
    intro i hφ
    have hi : i ≤ s.pigs.length := hφ
    refine WP.seq ?_
    refine WP.seq ?_
    refine WP.region ?_
    refine WPl.v rfl (o_move rfl) ?_
    refine WPl.v rfl (o_fldp F28_4 rfl) ?_
    refine WPl.v rfl (o_ldp S26 rfl rfl rfl) ?_
    refine WPl.v rfl (o_lenq L26 rfl (lx rfl)) ?_
    refine WPl.v rfl (o_lss rfl rfl) ?_
    refine WPl.nil ?_
    refine EX.then ?_
    refine WP.cond rfl (fun hc2 => ?_) (fun hc2 => ?_)
    · try simp only [decide_eq_true_eq, decide_eq_false_iff_not, Bool.and_eq_true, Bool.or_eq_true, Bool.and_eq_false_iff, Bool.or_eq_false_iff, Bool.not_eq_true', Bool.not_eq_false', ne_eq, Decidable.not_not] at hc2
      have htl := turnTo_len s.pigs i
      refine WP.skip ?_
      refine EX.then ?_
      refine WP.seq ?_
      refine WP.block ?_
      refine WP.seq ?_
      refine WP.region ?_
      refine WPl.v rfl (o_fldp F28_4 rfl) ?_
      refine WPl.v rfl (o_ldp S26 rfl rfl rfl) ?_
      refine WPl.v rfl (o_move rfl) ?_
      refine WPl.x 6 7 rfl rfl rfl (o_idx L26 rfl (lx rfl) rfl (by first | omega | (simp; omega)) (by first | omega | (simp; omega))) ?_
      refine WPl.v rfl (o_ldqg G49 rfl (lx rfl) (strG rfl) rfl rfl) ?_
      refine WPl.l 7 8 rfl rfl rfl (o_alloc Z49) ?_
      refine WPl.s1 (o_stag G49 rfl rfl rfl ⟨rfl, rfl, rfl, rfl, rfl, trivial⟩ rfl rfl) ?_
      refine WPl.nil ?_
      refine EX.then ?_
      refine WP.seq ?_
      refine WP.draw (nf := 10) [⟨[64, 68, 69, 70, 71, 72, 73], [9], [], [], []⟩, ⟨[64, 68, 69, 70, 71, 72, 73], [9], [], [], [0]⟩, ⟨[62, 63, 68, 69, 70, 71, 72, 73], [9], [], [], []⟩, ⟨[68, 69, 70, 71, 72, 73], [9], [8], [8], [0, 1, 2]⟩, ⟨[68, 69, 70, 71, 72, 73], [9], [], [], [0, 1, 2, 3]⟩, ⟨[68, 69, 70, 71, 72, 73], [9], [], [], [0, 1, 2, 3, 4]⟩, ⟨[62, 63, 64, 65, 66, 67, 70, 74], [7, 8], [], [], []⟩, ⟨[62, 63, 64, 65, 66, 67, 70, 74], [7, 8], [], [], [6]⟩, ⟨[62, 63, 64, 65, 66, 67, 68, 69, 74], [7, 8], [], [], []⟩, ⟨[62, 63, 64, 65, 66, 67, 74], [7, 8], [9], [9], [6, 7, 8]⟩, ⟨[62, 63, 64, 65, 66, 67, 74], [7, 8], [], [], [6, 7, 8, 9]⟩, ⟨[62, 63, 64, 65, 66, 67, 74], [7, 8], [], [], [6, 7, 8, 9, 10]⟩, ⟨[68, 69, 70, 71, 72, 73], [9], [], [], [0, 1, 2, 3, 4, 5]⟩, ⟨[68, 69, 70, 71, 72, 73], [9], [], [7], [0, 1, 2, 3, 4, 5, 12]⟩, ⟨[], [], [], [], [0, 1, 2, 3, 4, 5, 6, 7, 8, 9, 10, 11, 12, 13]⟩, ⟨[], [], [], [7], [0, 1, 2, 3, 4, 5, 6, 7, 8, 9, 10, 11, 12, 13, 14]⟩] (by kernel_rfl) (by kernel_rfl) ?_
      refine DRQ.v rfl rfl rfl (o_fldp F28_4 rfl) ?_
      refine DRQ.v rfl rfl rfl (o_ldp S26 rfl rfl rfl) ?_
      refine DRQ.v rfl rfl rfl (o_move rfl) ?_
      refine DRQ.x 8 rfl rfl rfl rfl (o_idx L26 rfl (lx rfl) rfl (by first | omega | (simp; omega)) (by first | omega | (simp; omega))) ?_
      refine DRQ.v rfl rfl rfl (o_fldq F49_2 rfl (lx rfl)) ?_
      refine DRQ.v rfl rfl rfl (o_lde S3 rfl (lx rfl) (strI rfl)) ?_
      refine DRQ.v rfl rfl rfl (o_fldp F28_4 rfl) ?_
      refine DRQ.v rfl rfl rfl (o_ldp S26 rfl rfl rfl) ?_
      refine DRQ.v rfl rfl rfl (o_move rfl) ?_
      refine DRQ.x 9 rfl rfl rfl rfl (o_idx L26 rfl (lx rfl) rfl (by first | omega | (simp; omega)) (by first | omega | (simp; omega))) ?_
      refine DRQ.v rfl rfl rfl (o_fldq F49_1 rfl (lx rfl)) ?_
      refine DRQ.v rfl rfl rfl (o_lde S3 rfl (lx rfl) (strI rfl)) ?_
      refine DRQ.v rfl rfl rfl (o_fldp F49_1 rfl) ?_
      refine DRQ.s 7 rfl rfl rfl (o_sta S3 rfl rfl rfl rfl rfl) ?_
      refine DRQ.v rfl rfl rfl (o_fldp F49_2 rfl) ?_
      refine DRQ.s 7 rfl rfl rfl (o_sta S3 rfl rfl rfl rfl rfl) ?_
      refine DRQ.nil' ?_
      refine EX.then ?_
      refine WP.region ?_
      refine WPl.v rfl (o_fldp F28_4 rfl) ?_
      refine WPl.v rfl (o_ldp S26 rfl rfl rfl) ?_
      refine WPl.v rfl (o_move rfl) ?_
      refine WPl.v rfl (o_ldpa G49 rfl rfl rfl) ?_
      refine WPl.v rfl (o_idxo L26 rfl rfl rfl (by first | omega | (simp; omega)) (by first | omega | (simp; omega))) ?_
      refine WPl.s1 (o_steE2 (z := ((nth s.pigs (i : Int)).turn)) Try.sizeOf49 rfl rfl rfl ⟨rfl, rfl, rfl, rfl, rfl, trivial⟩ (eok_str ⟨rfl, rfl, rfl, rfl, rfl, trivial⟩) rfl rfl rfl (by first | omega | (simp; omega)) (by first | omega | (simp; omega))) ?_
      refine WPl.nil ?_
      refine EX.blk ?_
      refine EX.then ?_
      refine WP.region ?_
      refine WPl.v rfl (o_move rfl) ?_
      refine WPl.v rfl (o_add rfl rfl (by first | omega | (simp; omega)) (by first | omega | (simp; omega))) ?_
      refine WPl.v rfl (o_assign rfl) ?_
      refine WPl.nil ?_
      refine EX.again (i + 1) id (by first | omega | (constructor <;> omega)) (by omega) (LeR.of ⟨rfl, rfl, rfl, rfl, rfl, trivial⟩ ⟨(lx rfl), (lx rfl), trivial⟩ ⟨rfl, rfl, rfl, trivial⟩ rfl rfl rfl rfl rfl)
    · try simp only [decide_eq_true_eq, decide_eq_false_iff_not, Bool.and_eq_true, Bool.or_eq_true, Bool.and_eq_false_iff, Bool.or_eq_false_iff, Bool.not_eq_true', Bool.not_eq_false', ne_eq, Decidable.not_not] at hc2
      have hie : i = s.pigs.length := by omega
      rw [hie]
      refine WP.exit ?_
      refine EX.exit_then ?_
      refine EX.exit_then ?_
      refine EX.exit_blk ?_
      refine EX.then ?_
      refine WP.seq ?_
      refine WP.region ?_
      refine WPl.v rfl (o_ldpa G28 rfl rfl rfl) ?_
      refine WPl.cs 6 rfl rfl rfl rfl (o_sig 6 (ren [(0, 0)]) (c26 s hs) e26 rfl rfl rfl w26 ⟨(lx rfl), trivial⟩ r26) ?_
      refine WPl.v rfl (o_move rfl) ?_
      refine WPl.v rfl (o_extract rfl rfl) ?_
      refine WPl.v rfl (o_extract rfl rfl) ?_
      refine WPl.v rfl (o_assign rfl) ?_
      refine WPl.v rfl (o_assign rfl) ?_
      refine WPl.nil ?_
      refine EX.then ?_
      refine WP.seq ?_
      refine WP.region ?_
      refine WPl.v rfl (o_ldpa G28 rfl rfl rfl) ?_
      refine WPl.cs 6 rfl rfl rfl rfl (o_sigbc 6 (ren [(0, 4)]) (Sig.free (c26 s.turned ho)) e26 rfl rfl SvsOK.rf w26 ⟨.own rfl rfl, trivial⟩ r26) ?_
      refine WPl.v rfl (o_move rfl) ?_
      refine WPl.v rfl (o_extract rfl rfl) ?_
      refine WPl.v rfl (o_extract rfl rfl) ?_
      refine WPl.v rfl (o_assign rfl) ?_
      refine WPl.v rfl (o_assign rfl) ?_
      refine WPl.nil ?_
      refine EX.then ?_
      refine WP.seq ?_
      refine WP.region ?_
      refine WPl.v rfl (o_ldpa G28 rfl rfl rfl) ?_
      refine WPl.cs 6 rfl rfl rfl rfl (o_sig 6 (ren [(0, 0)]) (c31 s (by omega)) e31 rfl rfl rfl w31 ⟨(lx rfl), trivial⟩ r31) ?_
      refine WPl.v rfl (o_move rfl) ?_
      refine WPl.v rfl (o_extract rfl rfl) ?_
      refine WPl.v rfl (o_extract rfl rfl) ?_
      refine WPl.l 6 7 rfl rfl rfl (o_alloc Z23) ?_
      refine WPl.s1 (o_stag G23 rfl rfl rfl ⟨rfl, rfl, trivial⟩ rfl rfl) ?_
      refine WPl.v rfl (o_assign rfl) ?_
      refine WPl.nil ?_
      refine EX.then ?_
      refine WP.seq ?_
      refine WP.region ?_
      refine WPl.v rfl (o_ldpa G28 rfl rfl rfl) ?_
      refine WPl.cs 7 rfl rfl rfl rfl (o_sigbc 7 (ren [(0, 4)]) (Sig.free (c31 s.turned hotl)) e31 rfl rfl SvsOK.rf w31 ⟨.own rfl rfl, trivial⟩ r31) ?_
      refine WPl.v rfl (o_move rfl) ?_
      refine WPl.v rfl (o_extract rfl rfl) ?_
      refine WPl.v rfl (o_extract rfl rfl) ?_
      refine WPl.l 7 8 rfl rfl rfl (o_alloc Z23) ?_
      refine WPl.s1 (o_stag G23 rfl rfl rfl ⟨rfl, rfl, trivial⟩ rfl rfl) ?_
      refine WPl.v rfl (o_assign rfl) ?_
      refine WPl.nil ?_
      refine EX.then ?_
      refine WP.seq ?_
      refine WP.region ?_
      refine WPl.v rfl (o_ldpa G28 rfl rfl rfl) ?_
      refine WPl.cs 8 rfl rfl rfl rfl (o_sig 8 (ren [(0, 0)]) (c32 s (by omega)) e32 rfl rfl rfl w32 ⟨(lx rfl), trivial⟩ r32) ?_
      refine WPl.v rfl (o_move rfl) ?_
      refine WPl.v rfl (o_extract rfl rfl) ?_
      refine WPl.v rfl (o_extract rfl rfl) ?_
      refine WPl.v rfl (o_assign rfl) ?_
      refine WPl.v rfl (o_assign rfl) ?_
      refine WPl.nil ?_
      refine EX.then ?_
      refine WP.seq ?_
      refine WP.region ?_
      refine WPl.v rfl (o_ldpa G28 rfl rfl rfl) ?_
      refine WPl.cs 8 rfl rfl rfl rfl (o_sigbc 8 (ren [(0, 4)]) (Sig.free (c32 s.turned hotl)) e32 rfl rfl SvsOK.rf w32 ⟨.own rfl rfl, trivial⟩ r32) ?_
      refine WPl.v rfl (o_move rfl) ?_
      refine WPl.v rfl (o_extract rfl rfl) ?_
      refine WPl.v rfl (o_extract rfl rfl) ?_
      refine WPl.v rfl (o_assign rfl) ?_
      refine WPl.v rfl (o_assign rfl) ?_
      refine WPl.nil ?_
      refine EX.then ?_
      refine WP.seq ?_
      refine WP.seq ?_
      refine WP.region ?_
      refine WPl.v rfl (o_move rfl) ?_
      refine WPl.v rfl (o_not rfl) ?_
      refine WPl.v rfl (o_move rfl) ?_
      refine WPl.on rfl ⟨_, _, rfl, rfl, rfl⟩ (o_move rfl) ?_
      refine WPl.on rfl ⟨_, _, rfl, rfl, rfl⟩ (o_not rfl) ?_
      refine WPl.v rfl (o_pickF rfl rfl) ?_
      refine WPl.v rfl (o_move rfl) ?_
      refine WPl.on rfl ⟨_, _, rfl, rfl, rfl⟩ (o_move rfl) ?_
      refine WPl.on rfl ⟨_, _, rfl, rfl, rfl⟩ (o_move rfl) ?_
      refine WPl.on rfl ⟨_, _, rfl, rfl, rfl⟩ (o_neq rfl rfl) ?_
      refine WPl.imp (Imp.bitF 120 (b' := false) rfl (by simp [law.c])) ?_
      refine WPl.v rfl (o_pickF rfl rfl) ?_
      refine WPl.v rfl (o_move rfl) ?_
      refine WPl.ung ⟨_, _, rfl, rfl, rfl⟩ ?_
      refine WPl.v rfl (o_ldpa G23 rfl rfl rfl) ?_
      refine WPl.ung ⟨_, _, rfl, rfl, rfl⟩ ?_
      refine WPl.v rfl (o_ldpa G23 rfl rfl rfl) ?_
      refine WPl.on rfl ⟨_, _, rfl, rfl, rfl⟩ (o_nes (a := [s.mKnown.1, s.mKnown.2]) (b := [s.turned.mKnown.1, s.turned.mKnown.2]) Q23 rfl Try.eqGuardType23 rfl rfl rfl rfl) ?_
      refine WPl.imp (Imp.bitF 125 (b' := false) rfl (by simp [law.k.2])) ?_
      refine WPl.v rfl (o_pickF rfl rfl) ?_
      refine WPl.v rfl (o_move rfl) ?_
      refine WPl.on rfl ⟨_, _, rfl, rfl, rfl⟩ (o_move rfl) ?_
      refine WPl.on rfl ⟨_, _, rfl, rfl, rfl⟩ (o_move rfl) ?_
      refine WPl.on rfl ⟨_, _, rfl, rfl, rfl⟩ (o_neq rfl rfl) ?_
      refine WPl.imp (Imp.bitF 130 (b' := false) rfl (by simp [law.k.1])) ?_
      refine WPl.v rfl (o_pickF rfl rfl) ?_
      refine WPl.v rfl (o_move rfl) ?_
      refine WPl.on rfl ⟨_, _, rfl, rfl, rfl⟩ (o_move rfl) ?_
      refine WPl.on rfl ⟨_, _, rfl, rfl, rfl⟩ (o_move rfl) ?_
      refine WPl.on rfl ⟨_, _, rfl, rfl, rfl⟩ (o_neq rfl rfl) ?_
      refine WPl.imp (Imp.bitF 135 (b' := false) rfl (by simp [law.w.2])) ?_
      refine WPl.v rfl (o_pickF rfl rfl) ?_
      refine WPl.v rfl (o_move rfl) ?_
      refine WPl.on rfl ⟨_, _, rfl, rfl, rfl⟩ (o_move rfl) ?_
      refine WPl.on rfl ⟨_, _, rfl, rfl, rfl⟩ (o_move rfl) ?_
      refine WPl.on rfl ⟨_, _, rfl, rfl, rfl⟩ (o_neq rfl rfl) ?_
      refine WPl.imp (Imp.bitF 140 (b' := false) rfl (by simp [law.w.1])) ?_
      refine WPl.v rfl (o_pickF rfl rfl) ?_
      refine WPl.nil ?_
      refine EX.then ?_
      refine WP.cond rfl (fun h => by cases h) (fun _ => ?_)
      refine WP.skip ?_
      refine EX.then ?_
      refine WP.seq ?_
      refine WP.seq ?_
      refine WP.region ?_
      refine WPl.v rfl (o_ldpa G28 rfl rfl rfl) ?_
      refine WPl.v rfl (o_move rfl) ?_
      refine WPl.cs 8 rfl rfl rfl rfl (o_sig 8 (ren [(0, 0), (1, 1)]) (c20 s add hs) e20 rfl rfl rfl w20 ⟨(lx rfl), (lx rfl), trivial⟩ r20) ?_
      refine WPl.v rfl (o_not rfl) ?_
      refine WPl.nil ?_
      refine EX.then ?_
      refine WP.cond rfl (fun hc4 => ?_) (fun hc4 => ?_)
      · try simp only [decide_eq_true_eq, decide_eq_false_iff_not, Bool.and_eq_true, Bool.or_eq_true, Bool.and_eq_false_iff, Bool.or_eq_false_iff, Bool.not_eq_true', Bool.not_eq_false', ne_eq, Decidable.not_not] at hc4
        refine WP.seq ?_
        refine WP.region ?_
        refine WPl.cs 8 rfl rfl rfl rfl (o_sig 8 id c17 e17 rfl rfl rfl w17 trivial r17) ?_
        refine WPl.v rfl (o_assign rfl) ?_
        refine WPl.nil ?_
        refine EX.then ?_
        refine WP.ret ?_
        refine EX.ret_then ?_
        exact EX.fin id (.inl rfl) rfl (.tmp rfl .nil) rfl r7 trivial (by simp) (by simp)
      · try simp only [decide_eq_true_eq, decide_eq_false_iff_not, Bool.and_eq_true, Bool.or_eq_true, Bool.and_eq_false_iff, Bool.or_eq_false_iff, Bool.not_eq_true', Bool.not_eq_false', ne_eq, Decidable.not_not] at hc4
        have hv : isAdd s add = true := (by simpa using hc4 : (add.length : Int) ≤ 40 ∧ isAdd s add = true).2
        have hv2 : isAdd s.turned add = true := by rw [law.a]; exact hv
        refine WP.skip ?_
        refine EX.then ?_
        refine WP.seq ?_
        refine WP.region ?_
        refine WPl.v rfl (o_ldpa G28 rfl rfl rfl) ?_
        refine WPl.v rfl (o_move rfl) ?_
        refine WPl.cs 8 rfl rfl rfl rfl (o_sig 8 (ren [(0, 0), (1, 1)]) (c21 s add hs hv) e21 rfl rfl rfl w21 ⟨(lx rfl), (lx rfl), trivial⟩ r21) ?_
        refine WPl.v rfl (o_move rfl) ?_
        refine WPl.v rfl (o_extract rfl rfl) ?_
        refine WPl.v rfl (o_extract rfl rfl) ?_
        refine WPl.v rfl (o_assign rfl) ?_
        refine WPl.v rfl (o_assign rfl) ?_
        refine WPl.nil ?_
        refine EX.then ?_
        refine WP.seq ?_
        refine WP.region ?_
        refine WPl.v rfl (o_ldpa G28 rfl rfl rfl) ?_
        refine WPl.v rfl (o_move rfl) ?_
        refine WPl.cs 8 rfl rfl rfl rfl (o_sigbc 8 (ren [(0, 4), (1, 1)]) (Sig.free (c21 s.turned add ho hv2)) e21 rfl rfl SvsOK.rf w21 ⟨.own rfl rfl, .x (lx rfl), trivial⟩ r21) ?_
        refine WPl.v rfl (o_move rfl) ?_
        refine WPl.v rfl (o_extract rfl rfl) ?_
        refine WPl.v rfl (o_extract rfl rfl) ?_
        refine WPl.v rfl (o_assign rfl) ?_
        refine WPl.v rfl (o_assign rfl) ?_
        refine WPl.nil ?_
        refine EX.then ?_
        refine WP.seq ?_
        refine WP.region ?_
        refine WPl.v rfl (o_move rfl) ?_
        refine WPl.v rfl (o_move rfl) ?_
        refine WPl.on rfl ⟨_, _, rfl, rfl, rfl⟩ (o_move rfl) ?_
        refine WPl.v rfl (o_pickT rfl rfl) ?_
        refine WPl.v rfl (o_move rfl) ?_
        refine WPl.on rfl ⟨_, _, rfl, rfl, rfl⟩ (o_move rfl) ?_
        refine WPl.on rfl ⟨_, _, rfl, rfl, rfl⟩ (o_move rfl) ?_
        refine WPl.on rfl ⟨_, _, rfl, rfl, rfl⟩ (o_eql rfl rfl) ?_
        refine WPl.imp (Imp.bitF 166 (b' := true) rfl (decide_eq_true (law.f hv).symm)) ?_
        refine WPl.v rfl (o_pickT rfl rfl) ?_
        refine WPl.v rfl (o_move rfl) ?_
        refine WPl.ung ⟨_, _, rfl, rfl, rfl⟩ ?_
        refine WPl.cs 8 rfl rfl rfl rfl (o_sig 8 id c17 e17 rfl rfl rfl w17 trivial r17) ?_
        refine WPl.v rfl (o_pickT rfl rfl) ?_
        refine WPl.v rfl (o_assign rfl) ?_
        refine WPl.nil ?_
        refine EX.then ?_
        refine WP.ret ?_
        exact EX.fin id (.inl rfl) rfl (.tmp rfl .nil) rfl r7 trivial (by simp) (by simp)
end Go.Flong
