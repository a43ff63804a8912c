/- Part 4 of the texts behind the claim: QM3 MR1 QR1 QSO QM4 QM5 Base7 Base8 QL1 MB7 QLM1 Base10 LawA LawB LawM1 LawM2 MB8 EngZe MB10 MB11 MB12 QLM8. -/
import Derived.Test.YtgdaeapahfjobaaZD3
set_option linter.unusedSimpArgs false
set_option linter.unusedVariables false
namespace Go.Flong
open Go Go.Eng Go.Proofs
theorem e70 : Enters' Try.prog 70 := Try.call70
theorem e93 : Enters' Try.prog 93 := Try.call93
theorem e94 : Enters' Try.prog 94 := Try.call94
theorem e75 : Enters' Try.prog 75 := Try.call75
theorem w22 {s : Shop} {add : List Int} : ∀ x ∈ ([.e (.g [ai (s.pounds), ai (s.tl), ai (s.th), ai (s.al), ai (s.ah), ai (s.room), ai (s.tpl), ai (s.tph), ai (s.apl), ai (s.aph), .q 0]), .e (.a (.q 1))] : List SV), x.res (keys (α := Pred) [(0, PL EPig (s.pigs)), (1, PL EP.int (add))]) := by simp [SV.res, El.res, At.res, keys]
theorem r22 {s : Shop} {add : List Int} : SV.res (keys (α := Pred) [(0, PL EP.int (s.mFails add))]) (.t [.a (.q 0), .a (ai (opE s (isAdd s add)))]) := by simp [SV.res, El.res, At.res, keys]
set_option maxHeartbeats 4000000 in
theorem c22 (s : Shop) (add : List Int) (hl : s.pigs.length ≤ 40) : Sig Try.prog 22 [.e (.g [ai (s.pounds), ai (s.tl), ai (s.th), ai (s.al), ai (s.ah), ai (s.room), ai (s.tpl), ai (s.tph), ai (s.apl), ai (s.aph), .q 0]), .e (.a (.q 1))] [(0, PL EPig (s.pigs)), (1, PL EP.int (add))] (.t [.a (.q 0), .a (ai (opE s (isAdd s add)))]) [(0, PL EP.int (s.mFails add))] := by
  rcases Bool.eq_false_or_eq_true s.chk with hf | hf
  · skip
    refine Sig.intro Try.func22 rfl 2 [(0, .e (.g [ai (s.pounds), ai (s.tl), ai (s.th), ai (s.al), ai (s.ah), ai (s.room), ai (s.tpl), ai (s.tph), ai (s.apl), ai (s.aph), .q 0])), (1, .e (.a (.q 1)))] rfl w22 rfl rfl fun I w => ?_
    refine WP.seq ?_
    refine WP.region ?_
    refine WPl.l 2 3 rfl rfl rfl (o_boxg rfl) ?_
    refine WPl.l 3 4 rfl rfl rfl (o_boxa rfl (.inl ⟨_, (lx rfl), PL.one⟩)) ?_
    refine WPl.v rfl (o_assign rfl) ?_
    refine WPl.v rfl (o_assign rfl) ?_
    refine WPl.nil ?_
    refine EX.then ?_
    refine WP.seq ?_
    refine WP.region ?_
    refine WPl.v rfl (o_ldpa G28 rfl rfl rfl) ?_
    refine WPl.imp (Imp.frzb (E := EP.box (PL EP.int (add))) (y := ()) 3 4 5 rfl rfl (bok_box (lx rfl)) rfl rfl rfl) ?_
    refine WPl.x 5 6 rfl rfl rfl (o_mkfv (svs := [.e (.g [ai (s.pounds), ai (s.tl), ai (s.th), ai (s.al), ai (s.ah), ai (s.room), ai (s.tpl), ai (s.tph), ai (s.apl), ai (s.aph), .q 0])]) (X0 := [(0, PL EPig (s.pigs))]) (sv := .b ((isAdd s add))) (X := []) (cs := [.e (.a (.q 1))]) (Xc := [(1, PP (EP.box (PL EP.int (add))) ())]) 5 (ren [(1, 4)]) (c70 s add hf) e70 rfl rfl SvsOK.rf (by simp [SV.res, El.res, At.res, keys]) (by simp [SV.res, El.res, At.res, keys]) ⟨(lx rfl), trivial⟩) ?_
    refine WPl.cs 7 rfl rfl rfl rfl (o_sig 6 (ren [(0, 0), (1, 5)]) (c69C s (isAdd s add) hf) e69 rfl rfl rfl w69C ⟨(lx rfl), (lx rfl), trivial⟩ r69C) ?_
    refine WPl.v rfl (o_move rfl) ?_
    refine WPl.v rfl (o_extract rfl rfl) ?_
    refine WPl.v rfl (o_extract rfl rfl) ?_
    refine WPl.l 7 8 rfl rfl rfl (o_alloc Z78) ?_
    refine WPl.s1 (o_stag G78 rfl rfl rfl ⟨rfl, rfl, rfl, rfl, rfl, rfl, rfl, rfl, rfl, rfl, (.inl ⟨_, (lx rfl), PL.one⟩), trivial⟩ rfl rfl) ?_
    refine WPl.v rfl (o_assign rfl) ?_
    refine WPl.nil ?_
    refine EX.then ?_
    refine WP.seq ?_
    refine WP.seq ?_
    refine WP.region ?_
    refine WPl.v rfl (o_move rfl) ?_
    refine WPl.v rfl (o_neq rfl rfl) ?_
    refine WPl.nil ?_
    refine EX.then ?_
    refine WP.cond rfl (fun hc1 => ?_) (fun hc1 => ?_)
    · try simp only [decide_eq_true_eq, decide_eq_false_iff_not, Bool.and_eq_true, Bool.or_eq_true, Bool.and_eq_false_iff, Bool.or_eq_false_iff, Bool.not_eq_true', Bool.not_eq_false', ne_eq, Decidable.not_not] at hc1
      refine WP.seq ?_
      refine WP.region ?_
      refine WPl.v rfl (o_move rfl) ?_
      refine WPl.v rfl (o_assign rfl) ?_
      refine WPl.v rfl (o_assign rfl) ?_
      refine WPl.nil ?_
      refine EX.then ?_
      refine WP.ret ?_
      refine EX.ret_then ?_
      refine EX.imp (Imp.nam 8 9 (.slice none 0 0) (R := PN EP.int) pn_ok rfl rfl) ?_
      refine EX.imp (Imp.swF 4 8 rfl (lxr rfl)) ?_
      have hE : opE s (isAdd s add) = opV (isAdd s add) := opE_t hf _
      have hv : isAdd s add = false := opV_ne.1 (by simpa using hc1)
      rw [hE, show s.mFails add = [] from by unfold Shop.mFails; rw [hE, hv]; rfl]
      exact EX.fin (ren [(0, 8)]) (.inl rfl) rfl (.tmp rfl (.tmp rfl .nil)) rfl (by simp [SV.res, El.res, At.res, keys]) ⟨lxl rfl, trivial⟩ (by simp) (by simp)
    · try simp only [decide_eq_true_eq, decide_eq_false_iff_not, Bool.and_eq_true, Bool.or_eq_true, Bool.and_eq_false_iff, Bool.or_eq_false_iff, Bool.not_eq_true', Bool.not_eq_false', ne_eq, Decidable.not_not] at hc1
      have hE : opE s (isAdd s add) = 0 := (opE_t hf _).trans (by simpa using hc1)
      have hv : isAdd s add = true := opV_eq.1 (by simpa using hc1)
      have hpg := Shop.pigsOK hf
      have had := isAddB hpg hv
      have hab := aft_bnd hf (by omega) had.2.2
      refine WP.skip ?_
      refine EX.then ?_
      refine WP.seq ?_
      refine WP.region ?_
      refine WPl.l 8 9 rfl rfl rfl (o_alloc Z29) ?_
      refine WPl.nil ?_
      refine EX.then ?_
      refine WP.seq ?_
      refine WP.block ?_
      refine WP.leR (S' := ⟨9, [(3, .e (.a (.q 4))), (4, .e (.a (.v (.slice none 0 0)))), (5, .i (0)), (6, .e (.a (.p 7 (0)))), (8, .e (.a (.p 8 (0))))], [(4, PP (EP.box (PL EP.int (add))) ()), (6, PL EPig (s.pigs))], [(7, .blk [ai (s.pounds), ai (s.tl), ai (s.th), ai (s.al), ai (s.ah), ai (s.room), ai (s.tpl), ai (s.tph), ai (s.apl), ai (s.aph), .q 6] 78), (8, .blk [.v (.slice none 0 0)] 29)], [], []⟩) id (LeR.of ⟨rfl, rfl, rfl, rfl, rfl, trivial⟩ ⟨(lx rfl), (lx rfl), trivial⟩ ⟨rfl, rfl, trivial⟩ rfl rfl rfl rfl rfl) ?_
      refine WP.imp (Imp.namo EP.int 9 10 3 rfl rfl) ?_
      refine WP.imp (Imp.swL 8 0 9 rfl rfl (lx rfl)) ?_
      refine WP.rangeV 13 0 (4) (fun g => ⟨[.i ((g : Int) + 1)], [], []⟩) (fun g => ⟨13, [(3, .e (.a (.q 4))), (4, .e (.a (.v (.slice none 0 0)))), (5, .i (0)), (6, .e (.a (.p 7 (0)))), (8, .e (.a (.p 8 (0))))], [(4, PP (EP.box (PL EP.int (add))) ()), (6, PL EPig (s.pigs)), (9, Pred.is (.slice none 0 0))], [(7, .blk [ai (s.pounds), ai (s.tl), ai (s.th), ai (s.al), ai (s.ah), ai (s.room), ai (s.tpl), ai (s.tph), ai (s.apl), ai (s.aph), .q 6] 78), (8, .blk [.q 12] 29), (10, .ob (.deferred (some []))), (12, .own 3 EP.int.size (s.mFailsTo add g).length (RP EP.int (s.mFailsTo add g)))], [10], []⟩) (fun _ _ => False) rfl (fv := .e (.a (.f 72 [])))  rfl (SigI.hit c72 e72) (rfl) (fun _ => RSt.of rfl rfl rfl rfl rfl rfl) (fun _ _ h => h.elim) rfl rfl rfl (fun _ _ => ItemOK.of rfl) rfl rfl (ren [(12, 9)]) (LeR.of ⟨rfl, rfl, rfl, rfl, rfl, trivial⟩ ⟨(lx rfl), (lx rfl), (lx rfl), trivial⟩ ⟨rfl, rfl, rfl, rfl, trivial⟩ rfl rfl rfl rfl rfl) ?_ ?_ ?_
      · intro g hg w1 E1 I1 R1 pβ1 pν1 us1
        refine WP.region ?_
        refine WPl.v rfl (o_assign rfl) ?_
        refine WPl.nil ?_
        refine EX.beg rfl ?_
        refine WP.block ?_
        refine WP.seq ?_
        refine WP.draw (nf := 14) [⟨[21, 22, 23, 24], [13], [], [], []⟩, ⟨[20, 22, 24], [13], [], [], []⟩, ⟨[20, 21, 24], [], [13], [13], []⟩, ⟨[20, 24], [], [], [], [1, 2]⟩, ⟨[20, 21, 22, 23], [13], [], [], []⟩, ⟨[], [], [], [], [0, 1, 2, 3, 4]⟩] (by kernel_rfl) (by kernel_rfl) ?_
        refine DRQ.v rfl rfl rfl (o_ldpa G78 rfl rfl rfl) ?_
        refine DRQ.v rfl rfl rfl (o_ldpa G78 rfl rfl rfl) ?_
        refine DRQ.x 13 rfl rfl rfl rfl (o_ldqx S29 rfl (lx rfl) boxx) ?_
        refine DRQ.cs rfl rfl rfl rfl (o_sig 14 (ren [(0, 6), (1, 13)]) (c74 s add hf (by omega) had.2.2) e74 rfl rfl rfl w74 ⟨(lx rfl), (lx rfl), trivial⟩ r74) ?_
        refine DRQ.v rfl rfl rfl (o_move rfl) ?_
        refine DRQ.cs rfl rfl rfl rfl (o_sig 14 (ren [(0, 6)]) (c73 s (s.aft add) ((g : Int) + 1) hf hab) e73 rfl rfl rfl w73 ⟨(lx rfl), trivial⟩ r73) ?_
        refine DRQ.nil' ?_
        refine EX.then ?_
        refine WP.cond rfl (fun hc2 => ?_) (fun hc2 => ?_)
        · try simp only [decide_eq_true_eq, decide_eq_false_iff_not, Bool.and_eq_true, Bool.or_eq_true, Bool.and_eq_false_iff, Bool.or_eq_false_iff, Bool.not_eq_true', Bool.not_eq_false', ne_eq, Decidable.not_not] at hc2
          refine WP.region ?_
          refine WPl.v rfl (o_ldp S29 rfl rfl rfl) ?_
          refine WPl.v rfl (o_move rfl) ?_
          refine WPl.u1 (k := 14) (m := 15) rfl rfl rfl (OpG.newer0 (o_bsl (E := EP.int) (l := [(g : Int) + 1]) R29 rfl rfl (.cons (rfl) rfl (eok_int) (.nil)) rfl rfl)) ?_
          have hwg := mFailsTo_len s add g
          refine WPl.u1 (k := 15) (m := 16) rfl rfl rfl (o_appo R29 EP.int_one rfl rfl rfl rfl (by first | omega | (simp; omega) | (simp at *; omega)) (by first | omega | (simp; omega) | (simp at *; omega))) ?_
          refine WPl.s1 (o_sta S29 rfl rfl rfl (.inr ⟨_, _, _, _, rfl⟩) rfl) ?_
          refine WPl.nil ?_
          refine EX.blk ?_
          exact EX.next (ren [(12, 15)]) (LeR.of trivial ⟨(lx rfl), (lx rfl), (lx rfl), trivial⟩ ⟨rfl, rfl, rfl, rfl, (congrArg (fun z => some (Ent.own 3 EP.int.size (List.length z) (RP EP.int z))) (show ((s.mFailsTo add g) ++ [(g : Int) + 1]) = ((fun g => s.mFailsTo add g) (g + 1)) from by simp [Shop.mFailsTo, hc2])), trivial⟩ rfl rfl rfl rfl rfl)
        · try simp only [decide_eq_true_eq, decide_eq_false_iff_not, Bool.and_eq_true, Bool.or_eq_true, Bool.and_eq_false_iff, Bool.or_eq_false_iff, Bool.not_eq_true', Bool.not_eq_false', ne_eq, Decidable.not_not] at hc2
          refine WP.skip ?_
          refine EX.blk ?_
          exact EX.next id (LeR.of trivial ⟨(lx rfl), (lx rfl), (lx rfl), trivial⟩ ⟨rfl, rfl, rfl, rfl, (congrArg (fun z => some (Ent.own 3 EP.int.size (List.length z) (RP EP.int z))) (show (s.mFailsTo add g) = ((fun g => s.mFailsTo add g) (g + 1)) from by simp [Shop.mFailsTo, hc2])), trivial⟩ rfl rfl rfl rfl rfl)
      · exact fun _ _ h => h.elim
      · skip
        refine EX.blk ?_
        refine EX.then ?_
        refine WP.seq ?_
        refine WP.region ?_
        refine WPl.v rfl (o_ldp S29 rfl rfl rfl) ?_
        refine WPl.v rfl (o_assign rfl) ?_
        refine WPl.v rfl (o_assign rfl) ?_
        refine WPl.nil ?_
        refine EX.then ?_
        refine WP.ret ?_
        refine EX.imp (Imp.frz (E := EP.int) (l := s.mFailsTo add 4) 12 rfl rfl) ?_
        rw [hE, show s.mFails add = s.mFailsTo add 4 from by unfold Shop.mFails; rw [hE]; rfl]
        exact EX.fin (ren [(0, 12)]) (.inl rfl) rfl (.tmp rfl (.tmp rfl .nil)) rfl (by simp [SV.res, El.res, At.res, keys]) ⟨(lx rfl), trivial⟩ (marks rfl) (by simp)
  · skip
    refine Sig.intro Try.func22 rfl 2 [(0, .e (.g [ai (s.pounds), ai (s.tl), ai (s.th), ai (s.al), ai (s.ah), ai (s.room), ai (s.tpl), ai (s.tph), ai (s.apl), ai (s.aph), .q 0])), (1, .e (.a (.q 1)))] rfl w22 rfl rfl fun I w => ?_
    refine WP.seq ?_
    refine WP.region ?_
    refine WPl.l 2 3 rfl rfl rfl (o_boxg rfl) ?_
    refine WPl.l 3 4 rfl rfl rfl (o_boxa rfl (.inl ⟨_, (lx rfl), PL.one⟩)) ?_
    refine WPl.v rfl (o_assign rfl) ?_
    refine WPl.v rfl (o_assign rfl) ?_
    refine WPl.nil ?_
    refine EX.then ?_
    refine WP.seq ?_
    refine WP.region ?_
    refine WPl.v rfl (o_ldpa G28 rfl rfl rfl) ?_
    refine WPl.imp (Imp.frzb (E := EP.box (PL EP.int (add))) (y := ()) 3 4 5 rfl rfl (bok_box (lx rfl)) rfl rfl rfl) ?_
    refine WPl.x 5 6 rfl rfl rfl (o_mkfn0 5 rfl) ?_
    refine WPl.cs 7 rfl rfl rfl rfl (o_sig 6 (ren [(0, 0), (1, 5)]) (c69CE s hf hl) e69 rfl rfl rfl w69CE ⟨(lx rfl), (lx rfl), trivial⟩ r69CE) ?_
    refine WPl.v rfl (o_move rfl) ?_
    refine WPl.v rfl (o_extract rfl rfl) ?_
    refine WPl.v rfl (o_extract rfl rfl) ?_
    refine WPl.l 7 8 rfl rfl rfl (o_alloc Z78) ?_
    refine WPl.s1 (o_stag G78 rfl rfl rfl ⟨rfl, rfl, rfl, rfl, rfl, rfl, rfl, rfl, rfl, rfl, (.inl ⟨_, (lx rfl), PL.one⟩), trivial⟩ rfl rfl) ?_
    refine WPl.v rfl (o_assign rfl) ?_
    refine WPl.nil ?_
    refine EX.then ?_
    refine WP.seq ?_
    refine WP.seq ?_
    refine WP.region ?_
    refine WPl.v rfl (o_move rfl) ?_
    refine WPl.v rfl (o_neq rfl rfl) ?_
    refine WPl.nil ?_
    refine EX.then ?_
    refine WP.cond rfl (fun hc1 => ?_) (fun hc1 => ?_)
    · try simp only [decide_eq_true_eq, decide_eq_false_iff_not, Bool.and_eq_true, Bool.or_eq_true, Bool.and_eq_false_iff, Bool.or_eq_false_iff, Bool.not_eq_true', Bool.not_eq_false', ne_eq, Decidable.not_not] at hc1
      refine WP.seq ?_
      refine WP.region ?_
      refine WPl.v rfl (o_move rfl) ?_
      refine WPl.v rfl (o_assign rfl) ?_
      refine WPl.v rfl (o_assign rfl) ?_
      refine WPl.nil ?_
      refine EX.then ?_
      refine WP.ret ?_
      refine EX.ret_then ?_
      refine EX.imp (Imp.nam 8 9 (.slice none 0 0) (R := PN EP.int) pn_ok rfl rfl) ?_
      refine EX.imp (Imp.swF 4 8 rfl (lxr rfl)) ?_
      have hE : opE s (isAdd s add) = 10 := opE_f hf _
      rw [hE, show s.mFails add = [] from by unfold Shop.mFails; rw [hE]; rfl]
      exact EX.fin (ren [(0, 8)]) (.inl rfl) rfl (.tmp rfl (.tmp rfl .nil)) rfl (by simp [SV.res, El.res, At.res, keys]) ⟨lxl rfl, trivial⟩ (by simp) (by simp)
    · try simp only [decide_eq_true_eq, decide_eq_false_iff_not, Bool.and_eq_true, Bool.or_eq_true, Bool.and_eq_false_iff, Bool.or_eq_false_iff, Bool.not_eq_true', Bool.not_eq_false', ne_eq, Decidable.not_not] at hc1
      simp at hc1
theorem w94 {a b c d : Int} : ∀ x ∈ ([.e (.g [ai (a), ai (b)]), .e (.g [ai (c), ai (d)])] : List SV), x.res (keys (α := Pred) []) := by simp [SV.res, El.res, At.res, keys]
theorem r94 {a b c d : Int} : SV.res (keys (α := Pred) []) (.e (.g [ai (a + c), ai (b + d)])) := by simp [SV.res, El.res, At.res, keys]
set_option maxHeartbeats 4000000 in
theorem c94 (a b c d : Int) (h1 : -1000000000 ≤ a ∧ a ≤ 1000000000) (h2 : -1000000000 ≤ b ∧ b ≤ 1000000000) (h3 : -1000000000 ≤ c ∧ c ≤ 1000000000) (h4 : -1000000000 ≤ d ∧ d ≤ 1000000000) : Sig Try.prog 94 [.e (.g [ai (a), ai (b)]), .e (.g [ai (c), ai (d)])] [] (.e (.g [ai (a + c), ai (b + d)])) [] := by
  refine Sig.intro Try.func94 rfl 0 [(0, .e (.g [ai (a), ai (b)])), (1, .e (.g [ai (c), ai (d)]))] rfl w94 rfl rfl fun I w => ?_
  refine WP.seq ?_
  refine WP.region ?_
  refine WPl.l 0 1 rfl rfl rfl (o_boxg rfl) ?_
  refine WPl.l 1 2 rfl rfl rfl (o_boxg rfl) ?_
  refine WPl.l 2 3 rfl rfl rfl (o_alloc Z23) ?_
  refine WPl.nil ?_
  refine EX.then ?_
  refine WP.seq ?_
  refine WP.region ?_
  refine WPl.v rfl (o_fldp F23_0 rfl) ?_
  refine WPl.v rfl (o_ldp S3 rfl rfl rfl) ?_
  refine WPl.v rfl (o_fldp F23_0 rfl) ?_
  refine WPl.v rfl (o_ldp S3 rfl rfl rfl) ?_
  refine WPl.v rfl (o_add rfl rfl (by first | omega | (simp; omega)) (by first | omega | (simp; omega))) ?_
  refine WPl.v rfl (o_fldp F23_1 rfl) ?_
  refine WPl.v rfl (o_ldp S3 rfl rfl rfl) ?_
  refine WPl.v rfl (o_fldp F23_1 rfl) ?_
  refine WPl.v rfl (o_ldp S3 rfl rfl rfl) ?_
  refine WPl.v rfl (o_add rfl rfl (by first | omega | (simp; omega)) (by first | omega | (simp; omega))) ?_
  refine WPl.v rfl (o_build B23 rfl ⟨rfl, rfl, trivial⟩ rfl rfl) ?_
  refine WPl.s1 (o_stag G23 rfl rfl rfl ⟨rfl, rfl, trivial⟩ rfl rfl) ?_
  refine WPl.nil ?_
  refine EX.then ?_
  refine WP.ret ?_
  exact EX.fin id (.inl rfl) rfl (.cellg G23 rfl rfl rfl (.nil)) rfl r94 trivial (by simp) (by simp)
theorem w93 {s : Shop} {p : Po} : ∀ x ∈ ([.e (.g [ai (s.pounds), ai (s.tl), ai (s.th), ai (s.al), ai (s.ah), ai (s.room), ai (s.tpl), ai (s.tph), ai (s.apl), ai (s.aph), .q 0]), .e (.a (.q 1))] : List SV), x.res (keys (α := Pred) [(0, PL EPig (s.pigs)), (1, PP EPo (p))]) := by simp [SV.res, El.res, At.res, keys]
set_option maxHeartbeats 4000000 in
theorem c93 (s : Shop) (p : Po) (hs : s.chk = true) : Sig Try.prog 93 [.e (.g [ai (s.pounds), ai (s.tl), ai (s.th), ai (s.al), ai (s.ah), ai (s.room), ai (s.tpl), ai (s.tph), ai (s.apl), ai (s.aph), .q 0]), .e (.a (.q 1))] [(0, PL EPig (s.pigs)), (1, PP EPo (p))] (.b (isMix s p)) [] := by
  have htb := tl_bnd hs
  refine Sig.intro Try.func93 rfl 2 [(0, .e (.g [ai (s.pounds), ai (s.tl), ai (s.th), ai (s.al), ai (s.ah), ai (s.room), ai (s.tpl), ai (s.tph), ai (s.apl), ai (s.aph), .q 0])), (1, .e (.a (.q 1)))] rfl w93 rfl rfl fun I w => ?_
  refine WP.seq ?_
  refine WP.region ?_
  refine WPl.l 2 3 rfl rfl rfl (o_boxg rfl) ?_
  refine WPl.v rfl (o_assign rfl) ?_
  refine WPl.nil ?_
  refine EX.then ?_
  refine WP.seq ?_
  refine WP.region ?_
  refine WPl.v rfl (o_ldqg G25 rfl (lx rfl) (strG rfl) rfl rfl) ?_
  refine WPl.cs 3 rfl rfl rfl rfl (o_sig 3 id (c84 p.pounds p.tl p.th p.al p.ah) e84 rfl rfl rfl w84 trivial r84) ?_
  refine WPl.v rfl (o_move rfl) ?_
  refine WPl.bit 3 4 (isPot p.pounds p.tl p.th p.al p.ah) rfl rfl ?_
  refine WPl.gv 3 rfl rfl (.plain rfl Iff.rfl rfl) (fun hb => o_fldp F78_0 rfl) ?_
  refine WPl.gv 3 rfl rfl (.plain rfl Iff.rfl rfl) (fun hb => o_fldp F28_0 rfl) ?_
  refine WPl.gv 3 rfl rfl (.plain rfl Iff.rfl rfl) (fun hb => o_fldp F25_0 rfl) ?_
  refine WPl.gv 3 rfl rfl (.plain rfl Iff.rfl rfl) (fun hb => o_ldp S3 rfl rfl rfl) ?_
  refine WPl.gv 3 rfl rfl (.plain rfl Iff.rfl rfl) (fun hb => o_fldq F25_0 rfl (lx rfl)) ?_
  refine WPl.gv 3 rfl rfl (.plain rfl Iff.rfl rfl) (fun hb => o_lde S3 rfl (lx rfl) (strI rfl)) ?_
  refine WPl.gv 3 rfl rfl (.plain rfl Iff.rfl rfl) (fun hb => o_add rfl rfl (by have := potB hb; omega) (by have := potB hb; omega)) ?_
  refine WPl.gv 3 rfl rfl (.plain rfl Iff.rfl rfl) (fun hb => o_fldp F78_0 rfl) ?_
  refine WPl.gv 3 rfl rfl (.plain rfl Iff.rfl rfl) (fun hb => o_fldp F28_1 rfl) ?_
  refine WPl.gv 3 rfl rfl (.plain rfl Iff.rfl rfl) (fun hb => o_ldp S3 rfl rfl rfl) ?_
  refine WPl.gv 3 rfl rfl (.plain rfl Iff.rfl rfl) (fun hb => o_leq rfl rfl) ?_
  refine WPl.v rfl (o_and rfl rfl rfl id) ?_
  refine WPl.v rfl (o_assign rfl) ?_
  refine WPl.nil ?_
  refine EX.then ?_
  refine WP.ret ?_
  rw [show isMix s p = (isPot p.pounds p.tl p.th p.al p.ah && decide (s.pounds + p.pounds ≤ s.room)) from rfl]
  exact EX.fin id (.inl rfl) rfl (.tmp rfl .nil) rfl (by simp [SV.res, El.res, At.res, keys]) trivial (by simp) (by simp)
theorem w53 {s : Shop} {p : Po} : ∀ x ∈ ([.e (.g [ai (s.pounds), ai (s.tl), ai (s.th), ai (s.al), ai (s.ah), ai (s.room), ai (s.tpl), ai (s.tph), ai (s.apl), ai (s.aph), .q 0]), .e (.g [ai (p.pounds), ai (p.tl), ai (p.th), ai (p.al), ai (p.ah)])] : List SV), x.res (keys (α := Pred) [(0, PL EPig (s.pigs))]) := by simp [SV.res, El.res, At.res, keys]
theorem r53 {s : Shop} {p : Po} : SV.res (keys (α := Pred) []) (.t [.g [ai ((s.mMix p).pounds), ai ((s.mMix p).tl), ai ((s.mMix p).th), ai ((s.mMix p).al), ai ((s.mMix p).ah)], .a (ai (opE s (isMix s p)))]) := by simp [SV.res, El.res, At.res, keys]
set_option maxHeartbeats 4000000 in
theorem c53 (s : Shop) (p : Po) (hl : s.pigs.length ≤ 40) : Sig Try.prog 53 [.e (.g [ai (s.pounds), ai (s.tl), ai (s.th), ai (s.al), ai (s.ah), ai (s.room), ai (s.tpl), ai (s.tph), ai (s.apl), ai (s.aph), .q 0]), .e (.g [ai (p.pounds), ai (p.tl), ai (p.th), ai (p.al), ai (p.ah)])] [(0, PL EPig (s.pigs))] (.t [.g [ai ((s.mMix p).pounds), ai ((s.mMix p).tl), ai ((s.mMix p).th), ai ((s.mMix p).al), ai ((s.mMix p).ah)], .a (ai (opE s (isMix s p)))]) [] := by
  rcases Bool.eq_false_or_eq_true s.chk with hf | hf
  · skip
    refine Sig.intro Try.func53 rfl 1 [(0, .e (.g [ai (s.pounds), ai (s.tl), ai (s.th), ai (s.al), ai (s.ah), ai (s.room), ai (s.tpl), ai (s.tph), ai (s.apl), ai (s.aph), .q 0])), (1, .e (.g [ai (p.pounds), ai (p.tl), ai (p.th), ai (p.al), ai (p.ah)]))] rfl w53 rfl rfl fun I w => ?_
    refine WP.seq ?_
    refine WP.region ?_
    refine WPl.l 1 2 rfl rfl rfl (o_boxg rfl) ?_
    refine WPl.l 2 3 rfl rfl rfl (o_boxg rfl) ?_
    refine WPl.l 3 4 rfl rfl rfl (o_alloc Z25) ?_
    refine WPl.v rfl (o_assign rfl) ?_
    refine WPl.nil ?_
    refine EX.then ?_
    refine WP.seq ?_
    refine WP.region ?_
    refine WPl.v rfl (o_ldpa G28 rfl rfl rfl) ?_
    refine WPl.imp (Imp.frzb (E := EPo) (y := p) 2 4 5 rfl rfl (bok_str ⟨rfl, rfl, rfl, rfl, rfl, trivial⟩) rfl rfl rfl) ?_
    refine WPl.x 5 6 rfl rfl rfl (o_mkfv (svs := [.e (.g [ai (s.pounds), ai (s.tl), ai (s.th), ai (s.al), ai (s.ah), ai (s.room), ai (s.tpl), ai (s.tph), ai (s.apl), ai (s.aph), .q 0])]) (X0 := [(0, PL EPig (s.pigs))]) (sv := .b ((isMix s p))) (X := []) (cs := [.e (.a (.q 1))]) (Xc := [(1, PP EPo (p))]) 5 (ren [(1, 4)]) (c93 s p hf) e93 rfl rfl SvsOK.rf (by simp [SV.res, El.res, At.res, keys]) (by simp [SV.res, El.res, At.res, keys]) ⟨(lx rfl), trivial⟩) ?_
    refine WPl.cs 7 rfl rfl rfl rfl (o_sig 6 (ren [(0, 0), (1, 5)]) (c69C s (isMix s p) hf) e69 rfl rfl rfl w69C ⟨(lx rfl), (lx rfl), trivial⟩ r69C) ?_
    refine WPl.v rfl (o_move rfl) ?_
    refine WPl.v rfl (o_extract rfl rfl) ?_
    refine WPl.v rfl (o_extract rfl rfl) ?_
    refine WPl.l 7 8 rfl rfl rfl (o_alloc Z78) ?_
    refine WPl.s1 (o_stag G78 rfl rfl rfl ⟨rfl, rfl, rfl, rfl, rfl, rfl, rfl, rfl, rfl, rfl, (.inl ⟨_, (lx rfl), PL.one⟩), trivial⟩ rfl rfl) ?_
    refine WPl.v rfl (o_assign rfl) ?_
    refine WPl.nil ?_
    refine EX.then ?_
    refine WP.seq ?_
    refine WP.seq ?_
    refine WP.region ?_
    refine WPl.v rfl (o_move rfl) ?_
    refine WPl.v rfl (o_neq rfl rfl) ?_
    refine WPl.nil ?_
    refine EX.then ?_
    refine WP.cond rfl (fun hc1 => ?_) (fun hc1 => ?_)
    · try simp only [decide_eq_true_eq, decide_eq_false_iff_not, Bool.and_eq_true, Bool.or_eq_true, Bool.and_eq_false_iff, Bool.or_eq_false_iff, Bool.not_eq_true', Bool.not_eq_false', ne_eq, Decidable.not_not] at hc1
      refine WP.seq ?_
      refine WP.region ?_
      refine WPl.v rfl (o_build B25 rfl trivial rfl rfl) ?_
      refine WPl.v rfl (o_move rfl) ?_
      refine WPl.s1 (o_stag G25 rfl rfl rfl ⟨rfl, rfl, rfl, rfl, rfl, trivial⟩ rfl rfl) ?_
      refine WPl.v rfl (o_assign rfl) ?_
      refine WPl.nil ?_
      refine EX.then ?_
      refine WP.ret ?_
      refine EX.ret_then ?_
      have hE : opE s (isMix s p) = opV (isMix s p) := opE_t hf _
      have hv : isMix s p = false := opV_ne.1 (by simpa using hc1)
      rw [hE, show s.mMix p = po0 from by unfold Shop.mMix; rw [hE, hv]; rfl]
      exact EX.fin id (.inl rfl) rfl (.cellg G25 rfl rfl rfl (.tmp rfl .nil)) rfl (by simp [SV.res, El.res, At.res, keys]) trivial (by simp) (by simp)
    · try simp only [decide_eq_true_eq, decide_eq_false_iff_not, Bool.and_eq_true, Bool.or_eq_true, Bool.and_eq_false_iff, Bool.or_eq_false_iff, Bool.not_eq_true', Bool.not_eq_false', ne_eq, Decidable.not_not] at hc1
      have hE : opE s (isMix s p) = 0 := (opE_t hf _).trans (by simpa using hc1)
      have hv : isMix s p = true := opV_eq.1 (by simpa using hc1)
      have hmb := isMixB hv
      have htb := tl_bnd hf
      refine WP.skip ?_
      refine EX.then ?_
      refine WP.seq ?_
      refine WP.draw (nf := 8) [⟨[22, 23, 25, 26, 27, 28, 29, 30, 31, 32, 33, 34, 35, 36, 37, 38], [], [], [], []⟩, ⟨[22, 23, 25, 26, 27, 28, 29, 30, 31, 32, 33, 34, 35, 36, 37, 38], [], [], [], [0]⟩, ⟨[22, 23, 25, 26, 27, 28, 29, 30, 31, 32, 33, 34, 35, 36, 37, 38], [], [], [], [0, 1]⟩, ⟨[22, 23, 25, 26, 27, 28, 29, 30, 31, 32, 33, 34, 35, 36, 37, 38], [], [], [], [0, 1, 2]⟩, ⟨[18, 19, 20, 21, 25, 26, 27, 28, 29, 30, 31, 32, 33, 34, 35, 36, 37, 38], [], [], [], []⟩, ⟨[18, 19, 20, 21, 25, 26, 27, 28, 29, 30, 31, 32, 33, 34, 35, 36, 37, 38], [], [], [], [4]⟩, ⟨[25, 26, 27, 28, 29, 30, 31, 32, 33, 34, 35, 36, 37, 38], [], [], [], [0, 1, 2, 3, 4, 5]⟩, ⟨[18, 19, 20, 21, 22, 23, 24, 29, 30, 32, 33, 34, 35, 36, 37], [], [], [], []⟩, ⟨[18, 19, 20, 21, 22, 23, 24, 29, 30, 32, 33, 34, 35, 36, 37], [], [], [], [7]⟩, ⟨[18, 19, 20, 21, 22, 23, 24, 29, 30, 32, 33, 34, 35, 36, 37], [], [], [], [7, 8]⟩, ⟨[18, 19, 20, 21, 22, 23, 24, 29, 30, 32, 33, 34, 35, 36, 37], [], [], [], [7, 8, 9]⟩, ⟨[18, 19, 20, 21, 22, 23, 24, 25, 26, 27, 28, 32, 33, 34, 35, 36, 37], [], [], [], []⟩, ⟨[18, 19, 20, 21, 22, 23, 24, 25, 26, 27, 28, 32, 33, 34, 35, 36, 37], [], [], [], [11]⟩, ⟨[18, 19, 20, 21, 22, 23, 24, 32, 33, 34, 35, 36, 37], [], [], [], [7, 8, 9, 10, 11, 12]⟩, ⟨[18, 19, 20, 21, 22, 23, 24, 25, 26, 27, 28, 29, 30, 31, 36, 37], [], [], [], []⟩, ⟨[18, 19, 20, 21, 22, 23, 24, 25, 26, 27, 28, 29, 30, 31, 36, 37], [], [], [], [14]⟩, ⟨[18, 19, 20, 21, 22, 23, 24, 25, 26, 27, 28, 29, 30, 31, 36, 37], [], [], [], [14, 15]⟩, ⟨[18, 19, 20, 21, 22, 23, 24, 25, 26, 27, 28, 29, 30, 31, 36, 37], [], [], [], [14, 15, 16]⟩, ⟨[18, 19, 20, 21, 22, 23, 24, 25, 26, 27, 28, 29, 30, 31, 32, 33, 34, 35], [], [], [], []⟩, ⟨[18, 19, 20, 21, 22, 23, 24, 25, 26, 27, 28, 29, 30, 31, 32, 33, 34, 35], [], [], [], [18]⟩, ⟨[18, 19, 20, 21, 22, 23, 24], [], [], [], [7, 8, 9, 10, 11, 12, 13, 14, 15, 16, 17, 18, 19]⟩, ⟨[], [], [], [], [0, 1, 2, 3, 4, 5, 6, 7, 8, 9, 10, 11, 12, 13, 14, 15, 16, 17, 18, 19, 20]⟩, ⟨[], [], [], [3], [0, 1, 2, 3, 4, 5, 6, 7, 8, 9, 10, 11, 12, 13, 14, 15, 16, 17, 18, 19, 20, 21]⟩, ⟨[], [], [], [], [0, 1, 2, 3, 4, 5, 6, 7, 8, 9, 10, 11, 12, 13, 14, 15, 16, 17, 18, 19, 20, 21, 22]⟩] (by kernel_rfl) (by kernel_rfl) ?_
      refine DRQ.v rfl rfl rfl (o_fldp F78_0 rfl) ?_
      refine DRQ.v rfl rfl rfl (o_fldp F28_0 rfl) ?_
      refine DRQ.v rfl rfl rfl (o_fldp F25_0 rfl) ?_
      refine DRQ.v rfl rfl rfl (o_ldp S3 rfl rfl rfl) ?_
      refine DRQ.v rfl rfl rfl (o_fldq F25_0 rfl (lx rfl)) ?_
      refine DRQ.v rfl rfl rfl (o_lde S3 rfl (lx rfl) (strI rfl)) ?_
      refine DRQ.v rfl rfl rfl (o_add rfl rfl (by first | omega | (simp; omega)) (by first | omega | (simp; omega))) ?_
      refine DRQ.v rfl rfl rfl (o_fldp F78_0 rfl) ?_
      refine DRQ.v rfl rfl rfl (o_fldp F28_0 rfl) ?_
      refine DRQ.v rfl rfl rfl (o_fldp F25_1 rfl) ?_
      refine DRQ.v rfl rfl rfl (o_ldpg G23 rfl rfl rfl) ?_
      refine DRQ.v rfl rfl rfl (o_fldq F25_1 rfl (lx rfl)) ?_
      refine DRQ.v rfl rfl rfl (o_ldeg G23 rfl (lx rfl) (strG rfl) rfl rfl) ?_
      refine DRQ.cs rfl rfl rfl rfl (o_sig 8 id (c94 s.tl s.th p.tl p.th (by omega) (by omega) (by omega) (by omega)) e94 rfl rfl rfl w94 trivial r94) ?_
      refine DRQ.v rfl rfl rfl (o_fldp F78_0 rfl) ?_
      refine DRQ.v rfl rfl rfl (o_fldp F28_0 rfl) ?_
      refine DRQ.v rfl rfl rfl (o_fldp F25_2 rfl) ?_
      refine DRQ.v rfl rfl rfl (o_ldpg G23 rfl rfl rfl) ?_
      refine DRQ.v rfl rfl rfl (o_fldq F25_2 rfl (lx rfl)) ?_
      refine DRQ.v rfl rfl rfl (o_ldeg G23 rfl (lx rfl) (strG rfl) rfl rfl) ?_
      refine DRQ.cs rfl rfl rfl rfl (o_sig 8 id (c94 s.al s.ah p.al p.ah (by omega) (by omega) (by omega) (by omega)) e94 rfl rfl rfl w94 trivial r94) ?_
      refine DRQ.v rfl rfl rfl (o_build B25 rfl ⟨rfl, trivial⟩ rfl rfl) ?_
      refine DRQ.s 3 rfl rfl rfl (o_stag G25 rfl rfl rfl ⟨rfl, rfl, rfl, rfl, rfl, trivial⟩ rfl rfl) ?_
      refine DRQ.v rfl rfl rfl (o_assign rfl) ?_
      refine DRQ.nil' ?_
      refine EX.then ?_
      refine WP.ret ?_
      rw [hE, show s.mMix p = s.mixP p from by unfold Shop.mMix; rw [hE]; rfl]
      exact EX.fin id (.inl rfl) rfl (.cellg G25 rfl rfl rfl (.tmp rfl .nil)) rfl (by simp [SV.res, El.res, At.res, keys]) trivial (by simp) (by simp)
  · skip
    refine Sig.intro Try.func53 rfl 1 [(0, .e (.g [ai (s.pounds), ai (s.tl), ai (s.th), ai (s.al), ai (s.ah), ai (s.room), ai (s.tpl), ai (s.tph), ai (s.apl), ai (s.aph), .q 0])), (1, .e (.g [ai (p.pounds), ai (p.tl), ai (p.th), ai (p.al), ai (p.ah)]))] rfl w53 rfl rfl fun I w => ?_
    refine WP.seq ?_
    refine WP.region ?_
    refine WPl.l 1 2 rfl rfl rfl (o_boxg rfl) ?_
    refine WPl.l 2 3 rfl rfl rfl (o_boxg rfl) ?_
    refine WPl.l 3 4 rfl rfl rfl (o_alloc Z25) ?_
    refine WPl.v rfl (o_assign rfl) ?_
    refine WPl.nil ?_
    refine EX.then ?_
    refine WP.seq ?_
    refine WP.region ?_
    refine WPl.v rfl (o_ldpa G28 rfl rfl rfl) ?_
    refine WPl.imp (Imp.frzb (E := EPo) (y := p) 2 4 5 rfl rfl (bok_str ⟨rfl, rfl, rfl, rfl, rfl, trivial⟩) rfl rfl rfl) ?_
    refine WPl.x 5 6 rfl rfl rfl (o_mkfn0 5 rfl) ?_
    refine WPl.cs 7 rfl rfl rfl rfl (o_sig 6 (ren [(0, 0), (1, 5)]) (c69CE s hf hl) e69 rfl rfl rfl w69CE ⟨(lx rfl), (lx rfl), trivial⟩ r69CE) ?_
    refine WPl.v rfl (o_move rfl) ?_
    refine WPl.v rfl (o_extract rfl rfl) ?_
    refine WPl.v rfl (o_extract rfl rfl) ?_
    refine WPl.l 7 8 rfl rfl rfl (o_alloc Z78) ?_
    refine WPl.s1 (o_stag G78 rfl rfl rfl ⟨rfl, rfl, rfl, rfl, rfl, rfl, rfl, rfl, rfl, rfl, (.inl ⟨_, (lx rfl), PL.one⟩), trivial⟩ rfl rfl) ?_
    refine WPl.v rfl (o_assign rfl) ?_
    refine WPl.nil ?_
    refine EX.then ?_
    refine WP.seq ?_
    refine WP.seq ?_
    refine WP.region ?_
    refine WPl.v rfl (o_move rfl) ?_
    refine WPl.v rfl (o_neq rfl rfl) ?_
    refine WPl.nil ?_
    refine EX.then ?_
    refine WP.cond rfl (fun hc1 => ?_) (fun hc1 => ?_)
    · try simp only [decide_eq_true_eq, decide_eq_false_iff_not, Bool.and_eq_true, Bool.or_eq_true, Bool.and_eq_false_iff, Bool.or_eq_false_iff, Bool.not_eq_true', Bool.not_eq_false', ne_eq, Decidable.not_not] at hc1
      refine WP.seq ?_
      refine WP.region ?_
      refine WPl.v rfl (o_build B25 rfl trivial rfl rfl) ?_
      refine WPl.v rfl (o_move rfl) ?_
      refine WPl.s1 (o_stag G25 rfl rfl rfl ⟨rfl, rfl, rfl, rfl, rfl, trivial⟩ rfl rfl) ?_
      refine WPl.v rfl (o_assign rfl) ?_
      refine WPl.nil ?_
      refine EX.then ?_
      refine WP.ret ?_
      refine EX.ret_then ?_
      have hE : opE s (isMix s p) = 10 := opE_f hf _
      rw [hE, show s.mMix p = po0 from by unfold Shop.mMix; rw [hE]; rfl]
      exact EX.fin id (.inl rfl) rfl (.cellg G25 rfl rfl rfl (.tmp rfl .nil)) rfl (by simp [SV.res, El.res, At.res, keys]) trivial (by simp) (by simp)
    · try simp only [decide_eq_true_eq, decide_eq_false_iff_not, Bool.and_eq_true, Bool.or_eq_true, Bool.and_eq_false_iff, Bool.or_eq_false_iff, Bool.not_eq_true', Bool.not_eq_false', ne_eq, Decidable.not_not] at hc1
      simp at hc1
theorem w27 {s : Shop} {add : List Int} : ∀ x ∈ ([.e (.g [ai (s.pounds), ai (s.tl), ai (s.th), ai (s.al), ai (s.ah), ai (s.room), ai (s.tpl), ai (s.tph), ai (s.apl), ai (s.aph), .q 0]), .e (.a (.q 1))] : List SV), x.res (keys (α := Pred) [(0, PL EPig (s.pigs)), (1, PL EP.int (add))]) := by simp [SV.res, El.res, At.res, keys]
theorem r27 {s : Shop} {add : List Int} : SV.res (keys (α := Pred) []) (.t [.g [ai ((s.mLead add).1), ai ((s.mLead add).2)], .a (ai (s.leadE add))]) := by simp [SV.res, El.res, At.res, keys]
set_option maxHeartbeats 4000000 in
theorem c27 (s : Shop) (add : List Int) (hl : s.pigs.length ≤ 40) : Sig Try.prog 27 [.e (.g [ai (s.pounds), ai (s.tl), ai (s.th), ai (s.al), ai (s.ah), ai (s.room), ai (s.tpl), ai (s.tph), ai (s.apl), ai (s.aph), .q 0]), .e (.a (.q 1))] [(0, PL EPig (s.pigs)), (1, PL EP.int (add))] (.t [.g [ai ((s.mLead add).1), ai ((s.mLead add).2)], .a (ai (s.leadE add))]) [] := by
  rcases Bool.eq_false_or_eq_true s.chk with hf | hf
  · skip
    refine Sig.intro Try.func27 rfl 2 [(0, .e (.g [ai (s.pounds), ai (s.tl), ai (s.th), ai (s.al), ai (s.ah), ai (s.room), ai (s.tpl), ai (s.tph), ai (s.apl), ai (s.aph), .q 0])), (1, .e (.a (.q 1)))] rfl w27 rfl rfl fun I w => ?_
    refine WP.seq ?_
    refine WP.region ?_
    refine WPl.l 2 3 rfl rfl rfl (o_boxg rfl) ?_
    refine WPl.l 3 4 rfl rfl rfl (o_boxa rfl (.inl ⟨_, (lx rfl), PL.one⟩)) ?_
    refine WPl.l 4 5 rfl rfl rfl (o_alloc Z23) ?_
    refine WPl.v rfl (o_assign rfl) ?_
    refine WPl.nil ?_
    refine EX.then ?_
    refine WP.seq ?_
    refine WP.region ?_
    refine WPl.v rfl (o_ldpa G28 rfl rfl rfl) ?_
    refine WPl.imp (Imp.frzb (E := EP.box (PL EP.int (add))) (y := ()) 3 5 6 rfl rfl (bok_box (lx rfl)) rfl rfl rfl) ?_
    refine WPl.x 6 7 rfl rfl rfl (o_mkfv (svs := [.e (.g [ai (s.pounds), ai (s.tl), ai (s.th), ai (s.al), ai (s.ah), ai (s.room), ai (s.tpl), ai (s.tph), ai (s.apl), ai (s.aph), .q 0])]) (X0 := [(0, PL EPig (s.pigs))]) (sv := .b ((isAdd s add))) (X := []) (cs := [.e (.a (.q 1))]) (Xc := [(1, PP (EP.box (PL EP.int (add))) ())]) 6 (ren [(1, 5)]) (c75 s add hf) e75 rfl rfl SvsOK.rf (by simp [SV.res, El.res, At.res, keys]) (by simp [SV.res, El.res, At.res, keys]) ⟨(lx rfl), trivial⟩) ?_
    refine WPl.cs 8 rfl rfl rfl rfl (o_sig 7 (ren [(0, 0), (1, 6)]) (c69C s (isAdd s add) hf) e69 rfl rfl rfl w69C ⟨(lx rfl), (lx rfl), trivial⟩ r69C) ?_
    refine WPl.v rfl (o_move rfl) ?_
    refine WPl.v rfl (o_extract rfl rfl) ?_
    refine WPl.v rfl (o_extract rfl rfl) ?_
    refine WPl.l 8 9 rfl rfl rfl (o_alloc Z78) ?_
    refine WPl.s1 (o_stag G78 rfl rfl rfl ⟨rfl, rfl, rfl, rfl, rfl, rfl, rfl, rfl, rfl, rfl, (.inl ⟨_, (lx rfl), PL.one⟩), trivial⟩ rfl rfl) ?_
    refine WPl.v rfl (o_assign rfl) ?_
    refine WPl.nil ?_
    refine EX.then ?_
    refine WP.seq ?_
    refine WP.seq ?_
    refine WP.region ?_
    refine WPl.v rfl (o_move rfl) ?_
    refine WPl.v rfl (o_neq rfl rfl) ?_
    refine WPl.nil ?_
    refine EX.then ?_
    refine WP.cond rfl (fun hc1 => ?_) (fun hc1 => ?_)
    · try simp only [decide_eq_true_eq, decide_eq_false_iff_not, Bool.and_eq_true, Bool.or_eq_true, Bool.and_eq_false_iff, Bool.or_eq_false_iff, Bool.not_eq_true', Bool.not_eq_false', ne_eq, Decidable.not_not] at hc1
      refine WP.seq ?_
      refine WP.region ?_
      refine WPl.v rfl (o_build B23 rfl trivial rfl rfl) ?_
      refine WPl.v rfl (o_move rfl) ?_
      refine WPl.s1 (o_stag G23 rfl rfl rfl ⟨rfl, rfl, trivial⟩ rfl rfl) ?_
      refine WPl.v rfl (o_assign rfl) ?_
      refine WPl.nil ?_
      refine EX.then ?_
      refine WP.ret ?_
      refine EX.ret_then ?_
      have hE : opE s (isAdd s add) = opV (isAdd s add) := opE_t hf _
      have hv : isAdd s add = false := opV_ne.1 (by simpa using hc1)
      have hLE : s.leadE add = opV (isAdd s add) := by unfold Shop.leadE; rw [hE, hv]; rfl
      rw [hLE, show s.mLead add = (0, 0) from by unfold Shop.mLead; rw [hLE, hv]; rfl]
      exact EX.fin id (.inl rfl) rfl (.cellg G23 rfl rfl rfl (.tmp rfl .nil)) rfl (by simp [SV.res, El.res, At.res, keys]) trivial (by simp) (by simp)
    · try simp only [decide_eq_true_eq, decide_eq_false_iff_not, Bool.and_eq_true, Bool.or_eq_true, Bool.and_eq_false_iff, Bool.or_eq_false_iff, Bool.not_eq_true', Bool.not_eq_false', ne_eq, Decidable.not_not] at hc1
      have hE : opE s (isAdd s add) = 0 := (opE_t hf _).trans (by simpa using hc1)
      have hv : isAdd s add = true := opV_eq.1 (by simpa using hc1)
      have hpg := Shop.pigsOK hf
      have had := isAddB hpg hv
      have hab := aft_bnd hf (by omega) had.2.2
      have hab2 := hab
      unfold PoB at hab2
      have htb := tl_bnd hf
      have hN : s.leadN (s.aft add) = (s.room - (s.aft add).pounds + 1).toNat := rfl
      have hrm : (s.aft add).pounds ≤ s.room := isAdd_room hv
      refine WP.skip ?_
      refine EX.then ?_
      refine WP.seq ?_
      refine WP.region ?_
      refine WPl.v rfl (o_build B23 rfl ⟨rfl, trivial⟩ rfl rfl) ?_
      refine WPl.l 9 10 rfl rfl rfl (o_alloc Z23) ?_
      refine WPl.s1 (o_stag G23 rfl rfl rfl ⟨rfl, rfl, trivial⟩ rfl rfl) ?_
      refine WPl.nil ?_
      refine EX.then ?_
      refine WP.seq ?_
      refine WP.seq ?_
      refine WP.region ?_
      refine WPl.v rfl (o_ldpa G78 rfl rfl rfl) ?_
      refine WPl.x 10 11 rfl rfl rfl (o_ldqx S29 rfl (lx rfl) boxx) ?_
      refine WPl.cs 11 rfl rfl rfl rfl (o_sig 11 (ren [(0, 7), (1, 10)]) (c74 s add hf (by omega) had.2.2) e74 rfl rfl rfl w74 ⟨(lx rfl), (lx rfl), trivial⟩ r74) ?_
      refine WPl.l 11 12 rfl rfl rfl (o_alloc Z25) ?_
      refine WPl.s1 (o_stag G25 rfl rfl rfl ⟨rfl, rfl, rfl, rfl, rfl, trivial⟩ rfl rfl) ?_
      refine WPl.nil ?_
      refine EX.then ?_
      refine WP.block ?_
      refine WP.loop (Gh := Nat) (fun i => ⟨12, [(3, .e (.a (.q 5))), (4, .e (.a (.p 4 (0)))), (5, .i (0)), (6, .e (.a (.p 8 (0)))), (8, .e (.a (.p 9 (0)))), (9, .e (.a (.p 11 (0))))], [(5, PP (EP.box (PL EP.int (add))) ()), (7, PL EPig (s.pigs))], [(4, .blk [ai (0), ai (0)] 23), (8, .blk [ai (s.pounds), ai (s.tl), ai (s.th), ai (s.al), ai (s.ah), ai (s.room), ai (s.tpl), ai (s.tph), ai (s.apl), ai (s.aph), .q 7] 78), (9, .blk [ai ((s.leadTo (s.aft add) i).1), ai ((s.leadTo (s.aft add) i).2)] 23), (11, .blk [ai (((s.aft add).lead (i : Int)).pounds), ai (((s.aft add).lead (i : Int)).tl), ai (((s.aft add).lead (i : Int)).th), ai (((s.aft add).lead (i : Int)).al), ai (((s.aft add).lead (i : Int)).ah)] 25)], [], []⟩) (fun i => i ≤ s.leadN (s.aft add)) (fun i => s.leadN (s.aft add) - i) (0) id ?_ (LeR.of ⟨rfl, rfl, rfl, rfl, rfl, rfl, trivial⟩ ⟨(lx rfl), (lx rfl), trivial⟩ ⟨rfl, rfl, rfl, (congrArg (fun z => some (Ent.blk z 25)) (List.cons_eq_cons.2 ⟨(congrArg (fun z => ai z) (show ((s.aft add).pounds) = ((fun i => ((s.aft add).lead (i : Int)).pounds) 0) from by simp [Po.lead])), (List.cons_eq_cons.2 ⟨(Eq.refl (ai ((s.aft add).tl))), (List.cons_eq_cons.2 ⟨(Eq.refl (ai ((s.aft add).th))), (List.cons_eq_cons.2 ⟨(Eq.refl (ai ((s.aft add).al))), (List.cons_eq_cons.2 ⟨(Eq.refl (ai ((s.aft add).ah))), (Eq.refl [])⟩)⟩)⟩)⟩)⟩)), trivial⟩ rfl rfl rfl rfl rfl) ?_
      · exact Nat.zero_le _
      intro i hφ
      have hiN : i ≤ s.leadN (s.aft add) := hφ
      have hlb := leadTo_bnd s (s.aft add) i
      have hpl : ((s.aft add).lead (i : Int)).pounds = (s.aft add).pounds + i := rfl
      refine WP.seq ?_
      refine WP.seq ?_
      refine WP.region ?_
      refine WPl.v rfl (o_fldp F25_0 rfl) ?_
      refine WPl.v rfl (o_ldp S3 rfl rfl rfl) ?_
      refine WPl.v rfl (o_fldp F78_0 rfl) ?_
      refine WPl.v rfl (o_fldp F28_1 rfl) ?_
      refine WPl.v rfl (o_ldp S3 rfl rfl rfl) ?_
      refine WPl.v rfl (o_leq rfl rfl) ?_
      refine WPl.nil ?_
      refine EX.then ?_
      refine WP.cond rfl (fun hc2 => ?_) (fun hc2 => ?_)
      · try simp only [decide_eq_true_eq, decide_eq_false_iff_not, Bool.and_eq_true, Bool.or_eq_true, Bool.and_eq_false_iff, Bool.or_eq_false_iff, Bool.not_eq_true', Bool.not_eq_false', ne_eq, Decidable.not_not] at hc2
        refine WP.skip ?_
        refine EX.then ?_
        refine WP.seq ?_
        refine WP.block ?_
        refine WP.seq ?_
        refine WP.draw (nf := 13) [⟨[37, 38, 39, 40], [12], [], [], []⟩, ⟨[37, 38, 39, 40], [12], [], [], [0]⟩, ⟨[35, 36, 38], [12], [], [], []⟩, ⟨[35, 36, 37], [], [12], [12], []⟩, ⟨[35, 36], [], [], [], [2, 3]⟩, ⟨[35, 36], [], [], [], [2, 3, 4]⟩, ⟨[], [], [], [], [0, 1, 2, 3, 4, 5]⟩, ⟨[], [], [], [], [0, 1, 2, 3, 4, 5, 6]⟩] (by kernel_rfl) (by kernel_rfl) ?_
        refine DRQ.v rfl rfl rfl (o_fldp F25_0 rfl) ?_
        refine DRQ.v rfl rfl rfl (o_ldp S3 rfl rfl rfl) ?_
        refine DRQ.v rfl rfl rfl (o_ldpa G78 rfl rfl rfl) ?_
        refine DRQ.x 12 rfl rfl rfl rfl (o_ldqx S29 rfl (lx rfl) boxx) ?_
        refine DRQ.cs rfl rfl rfl rfl (o_sig 13 (ren [(0, 7), (1, 12)]) (c74 s add hf (by omega) had.2.2) e74 rfl rfl rfl w74 ⟨(lx rfl), (lx rfl), trivial⟩ r74) ?_
        refine DRQ.v rfl rfl rfl (o_field Try.underlying25 rfl S3 rfl rfl) ?_
        refine DRQ.v rfl rfl rfl (o_sub rfl rfl (by first | omega | (simp; omega)) (by first | omega | (simp; omega))) ?_
        refine DRQ.v rfl rfl rfl (o_assign rfl) ?_
        refine DRQ.nil' ?_
        refine EX.then ?_
        refine WP.seq ?_
        refine WP.region ?_
        refine WPl.v rfl (o_ldpa G78 rfl rfl rfl) ?_
        refine WPl.v rfl (o_ldpa G25 rfl rfl rfl) ?_
        refine WPl.cs 13 rfl rfl rfl rfl (o_sig 13 (ren [(0, 7)]) (c76 s ((s.aft add).lead (i : Int)) hf (by unfold PoB Po.lead; simp only []; omega)) e76 rfl rfl rfl w76 ⟨(lx rfl), trivial⟩ r76) ?_
        refine WPl.nil ?_
        refine EX.then ?_
        refine WP.cond rfl (fun hc3 => ?_) (fun hc3 => ?_)
        · try simp only [decide_eq_true_eq, decide_eq_false_iff_not, Bool.and_eq_true, Bool.or_eq_true, Bool.and_eq_false_iff, Bool.or_eq_false_iff, Bool.not_eq_true', Bool.not_eq_false', ne_eq, Decidable.not_not] at hc3
          refine WP.seq ?_
          refine WP.seq ?_
          refine WP.region ?_
          refine WPl.v rfl (o_fldp F23_0 rfl) ?_
          refine WPl.v rfl (o_ldp S3 rfl rfl rfl) ?_
          refine WPl.v rfl (o_lss rfl rfl) ?_
          refine WPl.nil ?_
          refine EX.then ?_
          refine WP.cond rfl (fun hc4 => ?_) (fun hc4 => ?_)
          · try simp only [decide_eq_true_eq, decide_eq_false_iff_not, Bool.and_eq_true, Bool.or_eq_true, Bool.and_eq_false_iff, Bool.or_eq_false_iff, Bool.not_eq_true', Bool.not_eq_false', ne_eq, Decidable.not_not] at hc4
            refine WP.region ?_
            refine WPl.v rfl (o_move rfl) ?_
            refine WPl.v rfl (o_fldp F23_0 rfl) ?_
            refine WPl.s1 (o_sta S3 rfl rfl rfl rfl rfl) ?_
            refine WPl.nil ?_
            refine EX.then ?_
            refine WP.region ?_
            refine WPl.v rfl (o_move rfl) ?_
            refine WPl.v rfl (o_fldp F23_1 rfl) ?_
            refine WPl.s1 (o_sta S3 rfl rfl rfl rfl rfl) ?_
            refine WPl.nil ?_
            refine EX.blk ?_
            refine EX.then ?_
            refine WP.seq ?_
            refine WP.seq ?_
            refine WP.region ?_
            refine WPl.v rfl (o_ldpa G25 rfl rfl rfl) ?_
            refine WPl.nil ?_
            refine EX.then ?_
            refine WP.region ?_
            refine WPl.l 13 14 rfl rfl rfl (o_alloc Z25) ?_
            refine WPl.s1 (o_stag G25 rfl rfl rfl ⟨rfl, rfl, rfl, rfl, rfl, trivial⟩ rfl rfl) ?_
            refine WPl.nil ?_
            refine EX.then ?_
            refine WP.region ?_
            refine WPl.v rfl (o_fldp F25_0 rfl) ?_
            refine WPl.v rfl (o_ldp S3 rfl rfl rfl) ?_
            refine WPl.v rfl (o_add rfl rfl (by first | omega | (simp; omega)) (by first | omega | (simp; omega))) ?_
            refine WPl.v rfl (o_fldp F25_0 rfl) ?_
            refine WPl.s1 (o_sta S3 rfl rfl rfl rfl rfl) ?_
            refine WPl.nil ?_
            refine EX.again (i + 1) (ren [(11, 13)]) (by omega) (by omega) (LeR.of ⟨rfl, rfl, rfl, rfl, rfl, rfl, trivial⟩ ⟨(lx rfl), (lx rfl), trivial⟩ ⟨rfl, rfl, (congrArg (fun z => some (Ent.blk z 23)) (List.cons_eq_cons.2 ⟨(congrArg (fun z => ai z) (show ((((s.aft add).lead (i : Int)).pounds) - ((s.aft add).pounds)) = ((fun i => (s.leadTo (s.aft add) i).1) (i + 1)) from by first | (simp only [Shop.leadTo]; rw [if_pos hc3, if_pos hc4]; dsimp only; omega) | (simp only [Shop.leadTo]; rw [if_pos hc3, if_neg hc4]; done) | (simp only [Shop.leadTo]; rw [if_neg (by rw [hc3]; simp)]))), (List.cons_eq_cons.2 ⟨(congrArg (fun z => ai z) (show ((((s.aft add).lead (i : Int)).pounds) - ((s.aft add).pounds)) = ((fun i => (s.leadTo (s.aft add) i).2) (i + 1)) from by first | (simp only [Shop.leadTo]; rw [if_pos hc3]; dsimp only; omega) | (simp only [Shop.leadTo]; rw [if_neg (by rw [hc3]; simp)]))), (Eq.refl [])⟩)⟩)), (congrArg (fun z => some (Ent.blk z 25)) (List.cons_eq_cons.2 ⟨(congrArg (fun z => ai z) (show ((((s.aft add).lead (i : Int)).pounds) + 1) = ((fun i => ((s.aft add).lead (i : Int)).pounds) (i + 1)) from by simp only [Po.lead]; omega)), (List.cons_eq_cons.2 ⟨(Eq.refl (ai (((s.aft add).lead (i : Int)).tl))), (List.cons_eq_cons.2 ⟨(Eq.refl (ai (((s.aft add).lead (i : Int)).th))), (List.cons_eq_cons.2 ⟨(Eq.refl (ai (((s.aft add).lead (i : Int)).al))), (List.cons_eq_cons.2 ⟨(Eq.refl (ai (((s.aft add).lead (i : Int)).ah))), (Eq.refl [])⟩)⟩)⟩)⟩)⟩)), trivial⟩ rfl rfl rfl rfl rfl)
          · try simp only [decide_eq_true_eq, decide_eq_false_iff_not, Bool.and_eq_true, Bool.or_eq_true, Bool.and_eq_false_iff, Bool.or_eq_false_iff, Bool.not_eq_true', Bool.not_eq_false', ne_eq, Decidable.not_not] at hc4
            refine WP.skip ?_
            refine EX.then ?_
            refine WP.region ?_
            refine WPl.v rfl (o_move rfl) ?_
            refine WPl.v rfl (o_fldp F23_1 rfl) ?_
            refine WPl.s1 (o_sta S3 rfl rfl rfl rfl rfl) ?_
            refine WPl.nil ?_
            refine EX.blk ?_
            refine EX.then ?_
            refine WP.seq ?_
            refine WP.seq ?_
            refine WP.region ?_
            refine WPl.v rfl (o_ldpa G25 rfl rfl rfl) ?_
            refine WPl.nil ?_
            refine EX.then ?_
            refine WP.region ?_
            refine WPl.l 13 14 rfl rfl rfl (o_alloc Z25) ?_
            refine WPl.s1 (o_stag G25 rfl rfl rfl ⟨rfl, rfl, rfl, rfl, rfl, trivial⟩ rfl rfl) ?_
            refine WPl.nil ?_
            refine EX.then ?_
            refine WP.region ?_
            refine WPl.v rfl (o_fldp F25_0 rfl) ?_
            refine WPl.v rfl (o_ldp S3 rfl rfl rfl) ?_
            refine WPl.v rfl (o_add rfl rfl (by first | omega | (simp; omega)) (by first | omega | (simp; omega))) ?_
            refine WPl.v rfl (o_fldp F25_0 rfl) ?_
            refine WPl.s1 (o_sta S3 rfl rfl rfl rfl rfl) ?_
            refine WPl.nil ?_
            refine EX.again (i + 1) (ren [(11, 13)]) (by omega) (by omega) (LeR.of ⟨rfl, rfl, rfl, rfl, rfl, rfl, trivial⟩ ⟨(lx rfl), (lx rfl), trivial⟩ ⟨rfl, rfl, (congrArg (fun z => some (Ent.blk z 23)) (List.cons_eq_cons.2 ⟨(congrArg (fun z => ai z) (show ((s.leadTo (s.aft add) i).1) = ((fun i => (s.leadTo (s.aft add) i).1) (i + 1)) from by first | (simp only [Shop.leadTo]; rw [if_pos hc3, if_pos hc4]; dsimp only; omega) | (simp only [Shop.leadTo]; rw [if_pos hc3, if_neg hc4]; done) | (simp only [Shop.leadTo]; rw [if_neg (by rw [hc3]; simp)]))), (List.cons_eq_cons.2 ⟨(congrArg (fun z => ai z) (show ((((s.aft add).lead (i : Int)).pounds) - ((s.aft add).pounds)) = ((fun i => (s.leadTo (s.aft add) i).2) (i + 1)) from by first | (simp only [Shop.leadTo]; rw [if_pos hc3]; dsimp only; omega) | (simp only [Shop.leadTo]; rw [if_neg (by rw [hc3]; simp)]))), (Eq.refl [])⟩)⟩)), (congrArg (fun z => some (Ent.blk z 25)) (List.cons_eq_cons.2 ⟨(congrArg (fun z => ai z) (show ((((s.aft add).lead (i : Int)).pounds) + 1) = ((fun i => ((s.aft add).lead (i : Int)).pounds) (i + 1)) from by simp only [Po.lead]; omega)), (List.cons_eq_cons.2 ⟨(Eq.refl (ai (((s.aft add).lead (i : Int)).tl))), (List.cons_eq_cons.2 ⟨(Eq.refl (ai (((s.aft add).lead (i : Int)).th))), (List.cons_eq_cons.2 ⟨(Eq.refl (ai (((s.aft add).lead (i : Int)).al))), (List.cons_eq_cons.2 ⟨(Eq.refl (ai (((s.aft add).lead (i : Int)).ah))), (Eq.refl [])⟩)⟩)⟩)⟩)⟩)), trivial⟩ rfl rfl rfl rfl rfl)
        · try simp only [decide_eq_true_eq, decide_eq_false_iff_not, Bool.and_eq_true, Bool.or_eq_true, Bool.and_eq_false_iff, Bool.or_eq_false_iff, Bool.not_eq_true', Bool.not_eq_false', ne_eq, Decidable.not_not] at hc3
          refine WP.skip ?_
          refine EX.blk ?_
          refine EX.then ?_
          refine WP.seq ?_
          refine WP.seq ?_
          refine WP.region ?_
          refine WPl.v rfl (o_ldpa G25 rfl rfl rfl) ?_
          refine WPl.nil ?_
          refine EX.then ?_
          refine WP.region ?_
          refine WPl.l 13 14 rfl rfl rfl (o_alloc Z25) ?_
          refine WPl.s1 (o_stag G25 rfl rfl rfl ⟨rfl, rfl, rfl, rfl, rfl, trivial⟩ rfl rfl) ?_
          refine WPl.nil ?_
          refine EX.then ?_
          refine WP.region ?_
          refine WPl.v rfl (o_fldp F25_0 rfl) ?_
          refine WPl.v rfl (o_ldp S3 rfl rfl rfl) ?_
          refine WPl.v rfl (o_add rfl rfl (by first | omega | (simp; omega)) (by first | omega | (simp; omega))) ?_
          refine WPl.v rfl (o_fldp F25_0 rfl) ?_
          refine WPl.s1 (o_sta S3 rfl rfl rfl rfl rfl) ?_
          refine WPl.nil ?_
          refine EX.again (i + 1) (ren [(11, 13)]) (by omega) (by omega) (LeR.of ⟨rfl, rfl, rfl, rfl, rfl, rfl, trivial⟩ ⟨(lx rfl), (lx rfl), trivial⟩ ⟨rfl, rfl, (congrArg (fun z => some (Ent.blk z 23)) (List.cons_eq_cons.2 ⟨(congrArg (fun z => ai z) (show ((s.leadTo (s.aft add) i).1) = ((fun i => (s.leadTo (s.aft add) i).1) (i + 1)) from by first | (simp only [Shop.leadTo]; rw [if_pos hc3, if_pos hc4]; dsimp only; omega) | (simp only [Shop.leadTo]; rw [if_pos hc3, if_neg hc4]; done) | (simp only [Shop.leadTo]; rw [if_neg (by rw [hc3]; simp)]))), (List.cons_eq_cons.2 ⟨(congrArg (fun z => ai z) (show ((s.leadTo (s.aft add) i).2) = ((fun i => (s.leadTo (s.aft add) i).2) (i + 1)) from by first | (simp only [Shop.leadTo]; rw [if_pos hc3]; dsimp only; omega) | (simp only [Shop.leadTo]; rw [if_neg (by rw [hc3]; simp)]))), (Eq.refl [])⟩)⟩)), (congrArg (fun z => some (Ent.blk z 25)) (List.cons_eq_cons.2 ⟨(congrArg (fun z => ai z) (show ((((s.aft add).lead (i : Int)).pounds) + 1) = ((fun i => ((s.aft add).lead (i : Int)).pounds) (i + 1)) from by simp only [Po.lead]; omega)), (List.cons_eq_cons.2 ⟨(Eq.refl (ai (((s.aft add).lead (i : Int)).tl))), (List.cons_eq_cons.2 ⟨(Eq.refl (ai (((s.aft add).lead (i : Int)).th))), (List.cons_eq_cons.2 ⟨(Eq.refl (ai (((s.aft add).lead (i : Int)).al))), (List.cons_eq_cons.2 ⟨(Eq.refl (ai (((s.aft add).lead (i : Int)).ah))), (Eq.refl [])⟩)⟩)⟩)⟩)⟩)), trivial⟩ rfl rfl rfl rfl rfl)
      · try simp only [decide_eq_true_eq, decide_eq_false_iff_not, Bool.and_eq_true, Bool.or_eq_true, Bool.and_eq_false_iff, Bool.or_eq_false_iff, Bool.not_eq_true', Bool.not_eq_false', ne_eq, Decidable.not_not] at hc2
        refine WP.exit ?_
        refine EX.exit_then ?_
        refine EX.exit_then ?_
        refine EX.exit_blk ?_
        refine EX.then ?_
        refine WP.seq ?_
        refine WP.seq ?_
        refine WP.region ?_
        refine WPl.v rfl (o_fldp F23_0 rfl) ?_
        refine WPl.v rfl (o_ldp S3 rfl rfl rfl) ?_
        refine WPl.v rfl (o_lss rfl rfl) ?_
        refine WPl.nil ?_
        refine EX.then ?_
        refine WP.cond rfl (fun hc5 => ?_) (fun hc5 => ?_)
        · try simp only [decide_eq_true_eq, decide_eq_false_iff_not, Bool.and_eq_true, Bool.or_eq_true, Bool.and_eq_false_iff, Bool.or_eq_false_iff, Bool.not_eq_true', Bool.not_eq_false', ne_eq, Decidable.not_not] at hc5
          refine WP.seq ?_
          refine WP.region ?_
          refine WPl.v rfl (o_build B23 rfl trivial rfl rfl) ?_
          refine WPl.s1 (o_stag G23 rfl rfl rfl ⟨rfl, rfl, trivial⟩ rfl rfl) ?_
          refine WPl.v rfl (o_assign rfl) ?_
          refine WPl.nil ?_
          refine EX.then ?_
          refine WP.ret ?_
          refine EX.ret_then ?_
          have hend : i = s.leadN (s.aft add) := by omega
          subst hend
          have hLE : s.leadE add = 3 := by unfold Shop.leadE; rw [hE, if_pos rfl]; exact if_pos (by simpa using hc5)
          rw [hLE, show s.mLead add = (0, 0) from by unfold Shop.mLead; rw [hLE]; rfl]
          exact EX.fin id (.inl rfl) rfl (.cellg G23 rfl rfl rfl (.tmp rfl .nil)) rfl (by simp [SV.res, El.res, At.res, keys]) trivial (by simp) (by simp)
        · try simp only [decide_eq_true_eq, decide_eq_false_iff_not, Bool.and_eq_true, Bool.or_eq_true, Bool.and_eq_false_iff, Bool.or_eq_false_iff, Bool.not_eq_true', Bool.not_eq_false', ne_eq, Decidable.not_not] at hc5
          refine WP.skip ?_
          refine EX.then ?_
          refine WP.seq ?_
          refine WP.region ?_
          refine WPl.v rfl (o_ldpa G23 rfl rfl rfl) ?_
          refine WPl.s1 (o_stag G23 rfl rfl rfl ⟨rfl, rfl, trivial⟩ rfl rfl) ?_
          refine WPl.v rfl (o_assign rfl) ?_
          refine WPl.nil ?_
          refine EX.then ?_
          refine WP.ret ?_
          have hend : i = s.leadN (s.aft add) := by omega
          subst hend
          have hLE : s.leadE add = 0 := by unfold Shop.leadE; rw [hE, if_pos rfl]; exact if_neg (by simpa using hc5)
          rw [hLE, show s.mLead add = s.leadTo (s.aft add) (s.leadN (s.aft add)) from by unfold Shop.mLead; rw [hLE]; rfl]
          exact EX.fin id (.inl rfl) rfl (.cellg G23 rfl rfl rfl (.tmp rfl .nil)) rfl (by simp [SV.res, El.res, At.res, keys]) trivial (by simp) (by simp)
  · skip
    refine Sig.intro Try.func27 rfl 2 [(0, .e (.g [ai (s.pounds), ai (s.tl), ai (s.th), ai (s.al), ai (s.ah), ai (s.room), ai (s.tpl), ai (s.tph), ai (s.apl), ai (s.aph), .q 0])), (1, .e (.a (.q 1)))] rfl w27 rfl rfl fun I w => ?_
    refine WP.seq ?_
    refine WP.region ?_
    refine WPl.l 2 3 rfl rfl rfl (o_boxg rfl) ?_
    refine WPl.l 3 4 rfl rfl rfl (o_boxa rfl (.inl ⟨_, (lx rfl), PL.one⟩)) ?_
    refine WPl.l 4 5 rfl rfl rfl (o_alloc Z23) ?_
    refine WPl.v rfl (o_assign rfl) ?_
    refine WPl.nil ?_
    refine EX.then ?_
    refine WP.seq ?_
    refine WP.region ?_
    refine WPl.v rfl (o_ldpa G28 rfl rfl rfl) ?_
    refine WPl.imp (Imp.frzb (E := EP.box (PL EP.int (add))) (y := ()) 3 5 6 rfl rfl (bok_box (lx rfl)) rfl rfl rfl) ?_
    refine WPl.x 6 7 rfl rfl rfl (o_mkfn0 6 rfl) ?_
    refine WPl.cs 8 rfl rfl rfl rfl (o_sig 7 (ren [(0, 0), (1, 6)]) (c69CE s hf hl) e69 rfl rfl rfl w69CE ⟨(lx rfl), (lx rfl), trivial⟩ r69CE) ?_
    refine WPl.v rfl (o_move rfl) ?_
    refine WPl.v rfl (o_extract rfl rfl) ?_
    refine WPl.v rfl (o_extract rfl rfl) ?_
    refine WPl.l 8 9 rfl rfl rfl (o_alloc Z78) ?_
    refine WPl.s1 (o_stag G78 rfl rfl rfl ⟨rfl, rfl, rfl, rfl, rfl, rfl, rfl, rfl, rfl, rfl, (.inl ⟨_, (lx rfl), PL.one⟩), trivial⟩ rfl rfl) ?_
    refine WPl.v rfl (o_assign rfl) ?_
    refine WPl.nil ?_
    refine EX.then ?_
    refine WP.seq ?_
    refine WP.seq ?_
    refine WP.region ?_
    refine WPl.v rfl (o_move rfl) ?_
    refine WPl.v rfl (o_neq rfl rfl) ?_
    refine WPl.nil ?_
    refine EX.then ?_
    refine WP.cond rfl (fun hc1 => ?_) (fun hc1 => ?_)
    · try simp only [decide_eq_true_eq, decide_eq_false_iff_not, Bool.and_eq_true, Bool.or_eq_true, Bool.and_eq_false_iff, Bool.or_eq_false_iff, Bool.not_eq_true', Bool.not_eq_false', ne_eq, Decidable.not_not] at hc1
      refine WP.seq ?_
      refine WP.region ?_
      refine WPl.v rfl (o_build B23 rfl trivial rfl rfl) ?_
      refine WPl.v rfl (o_move rfl) ?_
      refine WPl.s1 (o_stag G23 rfl rfl rfl ⟨rfl, rfl, trivial⟩ rfl rfl) ?_
      refine WPl.v rfl (o_assign rfl) ?_
      refine WPl.nil ?_
      refine EX.then ?_
      refine WP.ret ?_
      refine EX.ret_then ?_
      have hE : opE s (isAdd s add) = 10 := opE_f hf _
      have hLE : s.leadE add = 10 := by unfold Shop.leadE; rw [hE]; rfl
      rw [hLE, show s.mLead add = (0, 0) from by unfold Shop.mLead; rw [hLE]; rfl]
      exact EX.fin id (.inl rfl) rfl (.cellg G23 rfl rfl rfl (.tmp rfl .nil)) rfl (by simp [SV.res, El.res, At.res, keys]) trivial (by simp) (by simp)
    · try simp only [decide_eq_true_eq, decide_eq_false_iff_not, Bool.and_eq_true, Bool.or_eq_true, Bool.and_eq_false_iff, Bool.or_eq_false_iff, Bool.not_eq_true', Bool.not_eq_false', ne_eq, Decidable.not_not] at hc1
      simp at hc1
end Go.Flong
namespace Go.Flong
open Go Go.Eng
theorem ask0 {s : Shop} {v : Bool} (h : errM s.chk ≠ 0) : opE s v = errM s.chk := by
  cases hc : s.chk with
  | true => rw [hc] at h; simp [errM] at h
  | false => rw [opE_f hc]; rfl
theorem ask1 {s : Shop} {v : Bool} (h : errM s.chk = 0) : opE s v = opV v := by
  cases hc : s.chk with
  | true => exact opE_t hc v
  | false => rw [hc] at h; simp [errM] at h
theorem opE_z {s : Shop} {v : Bool} (h : opE s v = 0) : s.chk = true ∧ v = true := by
  unfold opE at h
  cases hc : s.chk <;> cases v <;> simp_all
def knOf (so al : Int) : Int := if so = 0 then 2 else if so = al then 1 else 3
theorem safeP_keeps (s : Shop) (p : Po) : s.safeP p = (keeps1 s 1 p.pounds p.tl 0 && keeps1 s 2 p.pounds p.th 0 && keeps1 s 3 p.pounds 0 p.al && keeps1 s 4 p.pounds 0 p.ah) := by
  rw [Bool.eq_iff_iff]
  simp [Shop.safeP, allI, Shop.failsP, keeps1]
def Shop.leadR (s : Shop) (p : Po) : Nat → Int × Int
  | 0 => (-1, -1)
  | n + 1 => if s.safeP (p.lead (n : Int)) then (if (Shop.leadR s p n).1 < 0 then (n : Int) else (Shop.leadR s p n).1, (n : Int)) else Shop.leadR s p n
theorem leadR_eq (s : Shop) (p : Po) : ∀ n : Nat, (s.leadR p n).1 = (s.leadTo p n).1 ∧ (0 ≤ (s.leadR p n).1 → s.leadR p n = s.leadTo p n)
  | 0 => by simp [Shop.leadR, Shop.leadTo]
  | n + 1 => by
    obtain ⟨h1, h2⟩ := leadR_eq s p n
    simp only [Shop.leadR, Shop.leadTo]
    split
    · rw [h1]; exact ⟨rfl, fun _ => rfl⟩
    · exact ⟨h1, h2⟩
end Go.Flong
namespace Go.Flong
open Go Go.Eng Go.Proofs
theorem e39 : Enters' Try.prog 39 := Try.call39
theorem e68 : Enters' Try.prog 68 := Try.call68
theorem e110 : Enters' Try.prog 110 := Try.call110
theorem e48 : Enters' Try.prog 48 := Try.call48
theorem e77 : Enters' Try.prog 77 := Try.call77
theorem e49 : Enters' Try.prog 49 := Try.call49
theorem e83 : Enters' Try.prog 83 := Try.call83
theorem e28 : Enters' Try.prog 28 := Try.call28
theorem e50 : Enters' Try.prog 50 := Try.call50
theorem e29 : Enters' Try.prog 29 := Try.call29
theorem w110 {s : Shop} {v : Bool} : ∀ x ∈ ([.e (.g [ai (s.pounds), ai (s.tl), ai (s.th), ai (s.al), ai (s.ah), ai (s.room), ai (s.tpl), ai (s.tph), ai (s.apl), ai (s.aph), .q 0]), .b (v)] : List SV), x.res (keys (α := Pred) [(0, PL EPig (s.pigs))]) := by simp [SV.res, El.res, At.res, keys]
theorem r110 {s : Shop} {v : Bool} : SV.res (keys (α := Pred) []) (.i (opE s v)) := by simp [SV.res, El.res, At.res, keys]
set_option maxHeartbeats 4000000 in
theorem c110 (s : Shop) (v : Bool)  : Sig Try.prog 110 [.e (.g [ai (s.pounds), ai (s.tl), ai (s.th), ai (s.al), ai (s.ah), ai (s.room), ai (s.tpl), ai (s.tph), ai (s.apl), ai (s.aph), .q 0]), .b (v)] [(0, PL EPig (s.pigs))] (.i (opE s v)) [] := by
  refine Sig.intro Try.func110 rfl 1 [(0, .e (.g [ai (s.pounds), ai (s.tl), ai (s.th), ai (s.al), ai (s.ah), ai (s.room), ai (s.tpl), ai (s.tph), ai (s.apl), ai (s.aph), .q 0])), (1, .b (v))] rfl w110 rfl rfl fun I w => ?_
  refine WP.seq ?_
  refine WP.region ?_
  refine WPl.l 1 2 rfl rfl rfl (o_boxg rfl) ?_
  refine WPl.v rfl (o_assign rfl) ?_
  refine WPl.nil ?_
  refine EX.then ?_
  refine WP.seq ?_
  refine WP.seq ?_
  refine WP.region ?_
  refine WPl.v rfl (o_ldpa G28 rfl rfl rfl) ?_
  refine WPl.cs 2 rfl rfl rfl rfl (o_sig 2 (ren [(0, 0)]) (c39 s) e39 rfl rfl rfl w39 ⟨(lx rfl), trivial⟩ r39) ?_
  refine WPl.v rfl (o_assign rfl) ?_
  refine WPl.nil ?_
  refine EX.then ?_
  refine WP.seq ?_
  refine WP.region ?_
  refine WPl.v rfl (o_move rfl) ?_
  refine WPl.v rfl (o_neq rfl rfl) ?_
  refine WPl.nil ?_
  refine EX.then ?_
  refine WP.cond rfl (fun hc1 => ?_) (fun hc1 => ?_)
  · try simp only [decide_eq_true_eq, decide_eq_false_iff_not, Bool.and_eq_true, Bool.or_eq_true, Bool.and_eq_false_iff, Bool.or_eq_false_iff, Bool.not_eq_true', Bool.not_eq_false', ne_eq, Decidable.not_not] at hc1
    refine WP.seq ?_
    refine WP.region ?_
    refine WPl.v rfl (o_move rfl) ?_
    refine WPl.v rfl (o_assign rfl) ?_
    refine WPl.nil ?_
    refine EX.then ?_
    refine WP.ret ?_
    refine EX.ret_then ?_
    rw [show opE s v = errM s.chk from ask0 (by simpa using hc1)]
    exact EX.fin id (.inl rfl) rfl (.tmp rfl .nil) rfl (by simp [SV.res, El.res, At.res, keys]) trivial (by simp) (by simp)
  · try simp only [decide_eq_true_eq, decide_eq_false_iff_not, Bool.and_eq_true, Bool.or_eq_true, Bool.and_eq_false_iff, Bool.or_eq_false_iff, Bool.not_eq_true', Bool.not_eq_false', ne_eq, Decidable.not_not] at hc1
    refine WP.skip ?_
    refine EX.then ?_
    refine WP.seq ?_
    refine WP.seq ?_
    refine WP.region ?_
    refine WPl.v rfl (o_move rfl) ?_
    refine WPl.v rfl (o_not rfl) ?_
    refine WPl.nil ?_
    refine EX.then ?_
    refine WP.cond rfl (fun hc2 => ?_) (fun hc2 => ?_)
    · try simp only [decide_eq_true_eq, decide_eq_false_iff_not, Bool.and_eq_true, Bool.or_eq_true, Bool.and_eq_false_iff, Bool.or_eq_false_iff, Bool.not_eq_true', Bool.not_eq_false', ne_eq, Decidable.not_not] at hc2
      refine WP.seq ?_
      refine WP.region ?_
      refine WPl.v rfl (o_assign rfl) ?_
      refine WPl.nil ?_
      refine EX.then ?_
      refine WP.ret ?_
      refine EX.ret_then ?_
      rw [show opE s v = 1 from (ask1 (by simpa using hc1)).trans (by rw [show v = false by simpa using hc2]; rfl)]
      exact EX.fin id (.inl rfl) rfl (.tmp rfl .nil) rfl (by simp [SV.res, El.res, At.res, keys]) trivial (by simp) (by simp)
    · try simp only [decide_eq_true_eq, decide_eq_false_iff_not, Bool.and_eq_true, Bool.or_eq_true, Bool.and_eq_false_iff, Bool.or_eq_false_iff, Bool.not_eq_true', Bool.not_eq_false', ne_eq, Decidable.not_not] at hc2
      refine WP.skip ?_
      refine EX.then ?_
      refine WP.seq ?_
      refine WP.region ?_
      refine WPl.v rfl (o_assign rfl) ?_
      refine WPl.nil ?_
      refine EX.then ?_
      refine WP.ret ?_
      rw [show opE s v = 0 from (ask1 (by simpa using hc1)).trans (by rw [show v = true by simpa using hc2]; rfl)]
      exact EX.fin id (.inl rfl) rfl (.tmp rfl .nil) rfl (by simp [SV.res, El.res, At.res, keys]) trivial (by simp) (by simp)
theorem w83 {s : Shop} {add : List Int} : ∀ x ∈ ([.e (.g [ai (s.pounds), ai (s.tl), ai (s.th), ai (s.al), ai (s.ah), ai (s.room), ai (s.tpl), ai (s.tph), ai (s.apl), ai (s.aph), .q 0]), .e (.a (.q 1))] : List SV), x.res (keys (α := Pred) [(0, PL EPig (s.pigs)), (1, PL EP.int (add))]) := by simp [SV.res, El.res, At.res, keys]
theorem r83 {s : Shop} {add : List Int} : SV.res (keys (α := Pred) []) (.i (opE s (isAdd s add))) := by simp [SV.res, El.res, At.res, keys]
set_option maxHeartbeats 4000000 in
theorem c83 (s : Shop) (add : List Int)  : Sig Try.prog 83 [.e (.g [ai (s.pounds), ai (s.tl), ai (s.th), ai (s.al), ai (s.ah), ai (s.room), ai (s.tpl), ai (s.tph), ai (s.apl), ai (s.aph), .q 0]), .e (.a (.q 1))] [(0, PL EPig (s.pigs)), (1, PL EP.int (add))] (.i (opE s (isAdd s add))) [] := by
  refine Sig.intro Try.func83 rfl 2 [(0, .e (.g [ai (s.pounds), ai (s.tl), ai (s.th), ai (s.al), ai (s.ah), ai (s.room), ai (s.tpl), ai (s.tph), ai (s.apl), ai (s.aph), .q 0])), (1, .e (.a (.q 1)))] rfl w83 rfl rfl fun I w => ?_
  refine WP.seq ?_
  refine WP.region ?_
  refine WPl.l 2 3 rfl rfl rfl (o_boxg rfl) ?_
  refine WPl.v rfl (o_assign rfl) ?_
  refine WPl.nil ?_
  refine EX.then ?_
  refine WP.seq ?_
  refine WP.seq ?_
  refine WP.region ?_
  refine WPl.v rfl (o_ldpa G28 rfl rfl rfl) ?_
  refine WPl.cs 3 rfl rfl rfl rfl (o_sig 3 (ren [(0, 0)]) (c39 s) e39 rfl rfl rfl w39 ⟨(lx rfl), trivial⟩ r39) ?_
  refine WPl.v rfl (o_assign rfl) ?_
  refine WPl.nil ?_
  refine EX.then ?_
  refine WP.seq ?_
  refine WP.region ?_
  refine WPl.v rfl (o_move rfl) ?_
  refine WPl.v rfl (o_neq rfl rfl) ?_
  refine WPl.nil ?_
  refine EX.then ?_
  refine WP.cond rfl (fun hc1 => ?_) (fun hc1 => ?_)
  · try simp only [decide_eq_true_eq, decide_eq_false_iff_not, Bool.and_eq_true, Bool.or_eq_true, Bool.and_eq_false_iff, Bool.or_eq_false_iff, Bool.not_eq_true', Bool.not_eq_false', ne_eq, Decidable.not_not] at hc1
    refine WP.seq ?_
    refine WP.region ?_
    refine WPl.v rfl (o_move rfl) ?_
    refine WPl.v rfl (o_assign rfl) ?_
    refine WPl.nil ?_
    refine EX.then ?_
    refine WP.ret ?_
    refine EX.ret_then ?_
    rw [show opE s (isAdd s add) = errM s.chk from ask0 (by simpa using hc1)]
    exact EX.fin id (.inl rfl) rfl (.tmp rfl .nil) rfl (by simp [SV.res, El.res, At.res, keys]) trivial (by simp) (by simp)
  · try simp only [decide_eq_true_eq, decide_eq_false_iff_not, Bool.and_eq_true, Bool.or_eq_true, Bool.and_eq_false_iff, Bool.or_eq_false_iff, Bool.not_eq_true', Bool.not_eq_false', ne_eq, Decidable.not_not] at hc1
    have hs : s.chk = true := errM_eq.1 (by simpa using hc1)
    have hpg := Shop.pigsOK hs
    have htb := tl_bnd hs
    refine WP.skip ?_
    refine EX.then ?_
    refine WP.seq ?_
    refine WP.draw (nf := 3) [⟨[12, 13, 14], [], [], [], []⟩, ⟨[11, 13], [], [], [], []⟩, ⟨[11, 12], [], [], [], []⟩, ⟨[11], [], [], [], [1, 2]⟩, ⟨[], [], [], [], [0, 1, 2, 3]⟩, ⟨[], [], [], [], [0, 1, 2, 3, 4]⟩] (by kernel_rfl) (by kernel_rfl) ?_
    refine DRQ.v rfl rfl rfl (o_ldpa G28 rfl rfl rfl) ?_
    refine DRQ.v rfl rfl rfl (o_ldpa G28 rfl rfl rfl) ?_
    refine DRQ.v rfl rfl rfl (o_move rfl) ?_
    refine DRQ.cs rfl rfl rfl rfl (o_sig 3 (ren [(0, 0), (1, 1)]) (c68 s add hpg (by omega)) e68 rfl rfl rfl w68 ⟨(lx rfl), (lx rfl), trivial⟩ r68) ?_
    refine DRQ.cs rfl rfl rfl rfl (o_sig 3 (ren [(0, 0)]) (c110 s (isAdd s add)) e110 rfl rfl rfl w110 ⟨(lx rfl), trivial⟩ r110) ?_
    refine DRQ.v rfl rfl rfl (o_assign rfl) ?_
    refine DRQ.nil' ?_
    refine EX.then ?_
    refine WP.ret ?_
    exact EX.fin id (.inl rfl) rfl (.tmp rfl .nil) rfl r83 trivial (by simp) (by simp)
theorem w77 {a b n : Int} : ∀ x ∈ ([.e (.g [ai (a), ai (b)]), .i (n)] : List SV), x.res (keys (α := Pred) []) := by simp [SV.res, El.res, At.res, keys]
theorem r77 {a b n : Int} : SV.res (keys (α := Pred) []) (.e (.g [ai (a + n), ai (b + n)])) := by simp [SV.res, El.res, At.res, keys]
set_option maxHeartbeats 4000000 in
theorem c77 (a b n : Int) (h1 : -1000000000 ≤ a ∧ a ≤ 1000000000) (h2 : -1000000000 ≤ b ∧ b ≤ 1000000000) (h3 : -1000000000 ≤ n ∧ n ≤ 1000000000) : Sig Try.prog 77 [.e (.g [ai (a), ai (b)]), .i (n)] [] (.e (.g [ai (a + n), ai (b + n)])) [] := by
  refine Sig.intro Try.func77 rfl 0 [(0, .e (.g [ai (a), ai (b)])), (1, .i (n))] rfl w77 rfl rfl fun I w => ?_
  refine WP.seq ?_
  refine WP.region ?_
  refine WPl.l 0 1 rfl rfl rfl (o_boxg rfl) ?_
  refine WPl.l 1 2 rfl rfl rfl (o_alloc Z23) ?_
  refine WPl.nil ?_
  refine EX.then ?_
  refine WP.seq ?_
  refine WP.region ?_
  refine WPl.v rfl (o_fldp F23_0 rfl) ?_
  refine WPl.v rfl (o_ldp S3 rfl rfl rfl) ?_
  refine WPl.v rfl (o_move rfl) ?_
  refine WPl.v rfl (o_add rfl rfl (by first | omega | (simp; omega)) (by first | omega | (simp; omega))) ?_
  refine WPl.v rfl (o_fldp F23_1 rfl) ?_
  refine WPl.v rfl (o_ldp S3 rfl rfl rfl) ?_
  refine WPl.v rfl (o_move rfl) ?_
  refine WPl.v rfl (o_add rfl rfl (by first | omega | (simp; omega)) (by first | omega | (simp; omega))) ?_
  refine WPl.v rfl (o_build B23 rfl ⟨rfl, rfl, trivial⟩ rfl rfl) ?_
  refine WPl.s1 (o_stag G23 rfl rfl rfl ⟨rfl, rfl, trivial⟩ rfl rfl) ?_
  refine WPl.nil ?_
  refine EX.then ?_
  refine WP.ret ?_
  exact EX.fin id (.inl rfl) rfl (.cellg G23 rfl rfl rfl (.nil)) rfl r77 trivial (by simp) (by simp)
theorem w28 {s : Shop} {add : List Int} : ∀ x ∈ ([.e (.g [ai (s.pounds), ai (s.tl), ai (s.th), ai (s.al), ai (s.ah), ai (s.room), ai (s.tpl), ai (s.tph), ai (s.apl), ai (s.aph), .q 0]), .e (.a (.q 1))] : List SV), x.res (keys (α := Pred) [(0, PL EPig (s.pigs)), (1, PL EP.int (add))]) := by simp [SV.res, El.res, At.res, keys]
theorem r28 {s : Shop} {add : List Int} : SV.res (keys (α := Pred) []) (.e (.g [ai ((s.aft add).pounds), ai ((s.aft add).tl), ai ((s.aft add).th), ai ((s.aft add).al), ai ((s.aft add).ah)])) := by simp [SV.res, El.res, At.res, keys]
set_option maxHeartbeats 4000000 in
theorem c28 (s : Shop) (add : List Int) (hs : s.chk = true) (hl : add.length ≤ s.pigs.length) (hb : bnd add 1000) : Sig Try.prog 28 [.e (.g [ai (s.pounds), ai (s.tl), ai (s.th), ai (s.al), ai (s.ah), ai (s.room), ai (s.tpl), ai (s.tph), ai (s.apl), ai (s.aph), .q 0]), .e (.a (.q 1))] [(0, PL EPig (s.pigs)), (1, PL EP.int (add))] (.e (.g [ai ((s.aft add).pounds), ai ((s.aft add).tl), ai ((s.aft add).th), ai ((s.aft add).al), ai ((s.aft add).ah)])) [] := by
  have hpg := Shop.pigsOK hs
  have htb := tl_bnd hs
  have hs0 := sumOf_bnd (f := Pig.pounds) hpg hl hb (fun p h => by have := Pig.bnds h; omega)
  have hs1 := sumOf_bnd (f := Pig.tin) hpg hl hb (fun p h => by have := Pig.bnds h; omega)
  have hs2 := sumOf_bnd (f := Pig.ant) hpg hl hb (fun p h => by have := Pig.bnds h; omega)
  refine Sig.intro Try.func28 rfl 2 [(0, .e (.g [ai (s.pounds), ai (s.tl), ai (s.th), ai (s.al), ai (s.ah), ai (s.room), ai (s.tpl), ai (s.tph), ai (s.apl), ai (s.aph), .q 0])), (1, .e (.a (.q 1)))] rfl w28 rfl rfl fun I w => ?_
  refine WP.seq ?_
  refine WP.region ?_
  refine WPl.l 2 3 rfl rfl rfl (o_boxg rfl) ?_
  refine WPl.l 3 4 rfl rfl rfl (o_alloc Z25) ?_
  refine WPl.nil ?_
  refine EX.then ?_
  refine WP.seq ?_
  refine WP.draw (nf := 4) [⟨[8, 9, 10, 12, 13, 14, 15, 16, 17, 18, 19, 20, 21, 22, 23, 24, 25], [], [], [], []⟩, ⟨[8, 9, 10, 12, 13, 14, 15, 16, 17, 18, 19, 20, 21, 22, 23, 24, 25], [], [], [], [0]⟩, ⟨[8, 9, 10, 12, 13, 14, 15, 16, 17, 18, 19, 20, 21, 22, 23, 24, 25], [], [], [], [0, 1]⟩, ⟨[5, 6, 7, 9, 12, 13, 14, 15, 16, 19, 20, 21, 22, 23], [], [], [], []⟩, ⟨[5, 6, 7, 8, 12, 13, 14, 15, 16, 19, 20, 21, 22, 23], [], [], [], []⟩, ⟨[5, 6, 7, 12, 13, 14, 15, 16, 19, 20, 21, 22, 23], [], [], [], [3, 4]⟩, ⟨[12, 13, 14, 15, 16, 17, 18, 19, 20, 21, 22, 23, 24, 25], [], [], [], [0, 1, 2, 3, 4, 5]⟩, ⟨[5, 6, 7, 8, 9, 10, 11, 15, 16, 17, 19, 20, 21, 22, 23], [], [], [], []⟩, ⟨[5, 6, 7, 8, 9, 10, 11, 15, 16, 17, 19, 20, 21, 22, 23], [], [], [], [7]⟩, ⟨[5, 6, 7, 8, 9, 10, 11, 15, 16, 17, 19, 20, 21, 22, 23], [], [], [], [7, 8]⟩, ⟨[5, 6, 7, 8, 9, 10, 11, 12, 13, 14, 16, 19, 20, 21, 22, 23], [], [], [], []⟩, ⟨[5, 6, 7, 8, 9, 10, 11, 12, 13, 14, 15, 19, 20, 21, 22, 23], [], [], [], []⟩, ⟨[5, 6, 7, 11, 12, 13, 14, 19, 20, 21, 22, 23], [], [], [], [3, 4, 5, 10, 11]⟩, ⟨[5, 6, 7, 11, 19, 20, 21, 22, 23], [], [], [], [3, 4, 5, 7, 8, 9, 10, 11, 12]⟩, ⟨[5, 6, 7, 8, 9, 10, 11, 12, 13, 14, 15, 16, 17, 18, 22, 23, 24], [], [], [], []⟩, ⟨[5, 6, 7, 8, 9, 10, 11, 12, 13, 14, 15, 16, 17, 18, 22, 23, 24], [], [], [], [14]⟩, ⟨[5, 6, 7, 8, 9, 10, 11, 12, 13, 14, 15, 16, 17, 18, 22, 23, 24], [], [], [], [14, 15]⟩, ⟨[5, 6, 7, 8, 9, 10, 11, 12, 13, 14, 15, 16, 17, 18, 19, 20, 21, 23], [], [], [], []⟩, ⟨[5, 6, 7, 8, 9, 10, 11, 12, 13, 14, 15, 16, 17, 18, 19, 20, 21, 22], [], [], [], []⟩, ⟨[5, 6, 7, 11, 19, 20, 21], [], [], [], [3, 4, 5, 7, 8, 9, 10, 11, 12, 13, 17, 18]⟩, ⟨[5, 6, 7, 11], [], [], [], [3, 4, 5, 7, 8, 9, 10, 11, 12, 13, 14, 15, 16, 17, 18, 19]⟩, ⟨[], [], [], [], [0, 1, 2, 3, 4, 5, 6, 7, 8, 9, 10, 11, 12, 13, 14, 15, 16, 17, 18, 19, 20]⟩, ⟨[], [], [], [3], [0, 1, 2, 3, 4, 5, 6, 7, 8, 9, 10, 11, 12, 13, 14, 15, 16, 17, 18, 19, 20, 21]⟩] (by kernel_rfl) (by kernel_rfl) ?_
  refine DRQ.v rfl rfl rfl (o_fldp F28_0 rfl) ?_
  refine DRQ.v rfl rfl rfl (o_fldp F25_0 rfl) ?_
  refine DRQ.v rfl rfl rfl (o_ldp S3 rfl rfl rfl) ?_
  refine DRQ.v rfl rfl rfl (o_ldpa G28 rfl rfl rfl) ?_
  refine DRQ.v rfl rfl rfl (o_move rfl) ?_
  refine DRQ.cs rfl rfl rfl rfl (o_sig 4 (ren [(0, 0), (1, 1)]) (c47 s add hpg hb hl) e47 rfl rfl rfl w47 ⟨(lx rfl), (lx rfl), trivial⟩ r47) ?_
  refine DRQ.v rfl rfl rfl (o_add rfl rfl (by first | omega | (simp; omega)) (by first | omega | (simp; omega))) ?_
  refine DRQ.v rfl rfl rfl (o_fldp F28_0 rfl) ?_
  refine DRQ.v rfl rfl rfl (o_fldp F25_1 rfl) ?_
  refine DRQ.v rfl rfl rfl (o_ldpg G23 rfl rfl rfl) ?_
  refine DRQ.v rfl rfl rfl (o_ldpa G28 rfl rfl rfl) ?_
  refine DRQ.v rfl rfl rfl (o_move rfl) ?_
  refine DRQ.cs rfl rfl rfl rfl (o_sig 4 (ren [(0, 0), (1, 1)]) (c48 s add hpg hb hl) e48 rfl rfl rfl w48 ⟨(lx rfl), (lx rfl), trivial⟩ r48) ?_
  refine DRQ.cs rfl rfl rfl rfl (o_sig 4 id (c77 s.tl s.th (sumOf Pig.tin s.pigs add) (by omega) (by omega) (by omega)) e77 rfl rfl rfl w77 trivial r77) ?_
  refine DRQ.v rfl rfl rfl (o_fldp F28_0 rfl) ?_
  refine DRQ.v rfl rfl rfl (o_fldp F25_2 rfl) ?_
  refine DRQ.v rfl rfl rfl (o_ldpg G23 rfl rfl rfl) ?_
  refine DRQ.v rfl rfl rfl (o_ldpa G28 rfl rfl rfl) ?_
  refine DRQ.v rfl rfl rfl (o_move rfl) ?_
  refine DRQ.cs rfl rfl rfl rfl (o_sig 4 (ren [(0, 0), (1, 1)]) (c49 s add hpg hb hl) e49 rfl rfl rfl w49 ⟨(lx rfl), (lx rfl), trivial⟩ r49) ?_
  refine DRQ.cs rfl rfl rfl rfl (o_sig 4 id (c77 s.al s.ah (sumOf Pig.ant s.pigs add) (by omega) (by omega) (by omega)) e77 rfl rfl rfl w77 trivial r77) ?_
  refine DRQ.v rfl rfl rfl (o_build B25 rfl ⟨rfl, trivial⟩ rfl rfl) ?_
  refine DRQ.s 3 rfl rfl rfl (o_stag G25 rfl rfl rfl ⟨rfl, rfl, rfl, rfl, rfl, trivial⟩ rfl rfl) ?_
  refine DRQ.nil' ?_
  refine EX.then ?_
  refine WP.ret ?_
  exact EX.fin id (.inl rfl) rfl (.cellg G25 rfl rfl rfl (.nil)) rfl r28 trivial (by simp) (by simp)
theorem w37 {s : Shop} {add : List Int} : ∀ x ∈ ([.e (.g [ai (s.pounds), ai (s.tl), ai (s.th), ai (s.al), ai (s.ah), ai (s.room), ai (s.tpl), ai (s.tph), ai (s.apl), ai (s.aph), .q 0]), .e (.a (.q 1))] : List SV), x.res (keys (α := Pred) [(0, PL EPig (s.pigs)), (1, PL EP.int (add))]) := by simp [SV.res, El.res, At.res, keys]
theorem r37 {s : Shop} {add : List Int} : SV.res (keys (α := Pred) []) (.t [.g [ai ((s.mAft add).pounds), ai ((s.mAft add).tl), ai ((s.mAft add).th), ai ((s.mAft add).al), ai ((s.mAft add).ah)], .a (ai (opE s (isAdd s add)))]) := by simp [SV.res, El.res, At.res, keys]
set_option maxHeartbeats 4000000 in
theorem c37 (s : Shop) (add : List Int)  : Sig Try.prog 37 [.e (.g [ai (s.pounds), ai (s.tl), ai (s.th), ai (s.al), ai (s.ah), ai (s.room), ai (s.tpl), ai (s.tph), ai (s.apl), ai (s.aph), .q 0]), .e (.a (.q 1))] [(0, PL EPig (s.pigs)), (1, PL EP.int (add))] (.t [.g [ai ((s.mAft add).pounds), ai ((s.mAft add).tl), ai ((s.mAft add).th), ai ((s.mAft add).al), ai ((s.mAft add).ah)], .a (ai (opE s (isAdd s add)))]) [] := by
  refine Sig.intro Try.func37 rfl 2 [(0, .e (.g [ai (s.pounds), ai (s.tl), ai (s.th), ai (s.al), ai (s.ah), ai (s.room), ai (s.tpl), ai (s.tph), ai (s.apl), ai (s.aph), .q 0])), (1, .e (.a (.q 1)))] rfl w37 rfl rfl fun I w => ?_
  refine WP.seq ?_
  refine WP.region ?_
  refine WPl.l 2 3 rfl rfl rfl (o_boxg rfl) ?_
  refine WPl.l 3 4 rfl rfl rfl (o_alloc Z25) ?_
  refine WPl.v rfl (o_assign rfl) ?_
  refine WPl.nil ?_
  refine EX.then ?_
  refine WP.seq ?_
  refine WP.seq ?_
  refine WP.region ?_
  refine WPl.v rfl (o_ldpa G28 rfl rfl rfl) ?_
  refine WPl.v rfl (o_move rfl) ?_
  refine WPl.cs 4 rfl rfl rfl rfl (o_sig 4 (ren [(0, 0), (1, 1)]) (c83 s add) e83 rfl rfl rfl w83 ⟨(lx rfl), (lx rfl), trivial⟩ r83) ?_
  refine WPl.v rfl (o_assign rfl) ?_
  refine WPl.nil ?_
  refine EX.then ?_
  refine WP.seq ?_
  refine WP.region ?_
  refine WPl.v rfl (o_move rfl) ?_
  refine WPl.v rfl (o_neq rfl rfl) ?_
  refine WPl.nil ?_
  refine EX.then ?_
  refine WP.cond rfl (fun hc1 => ?_) (fun hc1 => ?_)
  · try simp only [decide_eq_true_eq, decide_eq_false_iff_not, Bool.and_eq_true, Bool.or_eq_true, Bool.and_eq_false_iff, Bool.or_eq_false_iff, Bool.not_eq_true', Bool.not_eq_false', ne_eq, Decidable.not_not] at hc1
    refine WP.seq ?_
    refine WP.region ?_
    refine WPl.v rfl (o_build B25 rfl trivial rfl rfl) ?_
    refine WPl.v rfl (o_move rfl) ?_
    refine WPl.s1 (o_stag G25 rfl rfl rfl ⟨rfl, rfl, rfl, rfl, rfl, trivial⟩ rfl rfl) ?_
    refine WPl.v rfl (o_assign rfl) ?_
    refine WPl.nil ?_
    refine EX.then ?_
    refine WP.ret ?_
    refine EX.ret_then ?_
    rw [show s.mAft add = po0 from if_neg (by simpa using hc1)]
    exact EX.fin id (.inl rfl) rfl (.cellg G25 rfl rfl rfl (.tmp rfl .nil)) rfl (by simp [SV.res, El.res, At.res, keys]) trivial (by simp) (by simp)
  · try simp only [decide_eq_true_eq, decide_eq_false_iff_not, Bool.and_eq_true, Bool.or_eq_true, Bool.and_eq_false_iff, Bool.or_eq_false_iff, Bool.not_eq_true', Bool.not_eq_false', ne_eq, Decidable.not_not] at hc1
    have hE : opE s (isAdd s add) = 0 := by simpa using hc1
    obtain ⟨hf, hv⟩ := opE_z hE
    have hpg := Shop.pigsOK hf
    have had := isAddB hpg hv
    refine WP.skip ?_
    refine EX.then ?_
    refine WP.seq ?_
    refine WP.region ?_
    refine WPl.v rfl (o_ldpa G28 rfl rfl rfl) ?_
    refine WPl.v rfl (o_move rfl) ?_
    refine WPl.cs 4 rfl rfl rfl rfl (o_sig 4 (ren [(0, 0), (1, 1)]) (c28 s add hf (by omega) had.2.2) e28 rfl rfl rfl w28 ⟨(lx rfl), (lx rfl), trivial⟩ r28) ?_
    refine WPl.s1 (o_stag G25 rfl rfl rfl ⟨rfl, rfl, rfl, rfl, rfl, trivial⟩ rfl rfl) ?_
    refine WPl.v rfl (o_assign rfl) ?_
    refine WPl.nil ?_
    refine EX.then ?_
    refine WP.ret ?_
    rw [hE, show s.mAft add = s.aft add from if_pos hE]
    exact EX.fin id (.inl rfl) rfl (.cellg G25 rfl rfl rfl (.tmp rfl .nil)) rfl (by simp [SV.res, El.res, At.res, keys]) trivial (by simp) (by simp)
theorem w91 {a b : Int} : ∀ x ∈ ([.i (a), .i (b)] : List SV), x.res (keys (α := Pred) []) := by simp [SV.res, El.res, At.res, keys]
theorem r91 {a b : Int} : SV.res (keys (α := Pred) []) (.i (knOf a b)) := by simp [SV.res, El.res, At.res, keys]
set_option maxHeartbeats 4000000 in
theorem c91 (a b : Int)  : Sig Try.prog 91 [.i (a), .i (b)] [] (.i (knOf a b)) [] := by
  refine Sig.intro Try.func91 rfl 0 [(0, .i (a)), (1, .i (b))] rfl w91 rfl rfl fun I w => ?_
  refine WP.seq ?_
  refine WP.region ?_
  refine WPl.v rfl (o_assign rfl) ?_
  refine WPl.nil ?_
  refine EX.then ?_
  refine WP.seq ?_
  refine WP.seq ?_
  refine WP.region ?_
  refine WPl.v rfl (o_move rfl) ?_
  refine WPl.nil ?_
  refine EX.then ?_
  refine WP.block ?_
  refine WP.seq ?_
  refine WP.region ?_
  refine WPl.v rfl (o_eql rfl rfl) ?_
  refine WPl.v rfl (o_assign rfl) ?_
  refine WPl.nil ?_
  refine EX.then ?_
  refine WP.cond rfl (fun hc1 => ?_) (fun hc1 => ?_)
  · try simp only [decide_eq_true_eq, decide_eq_false_iff_not, Bool.and_eq_true, Bool.or_eq_true, Bool.and_eq_false_iff, Bool.or_eq_false_iff, Bool.not_eq_true', Bool.not_eq_false', ne_eq, Decidable.not_not] at hc1
    refine WP.seq ?_
    refine WP.region ?_
    refine WPl.v rfl (o_assign rfl) ?_
    refine WPl.nil ?_
    refine EX.then ?_
    refine WP.ret ?_
    refine EX.ret_blk ?_
    refine EX.ret_then ?_
    rw [show knOf a b = 2 from if_pos hc1]
    exact EX.fin id (.inl rfl) rfl (.tmp rfl .nil) rfl (by simp [SV.res, El.res, At.res, keys]) trivial (by simp) (by simp)
  · try simp only [decide_eq_true_eq, decide_eq_false_iff_not, Bool.and_eq_true, Bool.or_eq_true, Bool.and_eq_false_iff, Bool.or_eq_false_iff, Bool.not_eq_true', Bool.not_eq_false', ne_eq, Decidable.not_not] at hc1
    refine WP.seq ?_
    refine WP.region ?_
    refine WPl.v rfl (o_move rfl) ?_
    refine WPl.v rfl (o_eql rfl rfl) ?_
    refine WPl.v rfl (o_assign rfl) ?_
    refine WPl.nil ?_
    refine EX.then ?_
    refine WP.cond rfl (fun hc2 => ?_) (fun hc2 => ?_)
    · try simp only [decide_eq_true_eq, decide_eq_false_iff_not, Bool.and_eq_true, Bool.or_eq_true, Bool.and_eq_false_iff, Bool.or_eq_false_iff, Bool.not_eq_true', Bool.not_eq_false', ne_eq, Decidable.not_not] at hc2
      refine WP.seq ?_
      refine WP.region ?_
      refine WPl.v rfl (o_assign rfl) ?_
      refine WPl.nil ?_
      refine EX.then ?_
      refine WP.ret ?_
      refine EX.ret_blk ?_
      refine EX.ret_then ?_
      rw [show knOf a b = 1 from by unfold knOf; rw [if_neg hc1, if_pos hc2]]
      exact EX.fin id (.inl rfl) rfl (.tmp rfl .nil) rfl (by simp [SV.res, El.res, At.res, keys]) trivial (by simp) (by simp)
    · try simp only [decide_eq_true_eq, decide_eq_false_iff_not, Bool.and_eq_true, Bool.or_eq_true, Bool.and_eq_false_iff, Bool.or_eq_false_iff, Bool.not_eq_true', Bool.not_eq_false', ne_eq, Decidable.not_not] at hc2
      refine WP.skip ?_
      refine EX.blk ?_
      refine EX.then ?_
      refine WP.seq ?_
      refine WP.region ?_
      refine WPl.v rfl (o_assign rfl) ?_
      refine WPl.nil ?_
      refine EX.then ?_
      refine WP.ret ?_
      rw [show knOf a b = 3 from by unfold knOf; rw [if_neg hc1, if_neg hc2]]
      exact EX.fin id (.inl rfl) rfl (.tmp rfl .nil) rfl (by simp [SV.res, El.res, At.res, keys]) trivial (by simp) (by simp)
theorem w29 {s : Shop} {p : Po} : ∀ x ∈ ([.e (.g [ai (s.pounds), ai (s.tl), ai (s.th), ai (s.al), ai (s.ah), ai (s.room), ai (s.tpl), ai (s.tph), ai (s.apl), ai (s.aph), .q 0]), .e (.g [ai (p.pounds), ai (p.tl), ai (p.th), ai (p.al), ai (p.ah)])] : List SV), x.res (keys (α := Pred) [(0, PL EPig (s.pigs))]) := by simp [SV.res, El.res, At.res, keys]
theorem r29 {s : Shop} {p : Po} : SV.res (keys (α := Pred) []) (.b (s.safeP p)) := by simp [SV.res, El.res, At.res, keys]
set_option maxHeartbeats 4000000 in
theorem c29 (s : Shop) (p : Po) (hs : s.chk = true) (hp : PoB p) : Sig Try.prog 29 [.e (.g [ai (s.pounds), ai (s.tl), ai (s.th), ai (s.al), ai (s.ah), ai (s.room), ai (s.tpl), ai (s.tph), ai (s.apl), ai (s.aph), .q 0]), .e (.g [ai (p.pounds), ai (p.tl), ai (p.th), ai (p.al), ai (p.ah)])] [(0, PL EPig (s.pigs))] (.b (s.safeP p)) [] := by
  have hpb := hp
  unfold PoB at hpb
  refine Sig.intro Try.func29 rfl 1 [(0, .e (.g [ai (s.pounds), ai (s.tl), ai (s.th), ai (s.al), ai (s.ah), ai (s.room), ai (s.tpl), ai (s.tph), ai (s.apl), ai (s.aph), .q 0])), (1, .e (.g [ai (p.pounds), ai (p.tl), ai (p.th), ai (p.al), ai (p.ah)]))] rfl w29 rfl rfl fun I w => ?_
  refine WP.seq ?_
  refine WP.region ?_
  refine WPl.l 1 2 rfl rfl rfl (o_boxg rfl) ?_
  refine WPl.l 2 3 rfl rfl rfl (o_boxg rfl) ?_
  refine WPl.v rfl (o_assign rfl) ?_
  refine WPl.nil ?_
  refine EX.then ?_
  refine WP.seq ?_
  refine WP.region ?_
  refine WPl.v rfl (o_ldpa G28 rfl rfl rfl) ?_
  refine WPl.v rfl (o_fldp F25_0 rfl) ?_
  refine WPl.v rfl (o_ldp S3 rfl rfl rfl) ?_
  refine WPl.v rfl (o_fldp F25_1 rfl) ?_
  refine WPl.v rfl (o_fldp F23_0 rfl) ?_
  refine WPl.v rfl (o_ldp S3 rfl rfl rfl) ?_
  refine WPl.cs 3 rfl rfl rfl rfl (o_sig 3 (ren [(0, 0)]) (c50 s 1 p.pounds p.tl 0 hs (by omega) (by omega) (by omega)) e50 rfl rfl rfl w50 ⟨(lx rfl), trivial⟩ r50) ?_
  refine WPl.v rfl (o_move rfl) ?_
  refine WPl.bit 3 4 (keeps1 s 1 p.pounds p.tl 0) rfl rfl ?_
  refine WPl.gv 3 rfl rfl (.plain rfl Iff.rfl rfl) (fun hb => o_ldpa G28 rfl rfl rfl) ?_
  refine WPl.gv 3 rfl rfl (.plain rfl Iff.rfl rfl) (fun hb => o_fldp F25_0 rfl) ?_
  refine WPl.gv 3 rfl rfl (.plain rfl Iff.rfl rfl) (fun hb => o_ldp S3 rfl rfl rfl) ?_
  refine WPl.gv 3 rfl rfl (.plain rfl Iff.rfl rfl) (fun hb => o_fldp F25_1 rfl) ?_
  refine WPl.gv 3 rfl rfl (.plain rfl Iff.rfl rfl) (fun hb => o_fldp F23_1 rfl) ?_
  refine WPl.gv 3 rfl rfl (.plain rfl Iff.rfl rfl) (fun hb => o_ldp S3 rfl rfl rfl) ?_
  refine WPl.gc0 3 rfl rfl (.plain rfl Iff.rfl rfl) (fun hb => o_sig 4 (ren [(0, 0)]) (c50 s 2 p.pounds p.th 0 hs (by omega) (by omega) (by omega)) e50 rfl rfl rfl w50 ⟨(lx rfl), trivial⟩ r50) ?_
  refine WPl.v rfl (o_and rfl rfl rfl id) ?_
  refine WPl.v rfl (o_move rfl) ?_
  refine WPl.bit 4 5 ((keeps1 s 1 p.pounds p.tl 0) && (keeps1 s 2 p.pounds p.th 0)) rfl rfl ?_
  refine WPl.gv 4 rfl rfl (.plain rfl Iff.rfl rfl) (fun hb => o_ldpa G28 rfl rfl rfl) ?_
  refine WPl.gv 4 rfl rfl (.plain rfl Iff.rfl rfl) (fun hb => o_fldp F25_0 rfl) ?_
  refine WPl.gv 4 rfl rfl (.plain rfl Iff.rfl rfl) (fun hb => o_ldp S3 rfl rfl rfl) ?_
  refine WPl.gv 4 rfl rfl (.plain rfl Iff.rfl rfl) (fun hb => o_fldp F25_2 rfl) ?_
  refine WPl.gv 4 rfl rfl (.plain rfl Iff.rfl rfl) (fun hb => o_fldp F23_0 rfl) ?_
  refine WPl.gv 4 rfl rfl (.plain rfl Iff.rfl rfl) (fun hb => o_ldp S3 rfl rfl rfl) ?_
  refine WPl.gc0 4 rfl rfl (.plain rfl Iff.rfl rfl) (fun hb => o_sig 5 (ren [(0, 0)]) (c50 s 3 p.pounds 0 p.al hs (by omega) (by omega) (by omega)) e50 rfl rfl rfl w50 ⟨(lx rfl), trivial⟩ r50) ?_
  refine WPl.v rfl (o_and rfl rfl rfl id) ?_
  refine WPl.v rfl (o_move rfl) ?_
  refine WPl.bit 5 6 (((keeps1 s 1 p.pounds p.tl 0) && (keeps1 s 2 p.pounds p.th 0)) && (keeps1 s 3 p.pounds 0 p.al)) rfl rfl ?_
  refine WPl.gv 5 rfl rfl (.plain rfl Iff.rfl rfl) (fun hb => o_ldpa G28 rfl rfl rfl) ?_
  refine WPl.gv 5 rfl rfl (.plain rfl Iff.rfl rfl) (fun hb => o_fldp F25_0 rfl) ?_
  refine WPl.gv 5 rfl rfl (.plain rfl Iff.rfl rfl) (fun hb => o_ldp S3 rfl rfl rfl) ?_
  refine WPl.gv 5 rfl rfl (.plain rfl Iff.rfl rfl) (fun hb => o_fldp F25_2 rfl) ?_
  refine WPl.gv 5 rfl rfl (.plain rfl Iff.rfl rfl) (fun hb => o_fldp F23_1 rfl) ?_
  refine WPl.gv 5 rfl rfl (.plain rfl Iff.rfl rfl) (fun hb => o_ldp S3 rfl rfl rfl) ?_
  refine WPl.gc0 5 rfl rfl (.plain rfl Iff.rfl rfl) (fun hb => o_sig 6 (ren [(0, 0)]) (c50 s 4 p.pounds 0 p.ah hs (by omega) (by omega) (by omega)) e50 rfl rfl rfl w50 ⟨(lx rfl), trivial⟩ r50) ?_
  refine WPl.v rfl (o_and rfl rfl rfl id) ?_
  refine WPl.v rfl (o_assign rfl) ?_
  refine WPl.nil ?_
  refine EX.then ?_
  refine WP.ret ?_
  rw [safeP_keeps]
  exact EX.fin id (.inl rfl) rfl (.tmp rfl .nil) rfl (by simp [SV.res, El.res, At.res, keys]) trivial (by simp) (by simp)
theorem w43 {s : Shop} {add : List Int} : ∀ x ∈ ([.e (.g [ai (s.pounds), ai (s.tl), ai (s.th), ai (s.al), ai (s.ah), ai (s.room), ai (s.tpl), ai (s.tph), ai (s.apl), ai (s.aph), .q 0]), .e (.a (.q 1))] : List SV), x.res (keys (α := Pred) [(0, PL EPig (s.pigs)), (1, PL EP.int (add))]) := by simp [SV.res, El.res, At.res, keys]
theorem r43 {s : Shop} {add : List Int} : SV.res (keys (α := Pred) []) (.t [.g [ai ((s.mLead add).1), ai ((s.mLead add).2)], .a (ai (s.leadE add))]) := by simp [SV.res, El.res, At.res, keys]
set_option maxHeartbeats 4000000 in
theorem c43 (s : Shop) (add : List Int)  : Sig Try.prog 43 [.e (.g [ai (s.pounds), ai (s.tl), ai (s.th), ai (s.al), ai (s.ah), ai (s.room), ai (s.tpl), ai (s.tph), ai (s.apl), ai (s.aph), .q 0]), .e (.a (.q 1))] [(0, PL EPig (s.pigs)), (1, PL EP.int (add))] (.t [.g [ai ((s.mLead add).1), ai ((s.mLead add).2)], .a (ai (s.leadE add))]) [] := by
  refine Sig.intro Try.func43 rfl 2 [(0, .e (.g [ai (s.pounds), ai (s.tl), ai (s.th), ai (s.al), ai (s.ah), ai (s.room), ai (s.tpl), ai (s.tph), ai (s.apl), ai (s.aph), .q 0])), (1, .e (.a (.q 1)))] rfl w43 rfl rfl fun I w => ?_
  refine WP.seq ?_
  refine WP.region ?_
  refine WPl.l 2 3 rfl rfl rfl (o_boxg rfl) ?_
  refine WPl.l 3 4 rfl rfl rfl (o_alloc Z23) ?_
  refine WPl.v rfl (o_assign rfl) ?_
  refine WPl.nil ?_
  refine EX.then ?_
  refine WP.seq ?_
  refine WP.seq ?_
  refine WP.region ?_
  refine WPl.v rfl (o_ldpa G28 rfl rfl rfl) ?_
  refine WPl.v rfl (o_move rfl) ?_
  refine WPl.cs 4 rfl rfl rfl rfl (o_sig 4 (ren [(0, 0), (1, 1)]) (c83 s add) e83 rfl rfl rfl w83 ⟨(lx rfl), (lx rfl), trivial⟩ r83) ?_
  refine WPl.v rfl (o_assign rfl) ?_
  refine WPl.nil ?_
  refine EX.then ?_
  refine WP.seq ?_
  refine WP.region ?_
  refine WPl.v rfl (o_move rfl) ?_
  refine WPl.v rfl (o_neq rfl rfl) ?_
  refine WPl.nil ?_
  refine EX.then ?_
  refine WP.cond rfl (fun hc1 => ?_) (fun hc1 => ?_)
  · try simp only [decide_eq_true_eq, decide_eq_false_iff_not, Bool.and_eq_true, Bool.or_eq_true, Bool.and_eq_false_iff, Bool.or_eq_false_iff, Bool.not_eq_true', Bool.not_eq_false', ne_eq, Decidable.not_not] at hc1
    refine WP.seq ?_
    refine WP.region ?_
    refine WPl.v rfl (o_build B23 rfl trivial rfl rfl) ?_
    refine WPl.v rfl (o_move rfl) ?_
    refine WPl.s1 (o_stag G23 rfl rfl rfl ⟨rfl, rfl, trivial⟩ rfl rfl) ?_
    refine WPl.v rfl (o_assign rfl) ?_
    refine WPl.nil ?_
    refine EX.then ?_
    refine WP.ret ?_
    refine EX.ret_then ?_
    have hLE : s.leadE add = opE s (isAdd s add) := if_neg (by simpa using hc1)
    rw [hLE, show s.mLead add = (0, 0) from if_neg (by rw [hLE]; simpa using hc1)]
    exact EX.fin id (.inl rfl) rfl (.cellg G23 rfl rfl rfl (.tmp rfl .nil)) rfl (by simp [SV.res, El.res, At.res, keys]) trivial (by simp) (by simp)
  · try simp only [decide_eq_true_eq, decide_eq_false_iff_not, Bool.and_eq_true, Bool.or_eq_true, Bool.and_eq_false_iff, Bool.or_eq_false_iff, Bool.not_eq_true', Bool.not_eq_false', ne_eq, Decidable.not_not] at hc1
    have hE : opE s (isAdd s add) = 0 := by simpa using hc1
    obtain ⟨hf, hv⟩ := opE_z hE
    have hpg := Shop.pigsOK hf
    have had := isAddB hpg hv
    have hab := aft_bnd hf (by omega) had.2.2
    have hab2 := hab
    unfold PoB at hab2
    have htb := tl_bnd hf
    have hN : s.leadN (s.aft add) = (s.room - (s.aft add).pounds + 1).toNat := rfl
    have hrm : (s.aft add).pounds ≤ s.room := isAdd_room hv
    refine WP.skip ?_
    refine EX.then ?_
    refine WP.seq ?_
    refine WP.region ?_
    refine WPl.v rfl (o_ldpa G28 rfl rfl rfl) ?_
    refine WPl.v rfl (o_move rfl) ?_
    refine WPl.cs 4 rfl rfl rfl rfl (o_sig 4 (ren [(0, 0), (1, 1)]) (c28 s add hf (by omega) had.2.2) e28 rfl rfl rfl w28 ⟨(lx rfl), (lx rfl), trivial⟩ r28) ?_
    refine WPl.l 4 5 rfl rfl rfl (o_alloc Z25) ?_
    refine WPl.s1 (o_stag G25 rfl rfl rfl ⟨rfl, rfl, rfl, rfl, rfl, trivial⟩ rfl rfl) ?_
    refine WPl.nil ?_
    refine EX.then ?_
    refine WP.seq ?_
    refine WP.region ?_
    refine WPl.v rfl (o_build B23 rfl ⟨rfl, rfl, trivial⟩ rfl rfl) ?_
    refine WPl.l 5 6 rfl rfl rfl (o_alloc Z23) ?_
    refine WPl.s1 (o_stag G23 rfl rfl rfl ⟨rfl, rfl, trivial⟩ rfl rfl) ?_
    refine WPl.nil ?_
    refine EX.then ?_
    refine WP.seq ?_
    refine WP.block ?_
    refine WP.loop (Gh := Nat) (fun i => ⟨6, [(1, .e (.a (.q 1))), (2, .e (.a (.p 2 (0)))), (4, .e (.a (.p 3 (0)))), (5, .i (0)), (7, .e (.a (.p 4 (0)))), (8, .e (.a (.p 5 (0))))], [(0, PL EPig (s.pigs)), (1, PL EP.int (add))], [(2, .blk [ai (s.pounds), ai (s.tl), ai (s.th), ai (s.al), ai (s.ah), ai (s.room), ai (s.tpl), ai (s.tph), ai (s.apl), ai (s.aph), .q 0] 28), (3, .blk [ai (0), ai (0)] 23), (4, .blk [ai (((s.aft add).lead (i : Int)).pounds), ai (((s.aft add).lead (i : Int)).tl), ai (((s.aft add).lead (i : Int)).th), ai (((s.aft add).lead (i : Int)).al), ai (((s.aft add).lead (i : Int)).ah)] 25), (5, .blk [ai ((s.leadR (s.aft add) i).1), ai ((s.leadR (s.aft add) i).2)] 23)], [], []⟩) (fun i => i ≤ s.leadN (s.aft add)) (fun i => s.leadN (s.aft add) - i) (0) id ?_ (LeR.of ⟨rfl, rfl, rfl, rfl, rfl, rfl, trivial⟩ ⟨(lx rfl), (lx rfl), trivial⟩ ⟨rfl, rfl, (congrArg (fun z => some (Ent.blk z 25)) (List.cons_eq_cons.2 ⟨(congrArg (fun z => ai z) (show ((s.aft add).pounds) = ((fun i => ((s.aft add).lead (i : Int)).pounds) 0) from by simp [Po.lead])), (List.cons_eq_cons.2 ⟨(Eq.refl (ai ((s.aft add).tl))), (List.cons_eq_cons.2 ⟨(Eq.refl (ai ((s.aft add).th))), (List.cons_eq_cons.2 ⟨(Eq.refl (ai ((s.aft add).al))), (List.cons_eq_cons.2 ⟨(Eq.refl (ai ((s.aft add).ah))), (Eq.refl [])⟩)⟩)⟩)⟩)⟩)), rfl, trivial⟩ rfl rfl rfl rfl rfl) ?_
    · exact Nat.zero_le _
    intro i hφ
    have hiN : i ≤ s.leadN (s.aft add) := hφ
    have hlb := leadTo_bnd s (s.aft add) i
    have hpl : ((s.aft add).lead (i : Int)).pounds = (s.aft add).pounds + i := rfl
    obtain ⟨hlr, hlr2⟩ := leadR_eq s (s.aft add) i
    refine WP.seq ?_
    refine WP.seq ?_
    refine WP.region ?_
    refine WPl.v rfl (o_fldp F25_0 rfl) ?_
    refine WPl.v rfl (o_ldp S3 rfl rfl rfl) ?_
    refine WPl.v rfl (o_fldp F28_1 rfl) ?_
    refine WPl.v rfl (o_ldp S3 rfl rfl rfl) ?_
    refine WPl.v rfl (o_leq rfl rfl) ?_
    refine WPl.nil ?_
    refine EX.then ?_
    refine WP.cond rfl (fun hc2 => ?_) (fun hc2 => ?_)
    · try simp only [decide_eq_true_eq, decide_eq_false_iff_not, Bool.and_eq_true, Bool.or_eq_true, Bool.and_eq_false_iff, Bool.or_eq_false_iff, Bool.not_eq_true', Bool.not_eq_false', ne_eq, Decidable.not_not] at hc2
      refine WP.skip ?_
      refine EX.then ?_
      refine WP.seq ?_
      refine WP.block ?_
      refine WP.seq ?_
      refine WP.seq ?_
      refine WP.region ?_
      refine WPl.v rfl (o_ldpa G28 rfl rfl rfl) ?_
      refine WPl.v rfl (o_ldpa G25 rfl rfl rfl) ?_
      refine WPl.cs 6 rfl rfl rfl rfl (o_sig 6 (ren [(0, 0)]) (c29 s ((s.aft add).lead (i : Int)) hf (by unfold PoB Po.lead; simp only []; omega)) e29 rfl rfl rfl w29 ⟨(lx rfl), trivial⟩ r29) ?_
      refine WPl.v rfl (o_not rfl) ?_
      refine WPl.nil ?_
      refine EX.then ?_
      refine WP.cond rfl (fun hc3 => ?_) (fun hc3 => ?_)
      · try simp only [decide_eq_true_eq, decide_eq_false_iff_not, Bool.and_eq_true, Bool.or_eq_true, Bool.and_eq_false_iff, Bool.or_eq_false_iff, Bool.not_eq_true', Bool.not_eq_false', ne_eq, Decidable.not_not] at hc3
        refine WP.exit ?_
        refine EX.exit_then ?_
        refine EX.exit_blk ?_
        refine EX.then ?_
        refine WP.region ?_
        refine WPl.v rfl (o_fldp F25_0 rfl) ?_
        refine WPl.v rfl (o_ldp S3 rfl rfl rfl) ?_
        refine WPl.v rfl (o_add rfl rfl (by first | omega | (simp; omega)) (by first | omega | (simp; omega))) ?_
        refine WPl.v rfl (o_fldp F25_0 rfl) ?_
        refine WPl.s1 (o_sta S3 rfl rfl rfl rfl rfl) ?_
        refine WPl.nil ?_
        refine EX.again (i + 1) id (by omega) (by omega) (LeR.of ⟨rfl, rfl, rfl, rfl, rfl, rfl, trivial⟩ ⟨(lx rfl), (lx rfl), trivial⟩ ⟨rfl, rfl, (congrArg (fun z => some (Ent.blk z 25)) (List.cons_eq_cons.2 ⟨(congrArg (fun z => ai z) (show ((((s.aft add).lead (i : Int)).pounds) + 1) = ((fun i => ((s.aft add).lead (i : Int)).pounds) (i + 1)) from by simp only [Po.lead]; omega)), (List.cons_eq_cons.2 ⟨(Eq.refl (ai (((s.aft add).lead (i : Int)).tl))), (List.cons_eq_cons.2 ⟨(Eq.refl (ai (((s.aft add).lead (i : Int)).th))), (List.cons_eq_cons.2 ⟨(Eq.refl (ai (((s.aft add).lead (i : Int)).al))), (List.cons_eq_cons.2 ⟨(Eq.refl (ai (((s.aft add).lead (i : Int)).ah))), (Eq.refl [])⟩)⟩)⟩)⟩)⟩)), (congrArg (fun z => some (Ent.blk z 23)) (List.cons_eq_cons.2 ⟨(congrArg (fun z => ai z) (show ((s.leadR (s.aft add) i).1) = ((fun i => (s.leadR (s.aft add) i).1) (i + 1)) from by first | (simp only [Shop.leadR]; rw [if_pos hc3, if_pos hc4]; dsimp only; omega) | (simp only [Shop.leadR]; rw [if_pos hc3, if_neg hc4]; done) | (simp only [Shop.leadR]; rw [if_neg (by rw [hc3]; simp)]))), (List.cons_eq_cons.2 ⟨(congrArg (fun z => ai z) (show ((s.leadR (s.aft add) i).2) = ((fun i => (s.leadR (s.aft add) i).2) (i + 1)) from by first | (simp only [Shop.leadR]; rw [if_pos hc3]; dsimp only; omega) | (simp only [Shop.leadR]; rw [if_neg (by rw [hc3]; simp)]))), (Eq.refl [])⟩)⟩)), trivial⟩ rfl rfl rfl rfl rfl)
      · try simp only [decide_eq_true_eq, decide_eq_false_iff_not, Bool.and_eq_true, Bool.or_eq_true, Bool.and_eq_false_iff, Bool.or_eq_false_iff, Bool.not_eq_true', Bool.not_eq_false', ne_eq, Decidable.not_not] at hc3
        refine WP.skip ?_
        refine EX.then ?_
        refine WP.seq ?_
        refine WP.draw (nf := 6) [⟨[35, 36, 37, 38], [], [], [], []⟩, ⟨[35, 36, 37, 38], [], [], [], [0]⟩, ⟨[33, 34, 36], [], [], [], []⟩, ⟨[33, 34, 35], [], [], [], []⟩, ⟨[33, 34], [], [], [], [2, 3]⟩, ⟨[33, 34], [], [], [], [2, 3, 4]⟩, ⟨[], [], [], [], [0, 1, 2, 3, 4, 5]⟩, ⟨[], [], [], [], [0, 1, 2, 3, 4, 5, 6]⟩, ⟨[], [], [], [5], [0, 1, 2, 3, 4, 5, 6, 7]⟩] (by kernel_rfl) (by kernel_rfl) ?_
        refine DRQ.v rfl rfl rfl (o_fldp F25_0 rfl) ?_
        refine DRQ.v rfl rfl rfl (o_ldp S3 rfl rfl rfl) ?_
        refine DRQ.v rfl rfl rfl (o_ldpa G28 rfl rfl rfl) ?_
        refine DRQ.v rfl rfl rfl (o_move rfl) ?_
        refine DRQ.cs rfl rfl rfl rfl (o_sig 6 (ren [(0, 0), (1, 1)]) (c28 s add hf (by omega) had.2.2) e28 rfl rfl rfl w28 ⟨(lx rfl), (lx rfl), trivial⟩ r28) ?_
        refine DRQ.v rfl rfl rfl (o_field Try.underlying25 rfl S3 rfl rfl) ?_
        refine DRQ.v rfl rfl rfl (o_sub rfl rfl (by first | omega | (simp; omega)) (by first | omega | (simp; omega))) ?_
        refine DRQ.v rfl rfl rfl (o_fldp F23_1 rfl) ?_
        refine DRQ.s 5 rfl rfl rfl (o_sta S3 rfl rfl rfl rfl rfl) ?_
        refine DRQ.nil' ?_
        refine EX.then ?_
        refine WP.seq ?_
        refine WP.region ?_
        refine WPl.v rfl (o_fldp F23_0 rfl) ?_
        refine WPl.v rfl (o_ldp S3 rfl rfl rfl) ?_
        refine WPl.v rfl (o_lss rfl rfl) ?_
        refine WPl.nil ?_
        refine EX.then ?_
        refine WP.cond rfl (fun hc4 => ?_) (fun hc4 => ?_)
        · try simp only [decide_eq_true_eq, decide_eq_false_iff_not, Bool.and_eq_true, Bool.or_eq_true, Bool.and_eq_false_iff, Bool.or_eq_false_iff, Bool.not_eq_true', Bool.not_eq_false', ne_eq, Decidable.not_not] at hc4
          refine WP.region ?_
          refine WPl.v rfl (o_fldp F23_1 rfl) ?_
          refine WPl.v rfl (o_ldp S3 rfl rfl rfl) ?_
          refine WPl.v rfl (o_fldp F23_0 rfl) ?_
          refine WPl.s1 (o_sta S3 rfl rfl rfl rfl rfl) ?_
          refine WPl.nil ?_
          refine EX.blk ?_
          refine EX.then ?_
          refine WP.region ?_
          refine WPl.v rfl (o_fldp F25_0 rfl) ?_
          refine WPl.v rfl (o_ldp S3 rfl rfl rfl) ?_
          refine WPl.v rfl (o_add rfl rfl (by first | omega | (simp; omega)) (by first | omega | (simp; omega))) ?_
          refine WPl.v rfl (o_fldp F25_0 rfl) ?_
          refine WPl.s1 (o_sta S3 rfl rfl rfl rfl rfl) ?_
          refine WPl.nil ?_
          refine EX.again (i + 1) id (by omega) (by omega) (LeR.of ⟨rfl, rfl, rfl, rfl, rfl, rfl, trivial⟩ ⟨(lx rfl), (lx rfl), trivial⟩ ⟨rfl, rfl, (congrArg (fun z => some (Ent.blk z 25)) (List.cons_eq_cons.2 ⟨(congrArg (fun z => ai z) (show ((((s.aft add).lead (i : Int)).pounds) + 1) = ((fun i => ((s.aft add).lead (i : Int)).pounds) (i + 1)) from by simp only [Po.lead]; omega)), (List.cons_eq_cons.2 ⟨(Eq.refl (ai (((s.aft add).lead (i : Int)).tl))), (List.cons_eq_cons.2 ⟨(Eq.refl (ai (((s.aft add).lead (i : Int)).th))), (List.cons_eq_cons.2 ⟨(Eq.refl (ai (((s.aft add).lead (i : Int)).al))), (List.cons_eq_cons.2 ⟨(Eq.refl (ai (((s.aft add).lead (i : Int)).ah))), (Eq.refl [])⟩)⟩)⟩)⟩)⟩)), (congrArg (fun z => some (Ent.blk z 23)) (List.cons_eq_cons.2 ⟨(congrArg (fun z => ai z) (show ((((s.aft add).lead (i : Int)).pounds) - ((s.aft add).pounds)) = ((fun i => (s.leadR (s.aft add) i).1) (i + 1)) from by first | (simp only [Shop.leadR]; rw [if_pos hc3, if_pos hc4]; dsimp only; omega) | (simp only [Shop.leadR]; rw [if_pos hc3, if_neg hc4]; done) | (simp only [Shop.leadR]; rw [if_neg (by rw [hc3]; simp)]))), (List.cons_eq_cons.2 ⟨(congrArg (fun z => ai z) (show ((((s.aft add).lead (i : Int)).pounds) - ((s.aft add).pounds)) = ((fun i => (s.leadR (s.aft add) i).2) (i + 1)) from by first | (simp only [Shop.leadR]; rw [if_pos hc3]; dsimp only; omega) | (simp only [Shop.leadR]; rw [if_neg (by rw [hc3]; simp)]))), (Eq.refl [])⟩)⟩)), trivial⟩ rfl rfl rfl rfl rfl)
        · try simp only [decide_eq_true_eq, decide_eq_false_iff_not, Bool.and_eq_true, Bool.or_eq_true, Bool.and_eq_false_iff, Bool.or_eq_false_iff, Bool.not_eq_true', Bool.not_eq_false', ne_eq, Decidable.not_not] at hc4
          refine WP.skip ?_
          refine EX.blk ?_
          refine EX.then ?_
          refine WP.region ?_
          refine WPl.v rfl (o_fldp F25_0 rfl) ?_
          refine WPl.v rfl (o_ldp S3 rfl rfl rfl) ?_
          refine WPl.v rfl (o_add rfl rfl (by first | omega | (simp; omega)) (by first | omega | (simp; omega))) ?_
          refine WPl.v rfl (o_fldp F25_0 rfl) ?_
          refine WPl.s1 (o_sta S3 rfl rfl rfl rfl rfl) ?_
          refine WPl.nil ?_
          refine EX.again (i + 1) id (by omega) (by omega) (LeR.of ⟨rfl, rfl, rfl, rfl, rfl, rfl, trivial⟩ ⟨(lx rfl), (lx rfl), trivial⟩ ⟨rfl, rfl, (congrArg (fun z => some (Ent.blk z 25)) (List.cons_eq_cons.2 ⟨(congrArg (fun z => ai z) (show ((((s.aft add).lead (i : Int)).pounds) + 1) = ((fun i => ((s.aft add).lead (i : Int)).pounds) (i + 1)) from by simp only [Po.lead]; omega)), (List.cons_eq_cons.2 ⟨(Eq.refl (ai (((s.aft add).lead (i : Int)).tl))), (List.cons_eq_cons.2 ⟨(Eq.refl (ai (((s.aft add).lead (i : Int)).th))), (List.cons_eq_cons.2 ⟨(Eq.refl (ai (((s.aft add).lead (i : Int)).al))), (List.cons_eq_cons.2 ⟨(Eq.refl (ai (((s.aft add).lead (i : Int)).ah))), (Eq.refl [])⟩)⟩)⟩)⟩)⟩)), (congrArg (fun z => some (Ent.blk z 23)) (List.cons_eq_cons.2 ⟨(congrArg (fun z => ai z) (show ((s.leadR (s.aft add) i).1) = ((fun i => (s.leadR (s.aft add) i).1) (i + 1)) from by first | (simp only [Shop.leadR]; rw [if_pos hc3, if_pos hc4]; dsimp only; omega) | (simp only [Shop.leadR]; rw [if_pos hc3, if_neg hc4]; done) | (simp only [Shop.leadR]; rw [if_neg (by rw [hc3]; simp)]))), (List.cons_eq_cons.2 ⟨(congrArg (fun z => ai z) (show ((((s.aft add).lead (i : Int)).pounds) - ((s.aft add).pounds)) = ((fun i => (s.leadR (s.aft add) i).2) (i + 1)) from by first | (simp only [Shop.leadR]; rw [if_pos hc3]; dsimp only; omega) | (simp only [Shop.leadR]; rw [if_neg (by rw [hc3]; simp)]))), (Eq.refl [])⟩)⟩)), trivial⟩ rfl rfl rfl rfl rfl)
    · try simp only [decide_eq_true_eq, decide_eq_false_iff_not, Bool.and_eq_true, Bool.or_eq_true, Bool.and_eq_false_iff, Bool.or_eq_false_iff, Bool.not_eq_true', Bool.not_eq_false', ne_eq, Decidable.not_not] at hc2
      refine WP.exit ?_
      refine EX.exit_then ?_
      refine EX.exit_then ?_
      refine EX.exit_blk ?_
      refine EX.then ?_
      refine WP.seq ?_
      refine WP.seq ?_
      refine WP.region ?_
      refine WPl.v rfl (o_fldp F23_0 rfl) ?_
      refine WPl.v rfl (o_ldp S3 rfl rfl rfl) ?_
      refine WPl.v rfl (o_lss rfl rfl) ?_
      refine WPl.nil ?_
      refine EX.then ?_
      refine WP.cond rfl (fun hc5 => ?_) (fun hc5 => ?_)
      · try simp only [decide_eq_true_eq, decide_eq_false_iff_not, Bool.and_eq_true, Bool.or_eq_true, Bool.and_eq_false_iff, Bool.or_eq_false_iff, Bool.not_eq_true', Bool.not_eq_false', ne_eq, Decidable.not_not] at hc5
        refine WP.seq ?_
        refine WP.region ?_
        refine WPl.v rfl (o_build B23 rfl trivial rfl rfl) ?_
        refine WPl.s1 (o_stag G23 rfl rfl rfl ⟨rfl, rfl, trivial⟩ rfl rfl) ?_
        refine WPl.v rfl (o_assign rfl) ?_
        refine WPl.nil ?_
        refine EX.then ?_
        refine WP.ret ?_
        refine EX.ret_then ?_
        have hend : i = s.leadN (s.aft add) := by omega
        subst hend
        rw [hlr] at hc5
        have hLE : s.leadE add = 3 := by unfold Shop.leadE; rw [hE, if_pos rfl]; exact if_pos (by simpa using hc5)
        rw [hLE, show s.mLead add = (0, 0) from by unfold Shop.mLead; rw [hLE]; rfl]
        exact EX.fin id (.inl rfl) rfl (.cellg G23 rfl rfl rfl (.tmp rfl .nil)) rfl (by simp [SV.res, El.res, At.res, keys]) trivial (by simp) (by simp)
      · try simp only [decide_eq_true_eq, decide_eq_false_iff_not, Bool.and_eq_true, Bool.or_eq_true, Bool.and_eq_false_iff, Bool.or_eq_false_iff, Bool.not_eq_true', Bool.not_eq_false', ne_eq, Decidable.not_not] at hc5
        refine WP.skip ?_
        refine EX.then ?_
        refine WP.seq ?_
        refine WP.region ?_
        refine WPl.v rfl (o_ldpa G23 rfl rfl rfl) ?_
        refine WPl.s1 (o_stag G23 rfl rfl rfl ⟨rfl, rfl, trivial⟩ rfl rfl) ?_
        refine WPl.v rfl (o_assign rfl) ?_
        refine WPl.nil ?_
        refine EX.then ?_
        refine WP.ret ?_
        have hend : i = s.leadN (s.aft add) := by omega
        subst hend
        rw [hlr2 (by omega)]
        rw [hlr] at hc5
        have hLE : s.leadE add = 0 := by unfold Shop.leadE; rw [hE, if_pos rfl]; exact if_neg (by simpa using hc5)
        rw [hLE, show s.mLead add = s.leadTo (s.aft add) (s.leadN (s.aft add)) from by unfold Shop.mLead; rw [hLE]; rfl]
        exact EX.fin id (.inl rfl) rfl (.cellg G23 rfl rfl rfl (.tmp rfl .nil)) rfl (by simp [SV.res, El.res, At.res, keys]) trivial (by simp) (by simp)
end Go.Flong
namespace Go.Flong
open Go Go.Eng Go.Proofs
end Go.Flong
namespace Go.Proofs
open Go.Shelf Go.RowKit Go.Lib Go.Sort Go.Flong
def Try.sortOf_ren : Go.Shelf.Ren := ⟨fun | 6 => 107 | 15 => 114 | 14 => 113 | 28 => 124 | 29 => 125 | 20 => 116 | 21 => 117 | 22 => 118 | 23 => 119 | 24 => 120 | 25 => 121 | 26 => 122 | 27 => 123 | 46 => 126 | 47 => 127 | 48 => 128 | 49 => 129 | 50 => 130 | 57 => 131 | n => n, fun | 22 => 87 | 24 => 91 | 25 => 111 | 3 => 3 | 39 => 117 | 0 => 0 | 53 => 126 | 55 => 128 | 4 => 4 | 46 => 120 | 45 => 119 | 50 => 36 | 5 => 5 | 9 => 9 | 66 => 129 | 70 => 133 | 76 => 135 | 77 => 136 | n => n, fun | n => n⟩
theorem Try.sortOf : Go.Proofs.SlLaysF0.n6 Try.prog Try.sortOf_ren := {
  mixed := by kernel_rfl,
  f6 := ⟨Try.f107.name, by decide, Try.func107.trans (congrArg some (by kernel_rfl))⟩,
  f14 := ⟨Try.f113.name, by decide, Try.func113.trans (congrArg some (by kernel_rfl))⟩,
  f15 := Try.func114.trans (congrArg some (by kernel_rfl)),
  f20 := ⟨Try.f116.name, by decide, Try.func116.trans (congrArg some (by kernel_rfl))⟩,
  f21 := ⟨Try.f117.name, by decide, Try.func117.trans (congrArg some (by kernel_rfl))⟩,
  f22 := ⟨Try.f118.name, by decide, Try.func118.trans (congrArg some (by kernel_rfl))⟩,
  f23 := ⟨Try.f119.name, by decide, Try.func119.trans (congrArg some (by kernel_rfl))⟩,
  f24 := ⟨Try.f120.name, by decide, Try.func120.trans (congrArg some (by kernel_rfl))⟩,
  f25 := ⟨Try.f121.name, by decide, Try.func121.trans (congrArg some (by kernel_rfl))⟩,
  f26 := ⟨Try.f122.name, by decide, Try.func122.trans (congrArg some (by kernel_rfl))⟩,
  f27 := ⟨Try.f123.name, by decide, Try.func123.trans (congrArg some (by kernel_rfl))⟩,
  f28 := Try.func124.trans (congrArg some (by kernel_rfl)),
  f29 := Try.func125.trans (congrArg some (by kernel_rfl)),
  f46 := ⟨Try.f126.name, by decide, Try.func126.trans (congrArg some (by kernel_rfl))⟩,
  f47 := Try.func127.trans (congrArg some (by kernel_rfl)),
  f48 := Try.func128.trans (congrArg some (by kernel_rfl)),
  f49 := ⟨Try.f129.name, by decide, Try.func129.trans (congrArg some (by kernel_rfl))⟩,
  f50 := ⟨Try.f130.name, by decide, Try.func130.trans (congrArg some (by kernel_rfl))⟩,
  f57 := ⟨Try.f131.name, by decide, Try.func131.trans (congrArg some (by kernel_rfl))⟩,
  t0 := Try.underlying0,
  a0 := Try.isAgg0,
  z0 := Try.sizeOf0,
  v0 := Try.zeroValue0,
  t3 := Try.underlying3,
  a3 := Try.isAgg3,
  z3 := Try.sizeOf3,
  v3 := Try.zeroValue3,
  t4 := Try.underlying4,
  a4 := Try.isAgg4,
  z4 := Try.sizeOf4,
  v4 := Try.zeroValue4,
  t5 := Try.underlying5,
  a5 := Try.isAgg5,
  z5 := Try.sizeOf5,
  v5 := Try.zeroValue5,
  t9 := Try.underlying9,
  a9 := Try.isAgg9,
  z9 := Try.sizeOf9,
  v9 := Try.zeroValue9,
  t22 := Try.underlying87,
  a22 := Try.isAgg87,
  z22 := Try.sizeOf87,
  v22 := Try.zeroValue87,
  t25 := Try.underlying111,
  a25 := Try.isAgg111,
  z25 := Try.sizeOf111,
  v25 := Try.zeroValue111,
  t39 := Try.underlying117,
  a39 := Try.isAgg117,
  z39 := Try.sizeOf117,
  v39 := Try.zeroValue117,
  t45 := Try.underlying119,
  a45 := Try.isAgg119,
  z45 := Try.sizeOf119,
  v45 := Try.zeroValue119,
  t46 := Try.underlying120,
  a46 := Try.isAgg120,
  z46 := Try.sizeOf120,
  v46 := Try.zeroValue120,
  t50 := Try.underlying36,
  a50 := Try.isAgg36,
  z50 := Try.sizeOf36,
  v50 := Try.zeroValue36,
  t53 := Try.underlying126,
  a53 := Try.isAgg126,
  z53 := Try.sizeOf126,
  v53 := Try.zeroValue126,
  t55 := Try.underlying128,
  a55 := Try.isAgg128,
  z55 := Try.sizeOf128,
  v55 := Try.zeroValue128,
  t66 := Try.underlying129,
  a66 := Try.isAgg129,
  z66 := Try.sizeOf129,
  v66 := Try.zeroValue129,
  t70 := Try.underlying133,
  a70 := Try.isAgg133,
  z70 := Try.sizeOf133,
  v70 := Try.zeroValue133,
  t76 := Try.underlying135,
  a76 := Try.isAgg135,
  z76 := Try.sizeOf135,
  v76 := Try.zeroValue135,
  t77 := Try.underlying136,
  a77 := Try.isAgg136,
  z77 := Try.sizeOf136,
  v77 := Try.zeroValue136 }
def Try.cmpOf_ren : Go.Shelf.Ren := ⟨fun | 5 => 109 | 7 => 115 | n => n, fun | 22 => 3 | 3 => 3 | 4 => 4 | n => n, fun | n => n⟩
theorem Try.cmpOf : Go.Proofs.SlLaysC2.n5 Try.prog Try.cmpOf_ren := {
  mixed := by kernel_rfl,
  f5 := ⟨Try.f109.name, by decide, Try.func109.trans (congrArg some (by kernel_rfl))⟩,
  f7 := ⟨Try.f115.name, by decide, Try.func115.trans (congrArg some (by kernel_rfl))⟩,
  t3 := Try.underlying3,
  a3 := Try.isAgg3,
  z3 := Try.sizeOf3,
  v3 := Try.zeroValue3,
  t4 := Try.underlying4,
  a4 := Try.isAgg4,
  z4 := Try.sizeOf4,
  v4 := Try.zeroValue4,
  t22 := Try.underlying3,
  a22 := Try.isAgg3,
  z22 := Try.sizeOf3,
  v22 := Try.zeroValue3 }
set_option maxHeartbeats 1000000 in
theorem Try.closureOf (x y : Offer) (W : World) : Calls Try.prog 108 #[.agg #[.int .i64 x.pence, .int .i64 x.tl, .int .i64 x.th, .int .i64 x.al, .int .i64 x.ah], .agg #[.int .i64 y.pence, .int .i64 y.tl, .int .i64 y.th, .int .i64 y.al, .int .i64 y.ah]] W fun e w' => e = .returned (.int .i64 (Lib.compareInt x.pence y.pence)) ∧ ∃ q os', w' = grow (W.drewN q) os' := by
  have hcon := fun W' => AnyG.cmp_Compare_int Try.cmpOf x.pence y.pence W'
  change ∀ W', Calls Try.prog 109 _ _ _ at hcon
  generalize Lib.compareInt x.pence y.pence = r at hcon ⊢
  go_enter Try.func108, Try.ntmps108
  go_wp2_with (go_at_call 109; refine (hcon _).mono ?_; rintro e w' ⟨rfl, rfl⟩)
  go_ret
  exact ⟨rfl, 0, _, by rw [alloc_eq_grow, alloc_eq_grow, grow_grow]; rfl⟩
theorem Try.cmpLaysOf (blk off size : Nat) (w : World) : CmpLays Try.prog 108 #[] encOf 5 offCf blk off size w := fun _ _ _ _ x y => Try.closureOf x y _
end Go.Proofs
namespace Go.Flong
open Go Go.Eng Go.Proofs
theorem c107 {l : List Offer} (hl : l.length < 4611686018427387904) : SigR Try.prog 107 (.func (.func 108) #[] #[]) EOf 91 l (sortL offCf l) :=
  sortSig Try.sortOf Try.isAgg91 Try.sizeOf91 (fun _ => rfl) (fun x v hv => by simp [encOf] at hv; rcases hv with rfl | rfl | rfl | rfl | rfl <;> rfl) offSwo Try.call108 Try.cmpLaysOf encOf_iff rfl hl
end Go.Flong
namespace Go.Flong
open Go Go.Eng Go.Proofs
theorem Z87 : Zero Try.prog 87 [.v (.slice none 0 0)] := .mk Try.zeroValue87 rfl rfl
theorem S87 : TyS Try.prog 87 := ⟨Try.isAgg87, Try.sizeOf87⟩
theorem B91 : BldT Try.prog 91 [(0, 1), (1, 2), (3, 2)] [.int .i64 0, .int .i64 0, .int .i64 0, .int .i64 0, .int .i64 0] := BldT.mk (ns := [1, 2, 2]) Try.underlying91 ⟨Try.sizeOf3, Try.sizeOf23, Try.sizeOf23, trivial⟩ rfl Try.zeroValue91 rfl
theorem R87 : RowT Try.prog 87 91 5 40 [.int .i64 0, .int .i64 0, .int .i64 0, .int .i64 0, .int .i64 0] := ⟨Try.underlying87, ⟨Try.t91, _, by kernel_rfl, rfl, rfl, rfl, rfl⟩, rfl, by decide⟩
theorem e107 : Enters' Try.prog 107 := Try.call107
theorem L87 : IsSl Try.prog 87 91 5 := ⟨Try.underlying87, Try.sizeOf91⟩
theorem G91 : TyG Try.prog 91 5 := ⟨Try.isAgg91, Try.sizeOf91⟩
abbrev HitQ (h : Offer → Bool) : Pred := Pred.all fun (o : Offer) => FvP Try.prog [.e (.g [ai (o.pence), ai (o.tl), ai (o.th), ai (o.al), ai (o.ah)])] [] (.b (h o)) []
theorem F91_1 : Fld Try.prog 91 1 1 := .mk Try.underlying91 rfl rfl rfl Try.sizeOf23 rfl
theorem F91_2 : Fld Try.prog 91 2 3 := .mk Try.underlying91 rfl rfl rfl Try.sizeOf23 rfl
theorem e78 : Enters' Try.prog 78 := Try.call78
theorem Z3 : Zero Try.prog 3 [ai (0)] := .mk Try.zeroValue3 rfl rfl
theorem e80 : Enters' Try.prog 80 := Try.call80
theorem e79 : Enters' Try.prog 79 := Try.call79
theorem F91_0 : Fld Try.prog 91 0 0 := .mk Try.underlying91 rfl rfl rfl Try.sizeOf3 rfl
theorem e58 : Enters' Try.prog 58 := Try.call58
theorem e31 : Enters' Try.prog 31 := Try.call31
theorem w78 {s : Shop} : ∀ x ∈ ([.e (.g [ai (s.pounds), ai (s.tl), ai (s.th), ai (s.al), ai (s.ah), ai (s.room), ai (s.tpl), ai (s.tph), ai (s.apl), ai (s.aph), .q 0])] : List SV), x.res (keys (α := Pred) [(0, PL EPig (s.pigs))]) := by simp [SV.res, El.res, At.res, keys]
theorem r78 {s : Shop} : SV.res (keys (α := Pred) [(0, PL EOf (s.offS))]) (.e (.a (.q 0))) := by simp [SV.res, El.res, At.res, keys]
set_option maxHeartbeats 4000000 in
theorem c78 (s : Shop) (hs : s.chk = true) : Sig Try.prog 78 [.e (.g [ai (s.pounds), ai (s.tl), ai (s.th), ai (s.al), ai (s.ah), ai (s.room), ai (s.tpl), ai (s.tph), ai (s.apl), ai (s.aph), .q 0])] [(0, PL EPig (s.pigs))] (.e (.a (.q 0))) [(0, PL EOf (s.offS))] := by
  have hpg := Shop.pigsOK hs
  have hp4 := hpg.2
  have htb := tl_bnd hs
  have hal := adL_len hpg
  refine Sig.intro Try.func78 rfl 1 [(0, .e (.g [ai (s.pounds), ai (s.tl), ai (s.th), ai (s.al), ai (s.ah), ai (s.room), ai (s.tpl), ai (s.tph), ai (s.apl), ai (s.aph), .q 0]))] rfl w78 rfl rfl fun I w => ?_
  refine WP.seq ?_
  refine WP.region ?_
  refine WPl.l 1 2 rfl rfl rfl (o_boxg rfl) ?_
  refine WPl.v rfl (o_assign rfl) ?_
  refine WPl.nil ?_
  refine EX.then ?_
  refine WP.seq ?_
  refine WP.region ?_
  refine WPl.l 2 3 rfl rfl rfl (o_alloc Z87) ?_
  refine WPl.nil ?_
  refine EX.then ?_
  refine WP.seq ?_
  refine WP.seq ?_
  refine WP.region ?_
  refine WPl.v rfl (o_ldpa G78 rfl rfl rfl) ?_
  refine WPl.x 3 4 rfl rfl rfl (o_mkbit 3 (ren [(0, 0)]) (c95 s hs) e95 rfl SvsOK.rf w95 ⟨(lx rfl), trivial⟩) ?_
  refine WPl.nil ?_
  refine EX.then ?_
  refine WP.block ?_
  refine WP.leR (S' := ⟨4, [(1, .e (.a (.p 1 (0)))), (2, .e (.a (.v (.slice none 0 0)))), (3, .e (.a (.p 2 (0)))), (7, .e (.a (.q 3)))], [(0, PL EPig (s.pigs)), (3, ItQ Try.prog s.adItems)], [(1, .blk [ai (s.pounds), ai (s.tl), ai (s.th), ai (s.al), ai (s.ah), ai (s.room), ai (s.tpl), ai (s.tph), ai (s.apl), ai (s.aph), .q 0] 78), (2, .blk [.v (.slice none 0 0)] 87)], [], []⟩) id (LeR.of ⟨rfl, rfl, rfl, rfl, trivial⟩ ⟨(lx rfl), (lx rfl), trivial⟩ ⟨rfl, rfl, trivial⟩ rfl rfl rfl rfl rfl) ?_
  refine WP.imp (Imp.namo EOf 4 5 91 rfl rfl) ?_
  refine WP.imp (Imp.swL 2 0 4 rfl rfl (lx rfl)) ?_
  refine WP.rangeV 8 1 (s.adL.length) (fun i => ⟨[.e (.a (.q 0))], [(0, PL EP.int ((nth s.adL (i : Int))))], []⟩) (fun i => ⟨8, [(1, .e (.a (.p 1 (0)))), (2, .e (.a (.v (.slice none 0 0)))), (3, .e (.a (.p 2 (0)))), (7, .e (.a (.q 3)))], [(0, PL EPig (s.pigs)), (3, ItQ Try.prog s.adItems), (4, Pred.is (.slice none 0 0))], [(1, .blk [ai (s.pounds), ai (s.tl), ai (s.th), ai (s.al), ai (s.ah), ai (s.room), ai (s.tpl), ai (s.tph), ai (s.apl), ai (s.aph), .q 0] 78), (2, .blk [.q 7] 87), (5, .ob (.deferred (some []))), (7, .own 91 EOf.size (s.offTo i).length (RP EOf (s.offTo i)))], [5], []⟩) (fun _ _ => False) rfl  rfl (ItQ.hit (lx rfl)) (rfl) (fun _ => RSt.of rfl rfl rfl rfl rfl rfl) (fun _ _ h => h.elim) rfl rfl rfl (fun _ _ => ItemOK.of rfl) rfl rfl (ren [(7, 4)]) (LeR.of ⟨rfl, rfl, rfl, rfl, trivial⟩ ⟨(lx rfl), (lx rfl), (lx rfl), trivial⟩ ⟨rfl, rfl, rfl, rfl, trivial⟩ rfl rfl rfl rfl rfl) ?_ ?_ ?_
  · intro i hi w1 E1 I1 R1 pβ1 pν1 us1
    have hx := isAddB hpg (adL_at hi)
    have hq0 := sumOf_bnd (f := Pig.pounds) hpg (by omega) hx.2.2 (fun p h => by have := Pig.bnds h; omega)
    have hq1 := sumOf_bnd (f := Pig.tin) hpg (by omega) hx.2.2 (fun p h => by have := Pig.bnds h; omega)
    have hq2 := sumOf_bnd (f := Pig.ant) hpg (by omega) hx.2.2 (fun p h => by have := Pig.bnds h; omega)
    have hj0 := justB (a := s.tpl) (n := s.pounds + sumOf Pig.pounds s.pigs (nth s.adL (i : Int))) (by omega) (by omega)
    have hj1 := justB (a := s.tph) (n := s.pounds + sumOf Pig.pounds s.pigs (nth s.adL (i : Int))) (by omega) (by omega)
    have hj2 := justB (a := s.apl) (n := s.pounds + sumOf Pig.pounds s.pigs (nth s.adL (i : Int))) (by omega) (by omega)
    have hj3 := justB (a := s.aph) (n := s.pounds + sumOf Pig.pounds s.pigs (nth s.adL (i : Int))) (by omega) (by omega)
    refine WP.region ?_
    refine WPl.v rfl (o_assign rfl) ?_
    refine WPl.nil ?_
    refine EX.beg rfl ?_
    refine WP.block ?_
    refine WP.seq ?_
    refine WP.imp (Imp.nam 9 10 (.func (.func 103) #[] #[]) (R := (PigQ Pig.pounds).and (Pred.is (.func (.func 103) #[] #[]))) (fun I => FvP.namea (fun (x : Pig) => (c103 x)) e103 (fun _ => (by simp [SV.res, El.res, At.res, keys])) I) rfl rfl) ?_
    refine WP.draw (nf := 10) [⟨[13, 14, 15], [], [], [], []⟩, ⟨[13, 14, 15], [], [], [], [0]⟩, ⟨[13, 14, 15], [], [], [], [0, 1]⟩, ⟨[13, 14, 15], [], [], [], [0, 1, 2]⟩, ⟨[9, 10, 11, 12, 14], [], [], [], []⟩, ⟨[9, 10, 11, 12, 13], [], [], [], []⟩, ⟨[9, 10, 11, 12], [], [], [], [4, 5]⟩, ⟨[], [], [], [], [0, 1, 2, 3, 4, 5, 6]⟩, ⟨[], [], [], [], [0, 1, 2, 3, 4, 5, 6, 7]⟩] (by kernel_rfl) (by kernel_rfl) ?_
    refine DRQ.v rfl rfl rfl (o_fldp F78_0 rfl) ?_
    refine DRQ.v rfl rfl rfl (o_fldp F28_0 rfl) ?_
    refine DRQ.v rfl rfl rfl (o_fldp F25_0 rfl) ?_
    refine DRQ.v rfl rfl rfl (o_ldp S3 rfl rfl rfl) ?_
    refine DRQ.v rfl rfl rfl (o_ldpa G78 rfl rfl rfl) ?_
    refine DRQ.v rfl rfl rfl (o_move rfl) ?_
    refine DRQ.cs rfl rfl rfl rfl (o_sigc 10 (ren [(0, 0), (1, 8), (2, 9)]) (c101 s (nth s.adL (i : Int)) Pig.pounds hpg hx.2.2 (by omega) (fun p h => by have := Pig.bnds h; (show 0 ≤ p.pounds ∧ p.pounds ≤ 99); omega)) e101 rfl rfl ⟨.inl rfl, .inl rfl, .inr ⟨_, _, rfl, fun _ => rfl, (lxr rfl)⟩, trivial⟩ w101 ⟨(lx rfl), (lx rfl), (lxl rfl), trivial⟩ r101) ?_
    refine DRQ.v rfl rfl rfl (o_add rfl rfl (by first | omega | (simp; omega)) (by first | omega | (simp; omega))) ?_
    refine DRQ.v rfl rfl rfl (o_assign rfl) ?_
    refine DRQ.nil' ?_
    refine EX.then ?_
    refine WP.imp (Imp.nam 10 11 (.func (.func 106) #[] #[]) (R := (PigQ Pig.pence).and (Pred.is (.func (.func 106) #[] #[]))) (fun I => FvP.namea (fun (x : Pig) => (c106 x)) e106 (fun _ => (by simp [SV.res, El.res, At.res, keys])) I) rfl rfl) ?_
    refine WP.imp (Imp.nam 11 12 (.func (.func 102) #[] #[]) (R := (PigQ Pig.tin).and (Pred.is (.func (.func 102) #[] #[]))) (fun I => FvP.namea (fun (x : Pig) => (c102 x)) e102 (fun _ => (by simp [SV.res, El.res, At.res, keys])) I) rfl rfl) ?_
    refine WP.imp (Imp.nam 12 13 (.func (.func 105) #[] #[]) (R := (PigQ Pig.ant).and (Pred.is (.func (.func 105) #[] #[]))) (fun I => FvP.namea (fun (x : Pig) => (c105 x)) e105 (fun _ => (by simp [SV.res, El.res, At.res, keys])) I) rfl rfl) ?_
    refine WP.draw (nf := 15) [⟨[18, 19, 20, 21, 22, 23, 24, 25, 26, 27, 28, 29, 30, 31, 32, 33, 34, 35, 36, 37, 38, 39, 40, 41, 42], [13], [], [], []⟩, ⟨[17, 19, 21, 22, 23, 24, 26, 27, 31, 32, 33, 34, 36, 37], [], [], [], []⟩, ⟨[17, 18, 21, 22, 23, 24, 26, 27, 31, 32, 33, 34, 36, 37], [], [], [], []⟩, ⟨[17, 21, 22, 23, 24, 26, 27, 31, 32, 33, 34, 36, 37], [], [], [], [1, 2]⟩, ⟨[17, 18, 19, 20, 24, 26, 27, 31, 32, 33, 34, 36, 37], [], [], [], []⟩, ⟨[17, 18, 19, 20, 24, 26, 27, 31, 32, 33, 34, 36, 37], [], [], [], [4]⟩, ⟨[17, 18, 19, 20, 24, 26, 27, 31, 32, 33, 34, 36, 37], [], [], [], [4, 5]⟩, ⟨[17, 18, 19, 20, 21, 22, 23, 26, 27, 31, 32, 33, 34, 36, 37], [], [], [], []⟩, ⟨[17, 26, 27, 31, 32, 33, 34, 36, 37], [], [], [], [1, 2, 3, 4, 5, 6, 7]⟩, ⟨[17, 18, 19, 20, 21, 22, 23, 24, 25, 27, 31, 32, 33, 34, 36, 37], [], [], [], []⟩, ⟨[17, 18, 19, 20, 21, 22, 23, 24, 25, 26, 31, 32, 33, 34, 36, 37], [], [], [], []⟩, ⟨[17, 31, 32, 33, 34, 36, 37], [], [], [], [1, 2, 3, 4, 5, 6, 7, 8, 9, 10]⟩, ⟨[17, 31, 32, 33, 34, 36, 37], [], [], [], [1, 2, 3, 4, 5, 6, 7, 8, 9, 10, 11]⟩, ⟨[17, 31, 32, 33, 34, 36, 37], [], [], [], [1, 2, 3, 4, 5, 6, 7, 8, 9, 10, 11, 12]⟩, ⟨[17, 18, 19, 20, 21, 22, 23, 24, 25, 26, 27, 28, 29, 30, 34, 36, 37], [], [], [], []⟩, ⟨[17, 18, 19, 20, 21, 22, 23, 24, 25, 26, 27, 28, 29, 30, 34, 36, 37], [], [], [], [14]⟩, ⟨[17, 18, 19, 20, 21, 22, 23, 24, 25, 26, 27, 28, 29, 30, 34, 36, 37], [], [], [], [14, 15]⟩, ⟨[17, 18, 19, 20, 21, 22, 23, 24, 25, 26, 27, 28, 29, 30, 31, 32, 33, 36, 37], [], [], [], []⟩, ⟨[17, 36, 37], [], [], [], [1, 2, 3, 4, 5, 6, 7, 8, 9, 10, 11, 12, 13, 14, 15, 16, 17]⟩, ⟨[17, 18, 19, 20, 21, 22, 23, 24, 25, 26, 27, 28, 29, 30, 31, 32, 33, 34, 35, 37], [], [], [], []⟩, ⟨[17, 18, 19, 20, 21, 22, 23, 24, 25, 26, 27, 28, 29, 30, 31, 32, 33, 34, 35, 36], [], [], [], []⟩, ⟨[17], [], [], [], [1, 2, 3, 4, 5, 6, 7, 8, 9, 10, 11, 12, 13, 14, 15, 16, 17, 18, 19, 20]⟩, ⟨[17], [], [], [], [1, 2, 3, 4, 5, 6, 7, 8, 9, 10, 11, 12, 13, 14, 15, 16, 17, 18, 19, 20, 21]⟩, ⟨[17], [], [], [], [1, 2, 3, 4, 5, 6, 7, 8, 9, 10, 11, 12, 13, 14, 15, 16, 17, 18, 19, 20, 21, 22]⟩, ⟨[17], [], [], [], [1, 2, 3, 4, 5, 6, 7, 8, 9, 10, 11, 12, 13, 14, 15, 16, 17, 18, 19, 20, 21, 22, 23]⟩, ⟨[17], [], [13], [13, 13], [1, 2, 3, 4, 5, 6, 7, 8, 9, 10, 11, 12, 13, 14, 15, 16, 17, 18, 19, 20, 21, 22, 23, 24]⟩, ⟨[], [], [14], [14, 7], [0, 1, 2, 3, 4, 5, 6, 7, 8, 9, 10, 11, 12, 13, 14, 15, 16, 17, 18, 19, 20, 21, 22, 23, 24, 25]⟩, ⟨[], [], [], [2], [0, 1, 2, 3, 4, 5, 6, 7, 8, 9, 10, 11, 12, 13, 14, 15, 16, 17, 18, 19, 20, 21, 22, 23, 24, 25, 26]⟩] (by kernel_rfl) (by kernel_rfl) ?_
    refine DRQ.v rfl rfl rfl (o_ldp S87 rfl rfl rfl) ?_
    refine DRQ.v rfl rfl rfl (o_ldpa G78 rfl rfl rfl) ?_
    refine DRQ.v rfl rfl rfl (o_move rfl) ?_
    refine DRQ.cs rfl rfl rfl rfl (o_sigc 13 (ren [(0, 0), (1, 8), (2, 10)]) (c101 s (nth s.adL (i : Int)) Pig.pence hpg hx.2.2 (by omega) (fun p h => by have := Pig.bnds h; (show 0 ≤ p.pence ∧ p.pence ≤ 99); omega)) e101 rfl rfl ⟨.inl rfl, .inl rfl, .inr ⟨_, _, rfl, fun _ => rfl, (lxr rfl)⟩, trivial⟩ w101 ⟨(lx rfl), (lx rfl), (lxl rfl), trivial⟩ r101) ?_
    refine DRQ.v rfl rfl rfl (o_fldp F78_0 rfl) ?_
    refine DRQ.v rfl rfl rfl (o_fldp F28_2 rfl) ?_
    refine DRQ.v rfl rfl rfl (o_ldpg G23 rfl rfl rfl) ?_
    refine DRQ.v rfl rfl rfl (o_move rfl) ?_
    refine DRQ.cs rfl rfl rfl rfl (o_sig 13 id (c90 s.tpl s.tph (s.pounds + (sumOf Pig.pounds s.pigs (nth s.adL (i : Int)))) (by omega) (by omega) (by omega)) e90 rfl rfl rfl w90 trivial r90) ?_
    refine DRQ.v rfl rfl rfl (o_ldpa G78 rfl rfl rfl) ?_
    refine DRQ.v rfl rfl rfl (o_move rfl) ?_
    refine DRQ.cs rfl rfl rfl rfl (o_sigc 13 (ren [(0, 0), (1, 8), (2, 11)]) (c101 s (nth s.adL (i : Int)) Pig.tin hpg hx.2.2 (by omega) (fun p h => by have := Pig.bnds h; (show 0 ≤ p.tin ∧ p.tin ≤ 99); omega)) e101 rfl rfl ⟨.inl rfl, .inl rfl, .inr ⟨_, _, rfl, fun _ => rfl, (lxr rfl)⟩, trivial⟩ w101 ⟨(lx rfl), (lx rfl), (lxl rfl), trivial⟩ r101) ?_
    refine DRQ.v rfl rfl rfl (o_neg rfl (by first | omega | (simp; omega)) (by first | omega | (simp; omega))) ?_
    refine DRQ.cs rfl rfl rfl rfl (o_sig 13 id (c104 (justL s.tpl (s.pounds + (sumOf Pig.pounds s.pigs (nth s.adL (i : Int))))) (justH s.tph (s.pounds + (sumOf Pig.pounds s.pigs (nth s.adL (i : Int))))) (-(sumOf Pig.tin s.pigs (nth s.adL (i : Int)))) (by omega) (by omega) (by omega)) e104 rfl rfl rfl w104 trivial r104) ?_
    refine DRQ.v rfl rfl rfl (o_fldp F78_0 rfl) ?_
    refine DRQ.v rfl rfl rfl (o_fldp F28_3 rfl) ?_
    refine DRQ.v rfl rfl rfl (o_ldpg G23 rfl rfl rfl) ?_
    refine DRQ.v rfl rfl rfl (o_move rfl) ?_
    refine DRQ.cs rfl rfl rfl rfl (o_sig 13 id (c90 s.apl s.aph (s.pounds + (sumOf Pig.pounds s.pigs (nth s.adL (i : Int)))) (by omega) (by omega) (by omega)) e90 rfl rfl rfl w90 trivial r90) ?_
    refine DRQ.v rfl rfl rfl (o_ldpa G78 rfl rfl rfl) ?_
    refine DRQ.v rfl rfl rfl (o_move rfl) ?_
    refine DRQ.cs rfl rfl rfl rfl (o_sigc 13 (ren [(0, 0), (1, 8), (2, 12)]) (c101 s (nth s.adL (i : Int)) Pig.ant hpg hx.2.2 (by omega) (fun p h => by have := Pig.bnds h; (show 0 ≤ p.ant ∧ p.ant ≤ 99); omega)) e101 rfl rfl ⟨.inl rfl, .inl rfl, .inr ⟨_, _, rfl, fun _ => rfl, (lxr rfl)⟩, trivial⟩ w101 ⟨(lx rfl), (lx rfl), (lxl rfl), trivial⟩ r101) ?_
    refine DRQ.v rfl rfl rfl (o_neg rfl (by first | omega | (simp; omega)) (by first | omega | (simp; omega))) ?_
    refine DRQ.cs rfl rfl rfl rfl (o_sig 13 id (c104 (justL s.apl (s.pounds + (sumOf Pig.pounds s.pigs (nth s.adL (i : Int))))) (justH s.aph (s.pounds + (sumOf Pig.pounds s.pigs (nth s.adL (i : Int))))) (-(sumOf Pig.ant s.pigs (nth s.adL (i : Int)))) (by omega) (by omega) (by omega)) e104 rfl rfl rfl w104 trivial r104) ?_
    refine DRQ.v rfl rfl rfl (o_build B91 rfl ⟨rfl, trivial⟩ rfl rfl) ?_
    refine DRQ.u1 13 rfl rfl rfl (OpG.newer0 (o_bsl (E := EOf) (l := [(s.offer (nth s.adL (i : Int)))]) R87 rfl rfl (.cons (⟨rfl, rfl, rfl, rfl, rfl, trivial⟩) rfl (eok_str ⟨rfl, rfl, rfl, rfl, rfl, trivial⟩) (.nil)) rfl rfl)) rfl ?_
    have hol := offTo_len s i
    refine DRQ.l2 14 7 rfl rfl rfl rfl (o_appo R87 EP.str_one rfl rfl rfl rfl (by first | omega | (simp; omega) | (simp at *; omega)) (by first | omega | (simp; omega) | (simp at *; omega))) ?_
    refine DRQ.s 2 rfl rfl rfl (o_sta S87 rfl rfl rfl (.inr ⟨_, _, _, _, rfl⟩) rfl) ?_
    refine DRQ.nil' ?_
    refine EX.blk ?_
    exact EX.next (ren [(7, 14)]) (LeR.of trivial ⟨(lx rfl), (lx rfl), (lx rfl), trivial⟩ ⟨rfl, rfl, rfl, rfl, rfl, trivial⟩ rfl rfl rfl rfl rfl)
  · exact fun _ _ h => h.elim
  · skip
    refine EX.blk ?_
    refine EX.then ?_
    refine WP.seq ?_
    refine WP.region ?_
    refine WPl.v rfl (o_ldp S87 rfl rfl rfl) ?_
    refine WPl.cL (X' := []) 8 rfl rfl rfl rfl rfl (o_sigr (E := EOf) (c107 (l := s.offTo s.adL.length) (by rw [offTo_len]; omega)) e107 rfl rfl rfl) ?_
    refine WPl.nil ?_
    refine EX.then ?_
    refine WP.seq ?_
    refine WP.region ?_
    refine WPl.v rfl (o_ldp S87 rfl rfl rfl) ?_
    refine WPl.v rfl (o_assign rfl) ?_
    refine WPl.nil ?_
    refine EX.then ?_
    refine WP.ret ?_
    refine EX.imp (Imp.frz (E := EOf) (l := sortL offCf (s.offTo s.adL.length)) 7 rfl rfl) ?_
    exact EX.fin (ren [(0, 7)]) (.inl rfl) rfl (.tmp rfl .nil) rfl r78 ⟨(lx rfl), trivial⟩ (marks rfl) (by simp)
theorem w79 {l : List Offer} {h : Offer → Bool} : ∀ x ∈ ([.e (.a (.q 0)), .e (.a (.q 1))] : List SV), x.res (keys (α := Pred) [(0, PL EOf (l)), (1, HitQ h)]) := by simp [SV.res, El.res, At.res, keys]
theorem r79 {l : List Offer} {h : Offer → Bool} : SV.res (keys (α := Pred) []) (.i (idxF h l)) := by simp [SV.res, El.res, At.res, keys]
set_option maxHeartbeats 4000000 in
theorem c79 (l : List Offer) (h : Offer → Bool) (hl : l.length ≤ 10000) : Sig Try.prog 79 [.e (.a (.q 0)), .e (.a (.q 1))] [(0, PL EOf (l)), (1, HitQ h)] (.i (idxF h l)) [] := by
  refine Sig.intro Try.func79 rfl 2 [(0, .e (.a (.q 0))), (1, .e (.a (.q 1)))] rfl w79 rfl rfl fun I w => ?_
  refine WP.seq ?_
  refine WP.region ?_
  refine WPl.v rfl (o_assign rfl) ?_
  refine WPl.nil ?_
  refine EX.then ?_
  refine WP.seq ?_
  refine WP.seq ?_
  refine WP.region ?_
  refine WPl.v rfl (o_move rfl) ?_
  refine WPl.v rfl (o_lenq L87 rfl (lx rfl)) ?_
  refine WPl.v rfl (o_move rfl) ?_
  refine WPl.nil ?_
  refine EX.then ?_
  refine WP.block ?_
  refine WP.loop (Gh := Nat) (fun i => ⟨2, [(0, .e (.a (.q 0))), (1, .e (.a (.q 1))), (4, .i (0)), (7, .i ((l.length : Int))), (8, .i ((i : Int)))], [(0, PL EOf (l)), (1, HitQ h)], [], [], []⟩) (fun i => i ≤ l.length ∧ allI (missF h l) i = true) (fun i => l.length - i) (0) id ?_ (LeR.of ⟨rfl, rfl, rfl, rfl, rfl, trivial⟩ ⟨(lx rfl), (lx rfl), trivial⟩ trivial rfl rfl rfl rfl rfl) ?_
  · exact ⟨by omega, rfl⟩
  intro i hφ
  have hi : i ≤ l.length := hφ.1
  have hall := hφ.2
  refine WP.seq ?_
  refine WP.region ?_
  refine WPl.v rfl (o_lss rfl rfl) ?_
  refine WPl.nil ?_
  refine EX.then ?_
  refine WP.seq ?_
  refine WP.cond rfl (fun hc1 => ?_) (fun hc1 => ?_)
  · try simp only [decide_eq_true_eq, decide_eq_false_iff_not, Bool.and_eq_true, Bool.or_eq_true, Bool.and_eq_false_iff, Bool.or_eq_false_iff, Bool.not_eq_true', Bool.not_eq_false', ne_eq, Decidable.not_not] at hc1
    refine WP.skip ?_
    refine EX.then ?_
    refine WP.seq ?_
    refine WP.block ?_
    refine WP.seq ?_
    refine WP.region ?_
    refine WPl.v rfl (o_move rfl) ?_
    refine WPl.v rfl (o_assign rfl) ?_
    refine WPl.nil ?_
    refine EX.then ?_
    refine WP.seq ?_
    refine WP.region ?_
    refine WPl.v rfl (o_move rfl) ?_
    refine WPl.v rfl (o_move rfl) ?_
    refine WPl.v rfl (o_move rfl) ?_
    refine WPl.x 2 3 rfl rfl rfl (o_idx L87 rfl (lx rfl) rfl (by first | omega | (simp; omega)) (by first | omega | (simp; omega))) ?_
    refine WPl.v rfl (o_ldqg G91 rfl (lx rfl) (strG rfl) rfl rfl) ?_
    refine WPl.cs 3 rfl rfl rfl rfl (o_callfv (svs := [.e (.g [ai ((nth l (i : Int)).pence), ai ((nth l (i : Int)).tl), ai ((nth l (i : Int)).th), ai ((nth l (i : Int)).al), ai ((nth l (i : Int)).ah)])]) 3 id rfl (Has.of (lx rfl) fun _ _ h => h ((nth l (i : Int)))) rfl rfl SvsOK.rf (by simp [SV.res, El.res, At.res, keys]) trivial (by simp [SV.res, El.res, At.res, keys])) ?_
    refine WPl.nil ?_
    refine EX.then ?_
    refine WP.cond rfl (fun hc2 => ?_) (fun hc2 => ?_)
    · try simp only [decide_eq_true_eq, decide_eq_false_iff_not, Bool.and_eq_true, Bool.or_eq_true, Bool.and_eq_false_iff, Bool.or_eq_false_iff, Bool.not_eq_true', Bool.not_eq_false', ne_eq, Decidable.not_not] at hc2
      refine WP.seq ?_
      refine WP.region ?_
      refine WPl.v rfl (o_move rfl) ?_
      refine WPl.v rfl (o_assign rfl) ?_
      refine WPl.nil ?_
      refine EX.then ?_
      refine WP.ret ?_
      refine EX.ret_blk ?_
      refine EX.ret_then ?_
      refine EX.ret_then ?_
      refine EX.ret_blk ?_
      refine EX.ret_then ?_
      rw [show idxF h l = (i : Int) from idxF_at (by omega) hall hc2]
      exact EX.fin id (.inl rfl) rfl (.tmp rfl .nil) rfl (by simp [SV.res, El.res, At.res, keys]) trivial (by simp) (by simp)
    · try simp only [decide_eq_true_eq, decide_eq_false_iff_not, Bool.and_eq_true, Bool.or_eq_true, Bool.and_eq_false_iff, Bool.or_eq_false_iff, Bool.not_eq_true', Bool.not_eq_false', ne_eq, Decidable.not_not] at hc2
      refine WP.skip ?_
      refine EX.blk ?_
      refine EX.then ?_
      refine WP.region ?_
      refine WPl.v rfl (o_add rfl rfl (by first | omega | (simp; omega)) (by first | omega | (simp; omega))) ?_
      refine WPl.v rfl (o_move rfl) ?_
      refine WPl.nil ?_
      refine EX.again (i + 1) id (by exact ⟨by omega, by simp only [allI, hall, Bool.true_and, missF]; rw [hc2]; rfl⟩) (by omega) (LeR.of ⟨rfl, rfl, rfl, rfl, rfl, trivial⟩ ⟨(lx rfl), (lx rfl), trivial⟩ trivial rfl rfl rfl rfl rfl)
  · try simp only [decide_eq_true_eq, decide_eq_false_iff_not, Bool.and_eq_true, Bool.or_eq_true, Bool.and_eq_false_iff, Bool.or_eq_false_iff, Bool.not_eq_true', Bool.not_eq_false', ne_eq, Decidable.not_not] at hc1
    refine WP.exit ?_
    refine EX.exit_then ?_
    refine EX.exit_then ?_
    refine EX.exit_blk ?_
    refine EX.then ?_
    refine WP.seq ?_
    refine WP.region ?_
    refine WPl.v rfl (o_assign rfl) ?_
    refine WPl.nil ?_
    refine EX.then ?_
    refine WP.ret ?_
    rw [show idxF h l = -1 from idxF_none (by rw [show l.length = i by omega]; exact hall)]
    exact EX.fin id (.inl rfl) rfl (.tmp rfl .nil) rfl (by simp [SV.res, El.res, At.res, keys]) trivial (by simp) (by simp)
theorem w80 {o : Offer} {t a : Int} : ∀ x ∈ ([.e (.g [ai (o.pence), ai (o.tl), ai (o.th), ai (o.al), ai (o.ah)]), .e (.a (.q 0)), .e (.a (.q 1))] : List SV), x.res (keys (α := Pred) [(0, PP EP.int (t)), (1, PP EP.int (a))]) := by simp [SV.res, El.res, At.res, keys]
theorem r80 {o : Offer} {t a : Int} : SV.res (keys (α := Pred) []) (.b (o.hit t a)) := by simp [SV.res, El.res, At.res, keys]
set_option maxHeartbeats 4000000 in
theorem c80 (o : Offer) (t a : Int)  : Sig Try.prog 80 [.e (.g [ai (o.pence), ai (o.tl), ai (o.th), ai (o.al), ai (o.ah)]), .e (.a (.q 0)), .e (.a (.q 1))] [(0, PP EP.int (t)), (1, PP EP.int (a))] (.b (o.hit t a)) [] := by
  refine Sig.intro Try.func80 rfl 2 [(0, .e (.g [ai (o.pence), ai (o.tl), ai (o.th), ai (o.al), ai (o.ah)])), (1, .e (.a (.q 0))), (2, .e (.a (.q 1)))] rfl w80 rfl rfl fun I w => ?_
  refine WP.seq ?_
  refine WP.region ?_
  refine WPl.l 2 3 rfl rfl rfl (o_boxg rfl) ?_
  refine WPl.v rfl (o_assign rfl) ?_
  refine WPl.nil ?_
  refine EX.then ?_
  refine WP.seq ?_
  refine WP.region ?_
  refine WPl.v rfl (o_ldq S3 rfl (lx rfl) intc) ?_
  refine WPl.v rfl (o_fldp F91_1 rfl) ?_
  refine WPl.v rfl (o_fldp F23_0 rfl) ?_
  refine WPl.v rfl (o_ldp S3 rfl rfl rfl) ?_
  refine WPl.v rfl (o_fldp F91_1 rfl) ?_
  refine WPl.v rfl (o_fldp F23_1 rfl) ?_
  refine WPl.v rfl (o_ldp S3 rfl rfl rfl) ?_
  refine WPl.cs 3 rfl rfl rfl rfl (o_sig 3 id (c81 t o.tl o.th) e81 rfl rfl rfl w81 trivial r81) ?_
  refine WPl.v rfl (o_move rfl) ?_
  refine WPl.bit 3 4 (within t o.tl o.th) rfl rfl ?_
  refine WPl.gv 3 rfl rfl (.plain rfl Iff.rfl rfl) (fun hb => o_ldq S3 rfl (lx rfl) intc) ?_
  refine WPl.gv 3 rfl rfl (.plain rfl Iff.rfl rfl) (fun hb => o_fldp F91_2 rfl) ?_
  refine WPl.gv 3 rfl rfl (.plain rfl Iff.rfl rfl) (fun hb => o_fldp F23_0 rfl) ?_
  refine WPl.gv 3 rfl rfl (.plain rfl Iff.rfl rfl) (fun hb => o_ldp S3 rfl rfl rfl) ?_
  refine WPl.gv 3 rfl rfl (.plain rfl Iff.rfl rfl) (fun hb => o_fldp F91_2 rfl) ?_
  refine WPl.gv 3 rfl rfl (.plain rfl Iff.rfl rfl) (fun hb => o_fldp F23_1 rfl) ?_
  refine WPl.gv 3 rfl rfl (.plain rfl Iff.rfl rfl) (fun hb => o_ldp S3 rfl rfl rfl) ?_
  refine WPl.gc0 3 rfl rfl (.plain rfl Iff.rfl rfl) (fun hb => o_sig 4 id (c81 a o.al o.ah) e81 rfl rfl rfl w81 trivial r81) ?_
  refine WPl.v rfl (o_and rfl rfl rfl id) ?_
  refine WPl.v rfl (o_assign rfl) ?_
  refine WPl.nil ?_
  refine EX.then ?_
  refine WP.ret ?_
  exact EX.fin id (.inl rfl) rfl (.tmp rfl .nil) rfl r80 trivial (by simp) (by simp)
theorem w31 {s : Shop} : ∀ x ∈ ([.e (.g [ai (s.pounds), ai (s.tl), ai (s.th), ai (s.al), ai (s.ah), ai (s.room), ai (s.tpl), ai (s.tph), ai (s.apl), ai (s.aph), .q 0])] : List SV), x.res (keys (α := Pred) [(0, PL EPig (s.pigs))]) := by simp [SV.res, El.res, At.res, keys]
theorem r31 {s : Shop} : SV.res (keys (α := Pred) []) (.t [.g [ai (s.mKnown.1), ai (s.mKnown.2)], .a (ai (s.kE))]) := by simp [SV.res, El.res, At.res, keys]
set_option maxHeartbeats 4000000 in
theorem c31 (s : Shop) (hl : s.pigs.length ≤ 40) : Sig Try.prog 31 [.e (.g [ai (s.pounds), ai (s.tl), ai (s.th), ai (s.al), ai (s.ah), ai (s.room), ai (s.tpl), ai (s.tph), ai (s.apl), ai (s.aph), .q 0])] [(0, PL EPig (s.pigs))] (.t [.g [ai (s.mKnown.1), ai (s.mKnown.2)], .a (ai (s.kE))]) [] := by
  refine Sig.intro Try.func31 rfl 1 [(0, .e (.g [ai (s.pounds), ai (s.tl), ai (s.th), ai (s.al), ai (s.ah), ai (s.room), ai (s.tpl), ai (s.tph), ai (s.apl), ai (s.aph), .q 0]))] rfl w31 rfl rfl fun I w => ?_
  refine WP.seq ?_
  refine WP.region ?_
  refine WPl.l 1 2 rfl rfl rfl (o_boxg rfl) ?_
  refine WPl.l 2 3 rfl rfl rfl (o_alloc Z23) ?_
  refine WPl.v rfl (o_assign rfl) ?_
  refine WPl.nil ?_
  refine EX.then ?_
  refine WP.seq ?_
  refine WP.region ?_
  refine WPl.v rfl (o_ldpa G28 rfl rfl rfl) ?_
  refine WPl.cs 4 rfl rfl rfl rfl (o_sig 3 (ren [(0, 0)]) (c69N s hl) e69 rfl rfl rfl w69N ⟨(lx rfl), trivial⟩ r69N) ?_
  refine WPl.v rfl (o_move rfl) ?_
  refine WPl.v rfl (o_extract rfl rfl) ?_
  refine WPl.v rfl (o_extract rfl rfl) ?_
  refine WPl.l 4 5 rfl rfl rfl (o_alloc Z78) ?_
  refine WPl.s1 (o_stag G78 rfl rfl rfl ⟨rfl, rfl, rfl, rfl, rfl, rfl, rfl, rfl, rfl, rfl, (.inl ⟨_, (lx rfl), PL.one⟩), trivial⟩ rfl rfl) ?_
  refine WPl.v rfl (o_assign rfl) ?_
  refine WPl.nil ?_
  refine EX.then ?_
  refine WP.seq ?_
  refine WP.seq ?_
  refine WP.region ?_
  refine WPl.v rfl (o_move rfl) ?_
  refine WPl.v rfl (o_neq rfl rfl) ?_
  refine WPl.nil ?_
  refine EX.then ?_
  refine WP.cond rfl (fun hc1 => ?_) (fun hc1 => ?_)
  · try simp only [decide_eq_true_eq, decide_eq_false_iff_not, Bool.and_eq_true, Bool.or_eq_true, Bool.and_eq_false_iff, Bool.or_eq_false_iff, Bool.not_eq_true', Bool.not_eq_false', ne_eq, Decidable.not_not] at hc1
    have hs : s.chk = false := errM_ne.1 (by simpa using hc1)
    refine WP.seq ?_
    refine WP.region ?_
    refine WPl.v rfl (o_build B23 rfl trivial rfl rfl) ?_
    refine WPl.v rfl (o_move rfl) ?_
    refine WPl.s1 (o_stag G23 rfl rfl rfl ⟨rfl, rfl, trivial⟩ rfl rfl) ?_
    refine WPl.v rfl (o_assign rfl) ?_
    refine WPl.nil ?_
    refine EX.then ?_
    refine WP.ret ?_
    refine EX.ret_then ?_
    have hE : s.kE = errM s.chk := by unfold Shop.kE; rw [hs]; rfl
    rw [hE, show s.mKnown = (0, 0) from by unfold Shop.mKnown; rw [hE, hs]; rfl]
    exact EX.fin id (.inl rfl) rfl (.cellg G23 rfl rfl rfl (.tmp rfl .nil)) rfl (by simp [SV.res, El.res, At.res, keys]) trivial (by simp) (by simp)
  · try simp only [decide_eq_true_eq, decide_eq_false_iff_not, Bool.and_eq_true, Bool.or_eq_true, Bool.and_eq_false_iff, Bool.or_eq_false_iff, Bool.not_eq_true', Bool.not_eq_false', ne_eq, Decidable.not_not] at hc1
    have hs : s.chk = true := errM_eq.1 (by simpa using hc1)
    have hpg := Shop.pigsOK hs
    have htb := tl_bnd hs
    have hal := adL_len hpg
    have hnT : s.nT = (s.th - s.tl + 1).toNat := rfl
    have hnA : s.nA = (s.ah - s.al + 1).toNat := rfl
    refine WP.skip ?_
    refine EX.then ?_
    refine WP.seq ?_
    refine WP.region ?_
    refine WPl.v rfl (o_ldpa G78 rfl rfl rfl) ?_
    refine WPl.cs 6 rfl rfl rfl rfl (o_sig 5 (ren [(0, 3)]) (c78 s hs) e78 rfl rfl rfl w78 ⟨(lx rfl), trivial⟩ r78) ?_
    refine WPl.v rfl (o_assign rfl) ?_
    refine WPl.nil ?_
    refine EX.then ?_
    refine WP.seq ?_
    refine WP.region ?_
    refine WPl.v rfl (o_build B23 rfl ⟨rfl, trivial⟩ rfl rfl) ?_
    refine WPl.l 6 7 rfl rfl rfl (o_alloc Z23) ?_
    refine WPl.s1 (o_stag G23 rfl rfl rfl ⟨rfl, rfl, trivial⟩ rfl rfl) ?_
    refine WPl.nil ?_
    refine EX.then ?_
    refine WP.seq ?_
    refine WP.seq ?_
    refine WP.region ?_
    refine WPl.v rfl (o_fldp F78_0 rfl) ?_
    refine WPl.v rfl (o_fldp F28_0 rfl) ?_
    refine WPl.v rfl (o_fldp F25_1 rfl) ?_
    refine WPl.v rfl (o_fldp F23_0 rfl) ?_
    refine WPl.v rfl (o_ldp S3 rfl rfl rfl) ?_
    refine WPl.l 7 8 rfl rfl rfl (o_alloc Z3) ?_
    refine WPl.s1 (o_sta S3 rfl rfl rfl rfl rfl) ?_
    refine WPl.nil ?_
    refine EX.then ?_
    refine WP.block ?_
    refine WP.loop (Gh := Nat) (fun i => ⟨8, [(2, .e (.a (.p 2 (0)))), (3, .i (0)), (4, .e (.a (.p 4 (0)))), (6, .e (.a (.q 5))), (7, .e (.a (.p 6 (0)))), (8, .e (.a (.p 7 (0))))], [(3, PL EPig (s.pigs)), (5, PL EOf (s.offS))], [(2, .blk [ai (0), ai (0)] 23), (4, .blk [ai (s.pounds), ai (s.tl), ai (s.th), ai (s.al), ai (s.ah), ai (s.room), ai (s.tpl), ai (s.tph), ai (s.apl), ai (s.aph), .q 3] 78), (6, .blk [ai ((s.knOut i).1), ai ((s.knOut i).2)] 23), (7, .blk [ai ((s.tl + (i : Int)))] 3)], [], []⟩) (fun i => i ≤ s.nT ∧ allI s.knRow i = true) (fun i => s.nT - i) (0) id ?_ (LeR.of ⟨rfl, rfl, rfl, rfl, rfl, rfl, trivial⟩ ⟨(lx rfl), (lx rfl), trivial⟩ ⟨rfl, rfl, rfl, (congrArg (fun z => some (Ent.blk z 3)) (List.cons_eq_cons.2 ⟨(congrArg (fun z => ai z) (show (s.tl) = ((fun i => (s.tl + (i : Int))) 0) from by simp)), (Eq.refl [])⟩)), trivial⟩ rfl rfl rfl rfl rfl) ?_
    · exact ⟨Nat.zero_le _, rfl⟩
    intro i hφ
    obtain ⟨hiN, hall⟩ : i ≤ s.nT ∧ allI s.knRow i = true := hφ
    have hkb := knOut_bnd hs hall
    refine WP.seq ?_
    refine WP.seq ?_
    refine WP.region ?_
    refine WPl.v rfl (o_ldp S3 rfl rfl rfl) ?_
    refine WPl.v rfl (o_fldp F78_0 rfl) ?_
    refine WPl.v rfl (o_fldp F28_0 rfl) ?_
    refine WPl.v rfl (o_fldp F25_1 rfl) ?_
    refine WPl.v rfl (o_fldp F23_1 rfl) ?_
    refine WPl.v rfl (o_ldp S3 rfl rfl rfl) ?_
    refine WPl.v rfl (o_leq rfl rfl) ?_
    refine WPl.nil ?_
    refine EX.then ?_
    refine WP.cond rfl (fun hc2 => ?_) (fun hc2 => ?_)
    · try simp only [decide_eq_true_eq, decide_eq_false_iff_not, Bool.and_eq_true, Bool.or_eq_true, Bool.and_eq_false_iff, Bool.or_eq_false_iff, Bool.not_eq_true', Bool.not_eq_false', ne_eq, Decidable.not_not] at hc2
      refine WP.skip ?_
      refine EX.then ?_
      refine WP.seq ?_
      refine WP.block ?_
      refine WP.seq ?_
      refine WP.region ?_
      refine WPl.v rfl (o_fldp F78_0 rfl) ?_
      refine WPl.v rfl (o_fldp F28_0 rfl) ?_
      refine WPl.v rfl (o_fldp F25_2 rfl) ?_
      refine WPl.v rfl (o_fldp F23_0 rfl) ?_
      refine WPl.imp (Imp.frzb (E := EP.int) (y := (s.tl + (i : Int))) 7 8 9 rfl rfl (bok_int) rfl rfl rfl) ?_
      refine WPl.v rfl (o_ldp S3 rfl rfl rfl) ?_
      refine WPl.l 9 10 rfl rfl rfl (o_alloc Z3) ?_
      refine WPl.s1 (o_sta S3 rfl rfl rfl rfl rfl) ?_
      refine WPl.nil ?_
      refine EX.then ?_
      refine WP.block ?_
      refine WP.loop (Gh := Nat) (fun j => ⟨10, [(2, .e (.a (.p 2 (0)))), (3, .i (0)), (4, .e (.a (.p 4 (0)))), (6, .e (.a (.q 5))), (7, .e (.a (.p 6 (0)))), (8, .e (.a (.q 8))), (29, .i ((s.tl + (i : Int)))), (30, .e (.a (.p 4 (0)))), (31, .e (.a (.p 4 (0)))), (32, .e (.a (.p 4 (1)))), (33, .e (.a (.p 4 (2)))), (34, .i (s.th)), (35, .b (decide ((s.tl + (i : Int)) ≤ s.th))), (38, .e (.a (.p 4 (0)))), (39, .e (.a (.p 4 (0)))), (40, .e (.a (.p 4 (3)))), (41, .e (.a (.p 4 (3)))), (42, .i (s.al)), (9, .e (.a (.p 9 (0))))], [(3, PL EPig (s.pigs)), (5, PL EOf (s.offS)), (8, PP EP.int ((s.tl + (i : Int))))], [(2, .blk [ai (0), ai (0)] 23), (4, .blk [ai (s.pounds), ai (s.tl), ai (s.th), ai (s.al), ai (s.ah), ai (s.room), ai (s.tpl), ai (s.tph), ai (s.apl), ai (s.aph), .q 3] 78), (6, .blk [ai ((s.knIn i (s.knOut i) j).1), ai ((s.knIn i (s.knOut i) j).2)] 23), (9, .blk [ai ((s.al + (j : Int)))] 3)], [], []⟩) (fun j => j ≤ s.nA ∧ allI (s.hitAt i) j = true) (fun j => s.nA - j) (0) id ?_ (LeR.of ⟨rfl, rfl, rfl, rfl, rfl, rfl, rfl, rfl, rfl, rfl, rfl, rfl, rfl, rfl, rfl, rfl, rfl, rfl, rfl, trivial⟩ ⟨(lx rfl), (lx rfl), (lx rfl), trivial⟩ ⟨rfl, rfl, rfl, (congrArg (fun z => some (Ent.blk z 3)) (List.cons_eq_cons.2 ⟨(congrArg (fun z => ai z) (show (s.al) = ((fun j => (s.al + (j : Int))) 0) from by simp)), (Eq.refl [])⟩)), trivial⟩ rfl rfl rfl rfl rfl) ?_
      · exact ⟨Nat.zero_le _, rfl⟩
      intro j hφ
      obtain ⟨hjN, hrow⟩ : j ≤ s.nA ∧ allI (s.hitAt i) j = true := hφ
      have hkb2 := knIn_bnd hs hkb hrow
      refine WP.seq ?_
      refine WP.seq ?_
      refine WP.region ?_
      refine WPl.v rfl (o_ldp S3 rfl rfl rfl) ?_
      refine WPl.v rfl (o_fldp F78_0 rfl) ?_
      refine WPl.v rfl (o_fldp F28_0 rfl) ?_
      refine WPl.v rfl (o_fldp F25_2 rfl) ?_
      refine WPl.v rfl (o_fldp F23_1 rfl) ?_
      refine WPl.v rfl (o_ldp S3 rfl rfl rfl) ?_
      refine WPl.v rfl (o_leq rfl rfl) ?_
      refine WPl.nil ?_
      refine EX.then ?_
      refine WP.cond rfl (fun hc3 => ?_) (fun hc3 => ?_)
      · try simp only [decide_eq_true_eq, decide_eq_false_iff_not, Bool.and_eq_true, Bool.or_eq_true, Bool.and_eq_false_iff, Bool.or_eq_false_iff, Bool.not_eq_true', Bool.not_eq_false', ne_eq, Decidable.not_not] at hc3
        refine WP.skip ?_
        refine EX.then ?_
        refine WP.seq ?_
        refine WP.block ?_
        refine WP.seq ?_
        refine WP.region ?_
        refine WPl.v rfl (o_move rfl) ?_
        refine WPl.imp (Imp.frzb (E := EP.int) (y := (s.al + (j : Int))) 9 10 11 rfl rfl (bok_int) rfl rfl rfl) ?_
        refine WPl.x 11 12 rfl rfl rfl (o_mkfva (svs := fun (o : Offer) => [.e (.g [ai (o.pence), ai (o.tl), ai (o.th), ai (o.al), ai (o.ah)])]) (X0 := fun (o : Offer) => []) (sv := fun (o : Offer) => .b ((fun o => o.hit (s.tl + (i : Int)) (s.al + (j : Int))) o)) (X := fun (o : Offer) => []) (cs := [.e (.a (.q 0)), .e (.a (.q 1))]) (Xc := [(0, PP EP.int ((s.tl + (i : Int)))), (1, PP EP.int ((s.al + (j : Int))))]) 11 (ren [(0, 8), (1, 10)]) (fun (o : Offer) => (c80 o (s.tl + (i : Int)) (s.al + (j : Int)))) e80 (fun _ => rfl) rfl SvsOK.rf (fun _ => (by simp [SV.res, El.res, At.res, keys])) (by simp [SV.res, El.res, At.res, keys]) ⟨(lx rfl), (lx rfl), trivial⟩) ?_
        refine WPl.cs 12 rfl rfl rfl rfl (o_sig 12 (ren [(0, 5), (1, 11)]) (c79 s.offS (fun o => o.hit (s.tl + (i : Int)) (s.al + (j : Int))) (by rw [offS_len]; omega)) e79 rfl rfl rfl w79 ⟨(lx rfl), (lx rfl), trivial⟩ r79) ?_
        refine WPl.v rfl (o_assign rfl) ?_
        refine WPl.nil ?_
        refine EX.then ?_
        refine WP.seq ?_
        refine WP.seq ?_
        refine WP.region ?_
        have hix := idxF_bnd (fun o => o.hit (s.tl + (i : Int)) (s.al + (j : Int))) s.offS
        refine WPl.v rfl (o_move rfl) ?_
        refine WPl.v rfl (o_lss rfl rfl) ?_
        refine WPl.nil ?_
        refine EX.then ?_
        refine WP.cond rfl (fun hc4 => ?_) (fun hc4 => ?_)
        · try simp only [decide_eq_true_eq, decide_eq_false_iff_not, Bool.and_eq_true, Bool.or_eq_true, Bool.and_eq_false_iff, Bool.or_eq_false_iff, Bool.not_eq_true', Bool.not_eq_false', ne_eq, Decidable.not_not] at hc4
          refine WP.seq ?_
          refine WP.region ?_
          refine WPl.v rfl (o_build B23 rfl trivial rfl rfl) ?_
          refine WPl.s1 (o_stag G23 rfl rfl rfl ⟨rfl, rfl, trivial⟩ rfl rfl) ?_
          refine WPl.v rfl (o_assign rfl) ?_
          refine WPl.nil ?_
          refine EX.then ?_
          refine WP.ret ?_
          refine EX.ret_then ?_
          refine EX.ret_blk ?_
          refine EX.ret_then ?_
          refine EX.ret_then ?_
          refine EX.ret_blk ?_
          refine EX.ret_blk ?_
          refine EX.ret_then ?_
          refine EX.ret_then ?_
          refine EX.ret_blk ?_
          refine EX.ret_then ?_
          have hno : allI s.knRow s.nT = false := not_allI (show i < s.nT by omega) (not_allI (show j < s.nA by omega) (decide_eq_false (show ¬ 0 ≤ s.idxAt i j by unfold Shop.idxAt; omega)))
          have hE : s.kE = 3 := by unfold Shop.kE; rw [hs, if_pos rfl]; exact if_neg (by rw [hno]; simp)
          rw [hE, show s.mKnown = (0, 0) from by unfold Shop.mKnown; rw [hE]; rfl]
          exact EX.fin id (.inl rfl) rfl (.cellg G23 rfl rfl rfl (.tmp rfl .nil)) rfl (by simp [SV.res, El.res, At.res, keys]) trivial (by simp) (by simp)
        · try simp only [decide_eq_true_eq, decide_eq_false_iff_not, Bool.and_eq_true, Bool.or_eq_true, Bool.and_eq_false_iff, Bool.or_eq_false_iff, Bool.not_eq_true', Bool.not_eq_false', ne_eq, Decidable.not_not] at hc4
          refine WP.skip ?_
          refine EX.then ?_
          refine WP.seq ?_
          refine WP.region ?_
          refine WPl.v rfl (o_move rfl) ?_
          refine WPl.v rfl (o_move rfl) ?_
          have hhit : s.hitAt i j = true := decide_eq_true (show 0 ≤ s.idxAt i j by unfold Shop.idxAt; omega)
          have hpb := penAt_bnd hs hhit
          refine WPl.x 12 13 rfl rfl rfl (o_idx L87 rfl (lx rfl) rfl (by first | omega | (simp; omega)) (by first | omega | (simp; omega))) ?_
          refine WPl.v rfl (o_fldq F91_0 rfl (lx rfl)) ?_
          refine WPl.v rfl (o_lde S3 rfl (lx rfl) (strI rfl)) ?_
          refine WPl.v rfl (o_assign rfl) ?_
          refine WPl.nil ?_
          refine EX.then ?_
          refine WP.seq ?_
          refine WP.region ?_
          refine WPl.v rfl (o_fldp F23_0 rfl) ?_
          refine WPl.v rfl (o_ldp S3 rfl rfl rfl) ?_
          refine WPl.v rfl (o_lss rfl rfl) ?_
          refine WPl.nil ?_
          refine EX.then ?_
          refine WP.cond rfl (fun hc5 => ?_) (fun hc5 => ?_)
          · try simp only [decide_eq_true_eq, decide_eq_false_iff_not, Bool.and_eq_true, Bool.or_eq_true, Bool.and_eq_false_iff, Bool.or_eq_false_iff, Bool.not_eq_true', Bool.not_eq_false', ne_eq, Decidable.not_not] at hc5
            refine WP.region ?_
            refine WPl.v rfl (o_move rfl) ?_
            refine WPl.v rfl (o_move rfl) ?_
            refine WPl.v rfl (o_build B23 rfl ⟨rfl, rfl, trivial⟩ rfl rfl) ?_
            refine WPl.s1 (o_stag G23 rfl rfl rfl ⟨rfl, rfl, trivial⟩ rfl rfl) ?_
            refine WPl.nil ?_
            refine EX.blk ?_
            refine EX.then ?_
            refine WP.seq ?_
            refine WP.seq ?_
            refine WP.region ?_
            refine WPl.v rfl (o_ldq S3 rfl (lx rfl) intc) ?_
            refine WPl.nil ?_
            refine EX.then ?_
            refine WP.region ?_
            refine WPl.l 13 14 rfl rfl rfl (o_alloc Z3) ?_
            refine WPl.s1 (o_sta S3 rfl rfl rfl rfl rfl) ?_
            refine WPl.nil ?_
            refine EX.then ?_
            refine WP.region ?_
            refine WPl.v rfl (o_ldp S3 rfl rfl rfl) ?_
            refine WPl.v rfl (o_add rfl rfl (by first | omega | (simp; omega)) (by first | omega | (simp; omega))) ?_
            refine WPl.s1 (o_sta S3 rfl rfl rfl rfl rfl) ?_
            refine WPl.nil ?_
            refine EX.again (j + 1) (ren [(9, 13)]) (by exact ⟨by omega, by simp only [allI, hrow, Bool.true_and]; exact hhit⟩) (by omega) (LeR.of ⟨rfl, rfl, rfl, rfl, rfl, rfl, rfl, rfl, rfl, rfl, rfl, rfl, rfl, rfl, rfl, rfl, rfl, rfl, rfl, trivial⟩ ⟨(lx rfl), (lx rfl), (lx rfl), trivial⟩ ⟨rfl, rfl, (congrArg (fun z => some (Ent.blk z 23)) (List.cons_eq_cons.2 ⟨(congrArg (fun z => ai z) (show ((nth s.offS (idxF (fun o => o.hit (s.tl + (i : Int)) (s.al + (j : Int))) s.offS)).pence) = ((fun j => (s.knIn i (s.knOut i) j).1) (j + 1)) from by simp only [Shop.knIn, stepK]; first | (rw [if_pos hc5]; done) | (rw [if_pos hc5]; rfl) | (rw [if_neg hc5]; done) | (rw [if_neg hc5]; rfl))), (List.cons_eq_cons.2 ⟨(congrArg (fun z => ai z) (show ((nth s.offS (idxF (fun o => o.hit (s.tl + (i : Int)) (s.al + (j : Int))) s.offS)).pence) = ((fun j => (s.knIn i (s.knOut i) j).2) (j + 1)) from by simp only [Shop.knIn, stepK]; first | (rw [if_pos hc5]; done) | (rw [if_pos hc5]; rfl) | (rw [if_neg hc5]; done) | (rw [if_neg hc5]; rfl))), (Eq.refl [])⟩)⟩)), (congrArg (fun z => some (Ent.blk z 3)) (List.cons_eq_cons.2 ⟨(congrArg (fun z => ai z) (show ((s.al + (j : Int)) + 1) = ((fun j => (s.al + (j : Int))) (j + 1)) from by show s.al + (j : Int) + 1 = s.al + ((j + 1 : Nat) : Int); omega)), (Eq.refl [])⟩)), trivial⟩ rfl rfl rfl rfl rfl)
          · try simp only [decide_eq_true_eq, decide_eq_false_iff_not, Bool.and_eq_true, Bool.or_eq_true, Bool.and_eq_false_iff, Bool.or_eq_false_iff, Bool.not_eq_true', Bool.not_eq_false', ne_eq, Decidable.not_not] at hc5
            refine WP.region ?_
            refine WPl.v rfl (o_fldp F23_0 rfl) ?_
            refine WPl.v rfl (o_ldp S3 rfl rfl rfl) ?_
            refine WPl.v rfl (o_move rfl) ?_
            refine WPl.v rfl (o_min rfl rfl) ?_
            refine WPl.v rfl (o_fldp F23_1 rfl) ?_
            refine WPl.v rfl (o_ldp S3 rfl rfl rfl) ?_
            refine WPl.v rfl (o_move rfl) ?_
            refine WPl.v rfl (o_max rfl rfl) ?_
            refine WPl.v rfl (o_build B23 rfl ⟨rfl, rfl, trivial⟩ rfl rfl) ?_
            refine WPl.s1 (o_stag G23 rfl rfl rfl ⟨rfl, rfl, trivial⟩ rfl rfl) ?_
            refine WPl.nil ?_
            refine EX.blk ?_
            refine EX.then ?_
            refine WP.seq ?_
            refine WP.seq ?_
            refine WP.region ?_
            refine WPl.v rfl (o_ldq S3 rfl (lx rfl) intc) ?_
            refine WPl.nil ?_
            refine EX.then ?_
            refine WP.region ?_
            refine WPl.l 13 14 rfl rfl rfl (o_alloc Z3) ?_
            refine WPl.s1 (o_sta S3 rfl rfl rfl rfl rfl) ?_
            refine WPl.nil ?_
            refine EX.then ?_
            refine WP.region ?_
            refine WPl.v rfl (o_ldp S3 rfl rfl rfl) ?_
            refine WPl.v rfl (o_add rfl rfl (by first | omega | (simp; omega)) (by first | omega | (simp; omega))) ?_
            refine WPl.s1 (o_sta S3 rfl rfl rfl rfl rfl) ?_
            refine WPl.nil ?_
            refine EX.again (j + 1) (ren [(9, 13)]) (by exact ⟨by omega, by simp only [allI, hrow, Bool.true_and]; exact hhit⟩) (by omega) (LeR.of ⟨rfl, rfl, rfl, rfl, rfl, rfl, rfl, rfl, rfl, rfl, rfl, rfl, rfl, rfl, rfl, rfl, rfl, rfl, rfl, trivial⟩ ⟨(lx rfl), (lx rfl), (lx rfl), trivial⟩ ⟨rfl, rfl, (congrArg (fun z => some (Ent.blk z 23)) (List.cons_eq_cons.2 ⟨(congrArg (fun z => ai z) (show (min ((s.knIn i (s.knOut i) j).1) ((nth s.offS (idxF (fun o => o.hit (s.tl + (i : Int)) (s.al + (j : Int))) s.offS)).pence)) = ((fun j => (s.knIn i (s.knOut i) j).1) (j + 1)) from by simp only [Shop.knIn, stepK]; first | (rw [if_pos hc5]; done) | (rw [if_pos hc5]; rfl) | (rw [if_neg hc5]; done) | (rw [if_neg hc5]; rfl))), (List.cons_eq_cons.2 ⟨(congrArg (fun z => ai z) (show (max ((s.knIn i (s.knOut i) j).2) ((nth s.offS (idxF (fun o => o.hit (s.tl + (i : Int)) (s.al + (j : Int))) s.offS)).pence)) = ((fun j => (s.knIn i (s.knOut i) j).2) (j + 1)) from by simp only [Shop.knIn, stepK]; first | (rw [if_pos hc5]; done) | (rw [if_pos hc5]; rfl) | (rw [if_neg hc5]; done) | (rw [if_neg hc5]; rfl))), (Eq.refl [])⟩)⟩)), (congrArg (fun z => some (Ent.blk z 3)) (List.cons_eq_cons.2 ⟨(congrArg (fun z => ai z) (show ((s.al + (j : Int)) + 1) = ((fun j => (s.al + (j : Int))) (j + 1)) from by show s.al + (j : Int) + 1 = s.al + ((j + 1 : Nat) : Int); omega)), (Eq.refl [])⟩)), trivial⟩ rfl rfl rfl rfl rfl)
      · try simp only [decide_eq_true_eq, decide_eq_false_iff_not, Bool.and_eq_true, Bool.or_eq_true, Bool.and_eq_false_iff, Bool.or_eq_false_iff, Bool.not_eq_true', Bool.not_eq_false', ne_eq, Decidable.not_not] at hc3
        refine WP.exit ?_
        refine EX.exit_then ?_
        refine EX.exit_then ?_
        refine EX.exit_blk ?_
        refine EX.blk ?_
        refine EX.then ?_
        refine WP.seq ?_
        refine WP.seq ?_
        refine WP.region ?_
        refine WPl.v rfl (o_ldq S3 rfl (lx rfl) intc) ?_
        refine WPl.nil ?_
        refine EX.then ?_
        refine WP.region ?_
        refine WPl.l 10 11 rfl rfl rfl (o_alloc Z3) ?_
        refine WPl.s1 (o_sta S3 rfl rfl rfl rfl rfl) ?_
        refine WPl.nil ?_
        refine EX.then ?_
        refine WP.region ?_
        refine WPl.v rfl (o_ldp S3 rfl rfl rfl) ?_
        refine WPl.v rfl (o_add rfl rfl (by first | omega | (simp; omega)) (by first | omega | (simp; omega))) ?_
        refine WPl.s1 (o_sta S3 rfl rfl rfl rfl rfl) ?_
        refine WPl.nil ?_
        have hje : j = s.nA := by omega
        subst hje
        refine EX.again (i + 1) (ren [(7, 10)]) (by exact ⟨by omega, by simp only [allI, hall, Bool.true_and]; exact hrow⟩) (by omega) (LeR.of ⟨rfl, rfl, rfl, rfl, rfl, rfl, trivial⟩ ⟨(lx rfl), (lx rfl), trivial⟩ ⟨rfl, rfl, rfl, (congrArg (fun z => some (Ent.blk z 3)) (List.cons_eq_cons.2 ⟨(congrArg (fun z => ai z) (show ((s.tl + (i : Int)) + 1) = ((fun i => (s.tl + (i : Int))) (i + 1)) from by show s.tl + (i : Int) + 1 = s.tl + ((i + 1 : Nat) : Int); omega)), (Eq.refl [])⟩)), trivial⟩ rfl rfl rfl rfl rfl)
    · try simp only [decide_eq_true_eq, decide_eq_false_iff_not, Bool.and_eq_true, Bool.or_eq_true, Bool.and_eq_false_iff, Bool.or_eq_false_iff, Bool.not_eq_true', Bool.not_eq_false', ne_eq, Decidable.not_not] at hc2
      refine WP.exit ?_
      refine EX.exit_then ?_
      refine EX.exit_then ?_
      refine EX.exit_blk ?_
      refine EX.then ?_
      refine WP.seq ?_
      refine WP.region ?_
      refine WPl.v rfl (o_ldpa G23 rfl rfl rfl) ?_
      refine WPl.s1 (o_stag G23 rfl rfl rfl ⟨rfl, rfl, trivial⟩ rfl rfl) ?_
      refine WPl.v rfl (o_assign rfl) ?_
      refine WPl.nil ?_
      refine EX.then ?_
      refine WP.ret ?_
      have hie : i = s.nT := by omega
      subst hie
      have hE : s.kE = 0 := by unfold Shop.kE; rw [hs, if_pos rfl]; exact if_pos hall
      rw [hE, show s.mKnown = s.knOut s.nT from by unfold Shop.mKnown; rw [hE]; rfl]
      exact EX.fin id (.inl rfl) rfl (.cellg G23 rfl rfl rfl (.tmp rfl .nil)) rfl (by simp [SV.res, El.res, At.res, keys]) trivial (by simp) (by simp)
theorem w32 {s : Shop} : ∀ x ∈ ([.e (.g [ai (s.pounds), ai (s.tl), ai (s.th), ai (s.al), ai (s.ah), ai (s.room), ai (s.tpl), ai (s.tph), ai (s.apl), ai (s.aph), .q 0])] : List SV), x.res (keys (α := Pred) [(0, PL EPig (s.pigs))]) := by simp [SV.res, El.res, At.res, keys]
theorem r32 {s : Shop} : SV.res (keys (α := Pred) []) (.t [.a (ai (s.mWorth)), .a (ai (s.wE))]) := by simp [SV.res, El.res, At.res, keys]
set_option maxHeartbeats 4000000 in
theorem c32 (s : Shop) (hl : s.pigs.length ≤ 40) : Sig Try.prog 32 [.e (.g [ai (s.pounds), ai (s.tl), ai (s.th), ai (s.al), ai (s.ah), ai (s.room), ai (s.tpl), ai (s.tph), ai (s.apl), ai (s.aph), .q 0])] [(0, PL EPig (s.pigs))] (.t [.a (ai (s.mWorth)), .a (ai (s.wE))]) [] := by
  have hcb := mCheap_bnd s
  have hkb := mKnown_bnd s
  refine Sig.intro Try.func32 rfl 1 [(0, .e (.g [ai (s.pounds), ai (s.tl), ai (s.th), ai (s.al), ai (s.ah), ai (s.room), ai (s.tpl), ai (s.tph), ai (s.apl), ai (s.aph), .q 0]))] rfl w32 rfl rfl fun I w => ?_
  refine WP.seq ?_
  refine WP.region ?_
  refine WPl.l 1 2 rfl rfl rfl (o_boxg rfl) ?_
  refine WPl.v rfl (o_assign rfl) ?_
  refine WPl.v rfl (o_assign rfl) ?_
  refine WPl.nil ?_
  refine EX.then ?_
  refine WP.seq ?_
  refine WP.region ?_
  refine WPl.v rfl (o_ldpa G28 rfl rfl rfl) ?_
  refine WPl.cs 2 rfl rfl rfl rfl (o_sig 2 (ren [(0, 0)]) (c58 s (by omega)) e58 rfl rfl rfl w58 ⟨(lx rfl), trivial⟩ r58) ?_
  refine WPl.v rfl (o_move rfl) ?_
  refine WPl.v rfl (o_extract rfl rfl) ?_
  refine WPl.v rfl (o_extract rfl rfl) ?_
  refine WPl.v rfl (o_assign rfl) ?_
  refine WPl.v rfl (o_assign rfl) ?_
  refine WPl.nil ?_
  refine EX.then ?_
  refine WP.seq ?_
  refine WP.seq ?_
  refine WP.region ?_
  refine WPl.v rfl (o_move rfl) ?_
  refine WPl.v rfl (o_neq rfl rfl) ?_
  refine WPl.nil ?_
  refine EX.then ?_
  refine WP.cond rfl (fun hc1 => ?_) (fun hc1 => ?_)
  · try simp only [decide_eq_true_eq, decide_eq_false_iff_not, Bool.and_eq_true, Bool.or_eq_true, Bool.and_eq_false_iff, Bool.or_eq_false_iff, Bool.not_eq_true', Bool.not_eq_false', ne_eq, Decidable.not_not] at hc1
    refine WP.seq ?_
    refine WP.region ?_
    refine WPl.v rfl (o_move rfl) ?_
    refine WPl.v rfl (o_assign rfl) ?_
    refine WPl.v rfl (o_assign rfl) ?_
    refine WPl.nil ?_
    refine EX.then ?_
    refine WP.ret ?_
    refine EX.ret_then ?_
    have hW : s.wE = s.mE (priceG s) := if_neg (by simpa using hc1)
    rw [hW, show s.mWorth = 0 from by unfold Shop.mWorth; rw [hW]; exact if_neg (by simpa using hc1)]
    exact EX.fin id (.inl rfl) rfl (.tmp rfl (.tmp rfl .nil)) rfl (by simp [SV.res, El.res, At.res, keys]) trivial (by simp) (by simp)
  · try simp only [decide_eq_true_eq, decide_eq_false_iff_not, Bool.and_eq_true, Bool.or_eq_true, Bool.and_eq_false_iff, Bool.or_eq_false_iff, Bool.not_eq_true', Bool.not_eq_false', ne_eq, Decidable.not_not] at hc1
    refine WP.skip ?_
    refine EX.then ?_
    refine WP.seq ?_
    refine WP.region ?_
    refine WPl.v rfl (o_ldpa G28 rfl rfl rfl) ?_
    refine WPl.cs 2 rfl rfl rfl rfl (o_sig 2 (ren [(0, 0)]) (c31 s (by omega)) e31 rfl rfl rfl w31 ⟨(lx rfl), trivial⟩ r31) ?_
    refine WPl.v rfl (o_move rfl) ?_
    refine WPl.v rfl (o_extract rfl rfl) ?_
    refine WPl.v rfl (o_extract rfl rfl) ?_
    refine WPl.l 2 3 rfl rfl rfl (o_alloc Z23) ?_
    refine WPl.s1 (o_stag G23 rfl rfl rfl ⟨rfl, rfl, trivial⟩ rfl rfl) ?_
    refine WPl.v rfl (o_assign rfl) ?_
    refine WPl.nil ?_
    refine EX.then ?_
    refine WP.seq ?_
    refine WP.seq ?_
    refine WP.region ?_
    refine WPl.v rfl (o_move rfl) ?_
    refine WPl.v rfl (o_neq rfl rfl) ?_
    refine WPl.nil ?_
    refine EX.then ?_
    refine WP.cond rfl (fun hc2 => ?_) (fun hc2 => ?_)
    · try simp only [decide_eq_true_eq, decide_eq_false_iff_not, Bool.and_eq_true, Bool.or_eq_true, Bool.and_eq_false_iff, Bool.or_eq_false_iff, Bool.not_eq_true', Bool.not_eq_false', ne_eq, Decidable.not_not] at hc2
      refine WP.seq ?_
      refine WP.region ?_
      refine WPl.v rfl (o_move rfl) ?_
      refine WPl.v rfl (o_assign rfl) ?_
      refine WPl.v rfl (o_assign rfl) ?_
      refine WPl.nil ?_
      refine EX.then ?_
      refine WP.ret ?_
      refine EX.ret_then ?_
      have hW : s.wE = s.kE := if_pos (by simpa using hc1)
      rw [hW, show s.mWorth = 0 from by unfold Shop.mWorth; rw [hW]; exact if_neg (by simpa using hc2)]
      exact EX.fin id (.inl rfl) rfl (.tmp rfl (.tmp rfl .nil)) rfl (by simp [SV.res, El.res, At.res, keys]) trivial (by simp) (by simp)
    · try simp only [decide_eq_true_eq, decide_eq_false_iff_not, Bool.and_eq_true, Bool.or_eq_true, Bool.and_eq_false_iff, Bool.or_eq_false_iff, Bool.not_eq_true', Bool.not_eq_false', ne_eq, Decidable.not_not] at hc2
      refine WP.skip ?_
      refine EX.then ?_
      refine WP.seq ?_
      refine WP.region ?_
      refine WPl.v rfl (o_move rfl) ?_
      refine WPl.v rfl (o_fldp F23_1 rfl) ?_
      refine WPl.v rfl (o_ldp S3 rfl rfl rfl) ?_
      refine WPl.v rfl (o_sub rfl rfl (by first | omega | (simp; omega)) (by first | omega | (simp; omega))) ?_
      refine WPl.v rfl (o_assign rfl) ?_
      refine WPl.v rfl (o_assign rfl) ?_
      refine WPl.nil ?_
      refine EX.then ?_
      refine WP.ret ?_
      have hW : s.wE = 0 := (if_pos (by simpa using hc1)).trans (by simpa using hc2)
      rw [hW, show s.mWorth = s.mCheap - s.mKnown.2 from if_pos hW]
      exact EX.fin id (.inl rfl) rfl (.tmp rfl (.tmp rfl .nil)) rfl (by simp [SV.res, El.res, At.res, keys]) trivial (by simp) (by simp)
end Go.Flong
namespace Go.Flong
open Go Go.Eng Go.Proofs
theorem Q3 : FlatT Try.prog 3 1 1 false := .int Try.underlying3 S3
theorem M99 : MapT Try.prog 99 1 1 false := .int Try.underlying99 Try.underlying3 S3 Try.zeroValue3
theorem Z99 : Zero Try.prog 99 [.v (.map none)] := .mk Try.zeroValue99 rfl rfl
theorem S99 : TyS Try.prog 99 := ⟨Try.isAgg99, Try.sizeOf99⟩
theorem w56 {s : Shop} : ∀ x ∈ ([.e (.g [ai (s.pounds), ai (s.tl), ai (s.th), ai (s.al), ai (s.ah), ai (s.room), ai (s.tpl), ai (s.tph), ai (s.apl), ai (s.aph), .q 0])] : List SV), x.res (keys (α := Pred) [(0, PL EPig (s.pigs))]) := by simp [SV.res, El.res, At.res, keys]
theorem r56 {s : Shop} : SV.res (keys (α := Pred) [(0, PL EP.int (s.mShort))]) (.t [.a (.q 0), .a (ai (errM s.chk))]) := by simp [SV.res, El.res, At.res, keys]
set_option maxHeartbeats 4000000 in
theorem c56 (s : Shop) (hl : s.pigs.length ≤ 40) : Sig Try.prog 56 [.e (.g [ai (s.pounds), ai (s.tl), ai (s.th), ai (s.al), ai (s.ah), ai (s.room), ai (s.tpl), ai (s.tph), ai (s.apl), ai (s.aph), .q 0])] [(0, PL EPig (s.pigs))] (.t [.a (.q 0), .a (ai (errM s.chk))]) [(0, PL EP.int (s.mShort))] := by
  refine Sig.intro Try.func56 rfl 1 [(0, .e (.g [ai (s.pounds), ai (s.tl), ai (s.th), ai (s.al), ai (s.ah), ai (s.room), ai (s.tpl), ai (s.tph), ai (s.apl), ai (s.aph), .q 0]))] rfl w56 rfl rfl fun I w => ?_
  refine WP.seq ?_
  refine WP.region ?_
  refine WPl.l 1 2 rfl rfl rfl (o_boxg rfl) ?_
  refine WPl.v rfl (o_assign rfl) ?_
  refine WPl.v rfl (o_assign rfl) ?_
  refine WPl.nil ?_
  refine EX.then ?_
  refine WP.seq ?_
  refine WP.region ?_
  refine WPl.v rfl (o_ldpa G28 rfl rfl rfl) ?_
  refine WPl.cs 3 rfl rfl rfl rfl (o_sig 2 (ren [(0, 0)]) (c69N s hl) e69 rfl rfl rfl w69N ⟨(lx rfl), trivial⟩ r69N) ?_
  refine WPl.v rfl (o_move rfl) ?_
  refine WPl.v rfl (o_extract rfl rfl) ?_
  refine WPl.v rfl (o_extract rfl rfl) ?_
  refine WPl.l 3 4 rfl rfl rfl (o_alloc Z78) ?_
  refine WPl.s1 (o_stag G78 rfl rfl rfl ⟨rfl, rfl, rfl, rfl, rfl, rfl, rfl, rfl, rfl, rfl, (.inl ⟨_, (lx rfl), PL.one⟩), trivial⟩ rfl rfl) ?_
  refine WPl.v rfl (o_assign rfl) ?_
  refine WPl.nil ?_
  refine EX.then ?_
  refine WP.seq ?_
  refine WP.seq ?_
  refine WP.region ?_
  refine WPl.v rfl (o_move rfl) ?_
  refine WPl.v rfl (o_neq rfl rfl) ?_
  refine WPl.nil ?_
  refine EX.then ?_
  refine WP.cond rfl (fun hc1 => ?_) (fun hc1 => ?_)
  · try simp only [decide_eq_true_eq, decide_eq_false_iff_not, Bool.and_eq_true, Bool.or_eq_true, Bool.and_eq_false_iff, Bool.or_eq_false_iff, Bool.not_eq_true', Bool.not_eq_false', ne_eq, Decidable.not_not] at hc1
    have hs : s.chk = false := errM_ne.1 (by simpa using hc1)
    refine WP.seq ?_
    refine WP.region ?_
    refine WPl.v rfl (o_move rfl) ?_
    refine WPl.v rfl (o_assign rfl) ?_
    refine WPl.v rfl (o_assign rfl) ?_
    refine WPl.nil ?_
    refine EX.then ?_
    refine WP.ret ?_
    refine EX.ret_then ?_
    refine EX.imp (Imp.nam 4 5 (.slice none 0 0) (R := PN EP.int) pn_ok rfl rfl) ?_
    refine EX.imp (Imp.swF 2 4 rfl (lxr rfl)) ?_
    rw [show s.mShort = [] from by unfold Shop.mShort; rw [hs]; rfl]
    exact EX.fin (ren [(0, 4)]) (.inl rfl) rfl (.tmp rfl (.tmp rfl .nil)) rfl (by simp [SV.res, El.res, At.res, keys]) ⟨lxl rfl, trivial⟩ (by simp) (by simp)
  · try simp only [decide_eq_true_eq, decide_eq_false_iff_not, Bool.and_eq_true, Bool.or_eq_true, Bool.and_eq_false_iff, Bool.or_eq_false_iff, Bool.not_eq_true', Bool.not_eq_false', ne_eq, Decidable.not_not] at hc1
    have hs : s.chk = true := errM_eq.1 (by simpa using hc1)
    have hpg := Shop.pigsOK hs
    have hal := adL_len hpg
    refine WP.skip ?_
    refine EX.then ?_
    refine WP.seq ?_
    refine WP.region ?_
    refine WPl.mkmap false 1 4 5 rfl rfl rfl fun b19 => ?_
    refine WPl.l 5 6 rfl rfl rfl (o_alloc Z99) ?_
    refine WPl.s1 (o_sta S99 rfl rfl rfl rfl rfl) ?_
    refine WPl.nil ?_
    refine EX.then ?_
    refine WP.seq ?_
    refine WP.seq ?_
    refine WP.region ?_
    refine WPl.v rfl (o_ldpa G78 rfl rfl rfl) ?_
    refine WPl.x 6 7 rfl rfl rfl (o_mkbit 6 (ren [(0, 2)]) (c95 s hs) e95 rfl SvsOK.rf w95 ⟨(lx rfl), trivial⟩) ?_
    refine WPl.nil ?_
    refine EX.then ?_
    refine WP.block ?_
    refine WP.leR (S' := ⟨7, [(2, .e (.a (.v (.slice none 0 0)))), (3, .i (0)), (4, .e (.a (.p 3 (0)))), (6, .e (.a (.p 5 (0)))), (21, .e (.a (.q 6)))], [(2, PL EPig (s.pigs)), (6, ItQ Try.prog s.adItems)], [(3, .blk [ai (s.pounds), ai (s.tl), ai (s.th), ai (s.al), ai (s.ah), ai (s.room), ai (s.tpl), ai (s.tph), ai (s.apl), ai (s.aph), .q 2] 78), (4, .ext (mapXP false 1 b19 ([]))), (5, .blk [.v (.map (some b19))] 99)], [], []⟩) id (LeR.of ⟨rfl, rfl, rfl, rfl, rfl, trivial⟩ ⟨(lx rfl), (lx rfl), trivial⟩ ⟨rfl, rfl, rfl, trivial⟩ rfl rfl rfl rfl rfl) ?_
    refine WP.rangeV 9 1 (s.adL.length) (fun i => ⟨[.e (.a (.q 0))], [(0, PL EP.int ((nth s.adL (i : Int))))], []⟩) (fun i => ⟨9, [(2, .e (.a (.v (.slice none 0 0)))), (3, .i (0)), (4, .e (.a (.p 3 (0)))), (6, .e (.a (.p 5 (0)))), (21, .e (.a (.q 6)))], [(2, PL EPig (s.pigs)), (6, ItQ Try.prog s.adItems)], [(3, .blk [ai (s.pounds), ai (s.tl), ai (s.th), ai (s.al), ai (s.ah), ai (s.room), ai (s.tpl), ai (s.tph), ai (s.apl), ai (s.aph), .q 2] 78), (4, .ext (mapXP false 1 b19 (s.keptTo i))), (5, .blk [.v (.map (some b19))] 99), (7, .ob (.deferred (some [])))], [7], []⟩) (fun _ _ => False) rfl  rfl (ItQ.hit (lx rfl)) (rfl) (fun _ => RSt.of1 4 rfl rfl rfl rfl rfl rfl mapXP.plain rfl) (fun _ _ h => h.elim) rfl rfl rfl (fun _ _ => ItemOK.of rfl) rfl rfl id (LeR.of ⟨rfl, rfl, rfl, rfl, rfl, trivial⟩ ⟨(lx rfl), (lx rfl), trivial⟩ ⟨rfl, rfl, rfl, rfl, trivial⟩ rfl rfl rfl rfl rfl) ?_ ?_ ?_
    · intro i hi w1 E1 I1 R1 pβ1 pν1 us1
      have hx := isAddB hpg (adL_at hi)
      refine WP.region ?_
      refine WPl.l 10 11 rfl rfl rfl (o_alloc Z29) ?_
      refine WPl.s1 (o_sta S29 rfl rfl rfl (.inl ⟨_, (lx rfl), PL.one⟩) rfl) ?_
      refine WPl.nil ?_
      refine EX.beg rfl ?_
      refine WP.block ?_
      refine WP.block ?_
      refine WP.leR (S' := ⟨11, [(2, .e (.a (.v (.slice none 0 0)))), (3, .i (0)), (4, .e (.a (.p 3 (0)))), (6, .e (.a (.p 5 (0)))), (21, .e (.a (.q 6))), (22, .e (.a (.q 9))), (7, .e (.a (.p 10 (0))))], [(2, PL EPig (s.pigs)), (6, ItQ Try.prog s.adItems), (9, PL EP.int ((nth s.adL (i : Int))))], [(3, .blk [ai (s.pounds), ai (s.tl), ai (s.th), ai (s.al), ai (s.ah), ai (s.room), ai (s.tpl), ai (s.tph), ai (s.apl), ai (s.aph), .q 2] 78), (4, .ext (mapXP false 1 b19 (s.keptTo i))), (5, .blk [.v (.map (some b19))] 99), (7, .ob (.deferred (some []))), (8, .ob (.loop { R1 with state := .busy })), (10, .blk [.q 9] 29)], [], []⟩) id (LeR.of ⟨rfl, rfl, rfl, rfl, rfl, rfl, rfl, trivial⟩ ⟨(lx rfl), (lx rfl), (lx rfl), trivial⟩ ⟨rfl, rfl, rfl, rfl, rfl, rfl, trivial⟩ rfl rfl rfl rfl rfl) ?_
      refine WP.rangeV2 8 13 0 (4) (fun g => ⟨[.i ((g : Int) + 1)], [], []⟩) (fun g => ⟨13, [(2, .e (.a (.v (.slice none 0 0)))), (3, .i (0)), (4, .e (.a (.p 3 (0)))), (6, .e (.a (.p 5 (0)))), (21, .e (.a (.q 6))), (22, .e (.a (.q 9))), (7, .e (.a (.p 10 (0))))], [(2, PL EPig (s.pigs)), (6, ItQ Try.prog s.adItems), (9, PL EP.int ((nth s.adL (i : Int))))], [(3, .blk [ai (s.pounds), ai (s.tl), ai (s.th), ai (s.al), ai (s.ah), ai (s.room), ai (s.tpl), ai (s.tph), ai (s.apl), ai (s.aph), .q 2] 78), (4, .ext (mapXP false 1 b19 (s.keptIn (nth s.adL (i : Int)) (s.keptTo i) g))), (5, .blk [.v (.map (some b19))] 99), (7, .ob (.deferred (some []))), (8, .ob (.loop { R1 with state := .busy })), (10, .blk [.q 9] 29)], [], []⟩) (fun _ _ => False) rfl (fv := .e (.a (.f 72 []))) rfl rfl rfl rfl (SigI.hit c72 e72) (rfl) (fun _ => RSt.of1 4 rfl rfl rfl rfl rfl rfl mapXP.plain rfl) (fun _ _ h => h.elim) rfl rfl rfl (fun _ _ => ItemOK.of rfl) rfl rfl id (LeR.of ⟨rfl, rfl, rfl, rfl, rfl, rfl, rfl, trivial⟩ ⟨(lx rfl), (lx rfl), (lx rfl), trivial⟩ ⟨rfl, rfl, rfl, rfl, rfl, rfl, trivial⟩ rfl rfl rfl rfl rfl) ?_ ?_ ?_
      · intro g hg w2 E2 I2 R2 pβ2 pν2 us2
        refine WP.region ?_
        refine WPl.v rfl (o_assign rfl) ?_
        refine WPl.nil ?_
        refine EX.beg rfl ?_
        refine WP.block ?_
        refine WP.seq ?_
        refine WP.draw (nf := 13) [⟨[25, 26, 27, 28], [], [], [], []⟩, ⟨[24, 26, 28], [], [], [], []⟩, ⟨[24, 25, 28], [], [], [], []⟩, ⟨[24, 28], [], [], [], [1, 2]⟩, ⟨[24, 25, 26, 27], [], [], [], []⟩, ⟨[], [], [], [], [0, 1, 2, 3, 4]⟩, ⟨[], [], [], [], [0, 1, 2, 3, 4, 5]⟩] (by kernel_rfl) (by kernel_rfl) ?_
        refine DRQ.v rfl rfl rfl (o_ldpa G78 rfl rfl rfl) ?_
        refine DRQ.v rfl rfl rfl (o_ldpa G78 rfl rfl rfl) ?_
        refine DRQ.v rfl rfl rfl (o_ldp S29 rfl rfl rfl) ?_
        refine DRQ.cs rfl rfl rfl rfl (o_sig 13 (ren [(0, 2), (1, 9)]) (c74 s (nth s.adL (i : Int)) hs (by omega) hx.2.2) e74 rfl rfl rfl w74 ⟨(lx rfl), (lx rfl), trivial⟩ r74) ?_
        refine DRQ.v rfl rfl rfl (o_move rfl) ?_
        refine DRQ.cs rfl rfl rfl rfl (o_sig 13 (ren [(0, 2)]) (c73 s (s.aft (nth s.adL (i : Int))) ((g : Int) + 1) hs (aft_bnd hs (by omega) hx.2.2)) e73 rfl rfl rfl w73 ⟨(lx rfl), trivial⟩ r73) ?_
        refine DRQ.v rfl rfl rfl (o_not rfl) ?_
        refine DRQ.nil' ?_
        refine EX.then ?_
        refine WP.cond rfl (fun hc2 => ?_) (fun hc2 => ?_)
        · try simp only [decide_eq_true_eq, decide_eq_false_iff_not, Bool.and_eq_true, Bool.or_eq_true, Bool.and_eq_false_iff, Bool.or_eq_false_iff, Bool.not_eq_true', Bool.not_eq_false', ne_eq, Decidable.not_not] at hc2
          refine WP.region ?_
          refine WPl.v rfl (o_ldp S99 rfl rfl rfl) ?_
          refine WPl.v rfl (o_move rfl) ?_
          refine WPl.v rfl (o_look (km := 4) (a := [(g : Int) + 1]) M99 rfl rfl isKey.i rfl rfl) ?_
          have hkb := keptIn_bnd s i g (c := (g : Int) + 1) (by omega) (by omega)
          refine WPl.v rfl (o_add rfl rfl (by first | omega | (simp; omega)) (by first | omega | (simp; omega))) ?_
          refine WPl.s1 (o_mapup (km := 4) (a := [(g : Int) + 1]) M99 rfl rfl isKey.i rfl rfl rfl) ?_
          refine WPl.nil ?_
          refine EX.blk ?_
          exact EX.next id (LeR.of trivial ⟨(lx rfl), (lx rfl), (lx rfl), trivial⟩ ⟨rfl, rfl, (congrArg (fun z => some (Ent.ext (mapXP false 1 b19 z))) (show (mset (s.keptIn (nth s.adL (i : Int)) (s.keptTo i) g) [(g : Int) + 1] (((mget (s.keptIn (nth s.adL (i : Int)) (s.keptTo i) g) [(g : Int) + 1]).getD 0) + 1)) = ((fun g => s.keptIn (nth s.adL (i : Int)) (s.keptTo i) g) (g + 1)) from by simp only [Shop.keptIn]; first | rw [if_pos (by rw [hc2]; rfl)] | rw [if_neg (by rw [hc2]; simp)])), rfl, rfl, rfl, rfl, trivial⟩ rfl rfl rfl rfl rfl)
        · try simp only [decide_eq_true_eq, decide_eq_false_iff_not, Bool.and_eq_true, Bool.or_eq_true, Bool.and_eq_false_iff, Bool.or_eq_false_iff, Bool.not_eq_true', Bool.not_eq_false', ne_eq, Decidable.not_not] at hc2
          refine WP.skip ?_
          refine EX.blk ?_
          exact EX.next id (LeR.of trivial ⟨(lx rfl), (lx rfl), (lx rfl), trivial⟩ ⟨rfl, rfl, (congrArg (fun z => some (Ent.ext (mapXP false 1 b19 z))) (show (s.keptIn (nth s.adL (i : Int)) (s.keptTo i) g) = ((fun g => s.keptIn (nth s.adL (i : Int)) (s.keptTo i) g) (g + 1)) from by simp only [Shop.keptIn]; first | rw [if_pos (by rw [hc2]; rfl)] | rw [if_neg (by rw [hc2]; simp)])), rfl, rfl, rfl, rfl, trivial⟩ rfl rfl rfl rfl rfl)
      · exact fun _ _ h => h.elim
      · skip
        refine EX.blk ?_
        refine EX.blk ?_
        exact EX.next id (LeR.of trivial ⟨(lx rfl), (lx rfl), trivial⟩ ⟨rfl, rfl, rfl, rfl, rfl, trivial⟩ rfl rfl rfl rfl rfl)
    · exact fun _ _ h => h.elim
    · skip
      refine EX.blk ?_
      refine EX.then ?_
      refine WP.seq ?_
      refine WP.region ?_
      refine WPl.l 9 10 rfl rfl rfl (o_alloc Z29) ?_
      refine WPl.nil ?_
      refine EX.then ?_
      refine WP.seq ?_
      refine WP.block ?_
      refine WP.leR (S' := ⟨10, [(2, .e (.a (.v (.slice none 0 0)))), (3, .i (0)), (6, .e (.a (.p 5 (0)))), (9, .e (.a (.p 9 (0))))], [], [(4, .ext (mapXP false 1 b19 (s.keptTo s.adL.length))), (5, .blk [.v (.map (some b19))] 99), (7, .ob (.deferred (some []))), (9, .blk [.v (.slice none 0 0)] 29)], [7], []⟩) id (LeR.of ⟨rfl, rfl, rfl, rfl, trivial⟩ trivial ⟨rfl, rfl, rfl, rfl, trivial⟩ rfl rfl rfl rfl rfl) ?_
      refine WP.imp (Imp.namo EP.int 10 11 3 rfl rfl) ?_
      refine WP.imp (Imp.swL 9 0 10 rfl rfl (lx rfl)) ?_
      refine WP.rangeV 14 0 (4) (fun g => ⟨[.i ((g : Int) + 1)], [], []⟩) (fun g => ⟨14, [(2, .e (.a (.v (.slice none 0 0)))), (3, .i (0)), (6, .e (.a (.p 5 (0)))), (9, .e (.a (.p 9 (0))))], [(10, Pred.is (.slice none 0 0))], [(4, .ext (mapXP false 1 b19 (s.keptTo s.adL.length))), (5, .blk [.v (.map (some b19))] 99), (7, .ob (.deferred (some []))), (9, .blk [.q 13] 29), (11, .ob (.deferred (some []))), (13, .own 3 EP.int.size (s.shortTo g).length (RP EP.int (s.shortTo g)))], [11, 7], []⟩) (fun _ _ => False) rfl (fv := .e (.a (.f 72 [])))  rfl (SigI.hit c72 e72) (rfl) (fun _ => RSt.of1 4 rfl rfl rfl rfl rfl rfl mapXP.plain rfl) (fun _ _ h => h.elim) rfl rfl rfl (fun _ _ => ItemOK.of rfl) rfl rfl (ren [(13, 10)]) (LeR.of ⟨rfl, rfl, rfl, rfl, trivial⟩ ⟨(lx rfl), trivial⟩ ⟨rfl, rfl, rfl, rfl, rfl, rfl, trivial⟩ rfl rfl rfl rfl rfl) ?_ ?_ ?_
      · intro g hg w1 E1 I1 R1 pβ1 pν1 us1
        refine WP.region ?_
        refine WPl.v rfl (o_assign rfl) ?_
        refine WPl.nil ?_
        refine EX.beg rfl ?_
        refine WP.block ?_
        refine WP.seq ?_
        refine WP.region ?_
        refine WPl.v rfl (o_ldp S99 rfl rfl rfl) ?_
        refine WPl.v rfl (o_move rfl) ?_
        refine WPl.v rfl (o_look (km := 4) (a := [(g : Int) + 1]) M99 rfl rfl isKey.i rfl rfl) ?_
        refine WPl.v rfl (o_eql rfl rfl) ?_
        refine WPl.nil ?_
        refine EX.then ?_
        refine WP.cond rfl (fun hc3 => ?_) (fun hc3 => ?_)
        · try simp only [decide_eq_true_eq, decide_eq_false_iff_not, Bool.and_eq_true, Bool.or_eq_true, Bool.and_eq_false_iff, Bool.or_eq_false_iff, Bool.not_eq_true', Bool.not_eq_false', ne_eq, Decidable.not_not] at hc3
          refine WP.region ?_
          refine WPl.v rfl (o_ldp S29 rfl rfl rfl) ?_
          refine WPl.v rfl (o_move rfl) ?_
          refine WPl.u1 (k := 14) (m := 15) rfl rfl rfl (OpG.newer0 (o_bsl (E := EP.int) (l := [(g : Int) + 1]) R29 rfl rfl (.cons (rfl) rfl (eok_int) (.nil)) rfl rfl)) ?_
          have hwg := shortTo_len s g
          refine WPl.u1 (k := 15) (m := 16) rfl rfl rfl (o_appo R29 EP.int_one rfl rfl rfl rfl (by first | omega | (simp; omega) | (simp at *; omega)) (by first | omega | (simp; omega) | (simp at *; omega))) ?_
          refine WPl.s1 (o_sta S29 rfl rfl rfl (.inr ⟨_, _, _, _, rfl⟩) rfl) ?_
          refine WPl.nil ?_
          refine EX.blk ?_
          exact EX.next (ren [(13, 15)]) (LeR.of trivial ⟨(lx rfl), trivial⟩ ⟨rfl, rfl, rfl, rfl, rfl, rfl, (congrArg (fun z => some (Ent.own 3 EP.int.size (List.length z) (RP EP.int z))) (show ((s.shortTo g) ++ [(g : Int) + 1]) = ((fun g => s.shortTo g) (g + 1)) from by simp [Shop.shortTo, Shop.keptAt, hc3])), trivial⟩ rfl rfl rfl rfl rfl)
        · try simp only [decide_eq_true_eq, decide_eq_false_iff_not, Bool.and_eq_true, Bool.or_eq_true, Bool.and_eq_false_iff, Bool.or_eq_false_iff, Bool.not_eq_true', Bool.not_eq_false', ne_eq, Decidable.not_not] at hc3
          refine WP.skip ?_
          refine EX.blk ?_
          exact EX.next id (LeR.of trivial ⟨(lx rfl), trivial⟩ ⟨rfl, rfl, rfl, rfl, rfl, rfl, (congrArg (fun z => some (Ent.own 3 EP.int.size (List.length z) (RP EP.int z))) (show (s.shortTo g) = ((fun g => s.shortTo g) (g + 1)) from by simp [Shop.shortTo, Shop.keptAt, hc3])), trivial⟩ rfl rfl rfl rfl rfl)
      · exact fun _ _ h => h.elim
      · skip
        refine EX.blk ?_
        refine EX.then ?_
        refine WP.seq ?_
        refine WP.region ?_
        refine WPl.v rfl (o_ldp S29 rfl rfl rfl) ?_
        refine WPl.v rfl (o_assign rfl) ?_
        refine WPl.v rfl (o_assign rfl) ?_
        refine WPl.nil ?_
        refine EX.then ?_
        refine WP.ret ?_
        refine EX.imp (Imp.frz (E := EP.int) (l := s.shortTo 4) 13 rfl rfl) ?_
        rw [show s.mShort = s.shortTo 4 from by unfold Shop.mShort; rw [hs]; rfl]
        rw [show errM s.chk = 0 from by rw [hs]; rfl]
        exact EX.fin (ren [(0, 13)]) (.inl rfl) rfl (.tmp rfl (.tmp rfl .nil)) rfl (by simp [SV.res, El.res, At.res, keys]) ⟨(lx rfl), trivial⟩ (marks rfl) (by simp)
end Go.Flong
namespace Go.Flong
open Go Go.Eng
abbrev Pt.one (p : Pt) (t a d : Int) : Pt := ⟨p.pounds - d, t - d, t - d, a, a, 0, 0⟩
def Fnd.aheadOf (f : Fnd) (ch : Pt → Int) (night : Int) (p : Pt) : Int := if night = f.nights.length ∨ (nth f.nights night).test = 0 then ch p else worst3 (fun t a d => ch (p.one t a d)) ⟨p.tl, p.th, p.al, p.ah, p.dl, p.dh⟩
def chRows (pigs : List Pig) (nx : List Int → Int) (rows : List (List Int)) : Nat → Int
  | 0 => neverC
  | i + 1 => min (chRows pigs nx rows i) (sumOf Pig.pence pigs (nth rows i) + nx (nth rows i))
def Fnd.chW (f : Fnd) : Nat → Int → Pt → List Int → Int
  | 0, _, _, _ => 0
  | n + 1, night, p, left => min (chRows f.shop.pigs (fun r => f.aheadOf (fun q => Fnd.chW f n (night + 1) q (takeL left r)) (night + 1) ((p.addL f.shop.pigs r).lose (nth f.nights night))) (f.chL p left) (f.chL p left).length) neverC
def AhB (p : Pt) (night : Int) : Prop := PtB p (1000 + 400100 * night) ∧ p.dl ≤ 9 * night ∧ p.dh ≤ 9 * night
def ChB (p : Pt) (night : Int) : Prop := PtB p (1040 + 400100 * night) ∧ p.dl ≤ 9 * night ∧ p.dh ≤ 9 * night
theorem AhB.ch {p : Pt} {night : Int} (h : AhB p night) : ChB p night := ⟨h.1.mono (by omega), h.2⟩
theorem AhB.one {p : Pt} {night : Int} (h : AhB p night) (h0 : 0 ≤ night) (h4 : night ≤ 4) {t a d : Int} (h1 : p.tl ≤ t) (h2 : t ≤ p.th) (h3 : p.al ≤ a) (h5 : a ≤ p.ah) (h6 : p.dl ≤ d) (h7 : d ≤ p.dh) : ChB (p.one t a d) night := by
  obtain ⟨h8, h9, h10⟩ := h
  unfold PtB at h8
  unfold ChB PtB
  simp only []; omega
theorem ChB.next {f : Fnd} {p : Pt} {night : Int} (h : ChB p night) (h0 : 0 ≤ night) (hp : PigsOK f.shop.pigs) {r : List Int} (hr : r.length = f.shop.pigs.length) (hb : bnd r 5) {n : Night} (hn : n.chk = true) : PtB (p.addL f.shop.pigs r) (1040 + 400100 * night + 400000) ∧ AhB ((p.addL f.shop.pigs r).lose n) (night + 1) := by
  have h1 : PtB (p.addL f.shop.pigs r) (1040 + 400100 * night + 400000) := addTo_bnd h.1 hp (by rw [hr]; exact Nat.le_refl _) (bnd_mono hb (by omega)) (Nat.le_refl _)
  have h2 := lose_bnd h1 hn
  have hnb := Night.bnds hn
  refine ⟨h1, h2.mono (by omega), ?_, ?_⟩
  · have := h.2.1
    show p.dl + n.lo ≤ _; omega
  · have := h.2.2
    show p.dh + n.hi ≤ _; omega
def stKey (night : Int) (p : Pt) (left : List Int) : List Int := [night, p.pounds, p.tl, p.th, p.al, p.ah, p.dl, p.dh, nth left 0, nth left 1, nth left 2, nth left 3]
def MemoK (f : Fnd) (k : List Int) (v : Int) : Prop := ∃ (n : Nat) (night : Int) (p : Pt) (left : List Int), left.length = 4 ∧ night + n = f.nights.length ∧ k = stKey night p left ∧ v = f.chW n night p left
theorem four_ext {a b : List Int} (ha : a.length = 4) (hb : b.length = 4) (h0 : nth a 0 = nth b 0) (h1 : nth a 1 = nth b 1) (h2 : nth a 2 = nth b 2) (h3 : nth a 3 = nth b 3) : a = b := by
  match a, ha with
  | [x0, x1, x2, x3], _ =>
    match b, hb with
    | [y0, y1, y2, y3], _ =>
      simp only [nth] at h0 h1 h2 h3
      simp at h0 h1 h2 h3
      rw [h0, h1, h2, h3]
theorem MemoK.val {f : Fnd} {n : Nat} {night : Int} {p : Pt} {left : List Int} {v : Int} (hl : left.length = 4) (hn : night + n = f.nights.length) (h : MemoK f (stKey night p left) v) : v = f.chW n night p left := by
  obtain ⟨n', night', p', left', hl', hn', hk, rfl⟩ := h
  simp only [stKey, List.cons.injEq, and_true] at hk
  obtain ⟨rfl, h1, h2, h3, h4, h5, h6, h7, h8, h9, h10, h11⟩ := hk
  have hp : p' = p := by
    cases p; cases p'; simp only [Pt.mk.injEq]; exact ⟨h1.symm, h2.symm, h3.symm, h4.symm, h5.symm, h6.symm, h7.symm⟩
  have hL : left' = left := four_ext hl' hl h8.symm h9.symm h10.symm h11.symm
  have hN : n' = n := by omega
  rw [hp, hL, hN]
end Go.Flong
namespace Go.Flong
open Go Go.Eng
end Go.Flong
namespace Go.Flong
open Go Go.Eng
def hugeS (s : Shop) : Bool := decide (40 < (s.pigs.length : Int))
def Fnd.huge (f : Fnd) : Bool := hugeS f.shop || decide (40 < (f.nights.length : Int))
def Fnd.farA (f : Fnd) : Nat → Int
  | 0 => (f.shop.th - f.shop.tl + 1) * (f.shop.ah - f.shop.al + 1)
  | i + 1 => Fnd.farA f i * ((nth f.nights i).hi - (nth f.nights i).lo + 1)
def farI (many n : Int) : Nat → Int
  | 0 => n
  | j + 1 => (farI many n j * (many + ((j : Int) + 1))).tdiv ((j : Int) + 1)
def Fnd.farK (f : Fnd) : Nat → Int
  | 0 => f.farA f.nights.length
  | k + 1 => if Fnd.farK f k ≤ 3000 then farI (nth f.shop.pigs k).many (Fnd.farK f k) f.nights.length else Fnd.farK f k
def Fnd.far (f : Fnd) : Bool := f.huge || (f.chk && decide (3000 < f.farK f.shop.pigs.length))
end Go.Flong
namespace Go.Flong
open Go Go.Eng
theorem sameInts_refl (a : List Int) : sameInts a a = true := by
  simp only [sameInts, decide_true, Bool.true_and]
  exact allI_iff.2 fun j _ => by simp [sameAt]
end Go.Flong
namespace Go.Flong
open Go Go.Eng Go.Proofs
theorem Q23 : FlatT Try.prog 23 2 2 true := .struct Try.underlying23 Try.stoodInHeld23 G23 ⟨by decide, rfl, 1, false, Q3, ⟨by decide, rfl, 1, false, Q3, rfl⟩⟩
theorem Q25 : FlatT Try.prog 25 5 3 true := .struct Try.underlying25 Try.stoodInHeld25 G25 ⟨by decide, rfl, 1, false, Q3.up, ⟨by decide, rfl, 2, true, Q23, ⟨by decide, rfl, 2, true, Q23, rfl⟩⟩⟩
theorem Q49 : FlatT Try.prog 49 5 2 true := .struct Try.underlying49 Try.stoodInHeld49 G49 ⟨by decide, rfl, 1, false, Q3, ⟨by decide, rfl, 1, false, Q3, ⟨by decide, rfl, 1, false, Q3, ⟨by decide, rfl, 1, false, Q3, ⟨by decide, rfl, 1, false, Q3, rfl⟩⟩⟩⟩⟩
theorem w35 {s : Shop} : ∀ x ∈ ([.e (.g [ai (s.pounds), ai (s.tl), ai (s.th), ai (s.al), ai (s.ah), ai (s.room), ai (s.tpl), ai (s.tph), ai (s.apl), ai (s.aph), .q 0])] : List SV), x.res (keys (α := Pred) [(0, PL EPig (s.pigs))]) := by simp [SV.res, El.res, At.res, keys]
theorem r35 {s : Shop} : SV.res (keys (α := Pred) []) (.b (hugeS s)) := by simp [SV.res, El.res, At.res, keys]
set_option maxHeartbeats 4000000 in
theorem c35 (s : Shop)  : Sig Try.prog 35 [.e (.g [ai (s.pounds), ai (s.tl), ai (s.th), ai (s.al), ai (s.ah), ai (s.room), ai (s.tpl), ai (s.tph), ai (s.apl), ai (s.aph), .q 0])] [(0, PL EPig (s.pigs))] (.b (hugeS s)) [] := by
  refine Sig.intro Try.func35 rfl 1 [(0, .e (.g [ai (s.pounds), ai (s.tl), ai (s.th), ai (s.al), ai (s.ah), ai (s.room), ai (s.tpl), ai (s.tph), ai (s.apl), ai (s.aph), .q 0]))] rfl w35 rfl rfl fun I w => ?_
  refine WP.seq ?_
  refine WP.region ?_
  refine WPl.l 1 2 rfl rfl rfl (o_boxg rfl) ?_
  refine WPl.v rfl (o_assign rfl) ?_
  refine WPl.nil ?_
  refine EX.then ?_
  refine WP.seq ?_
  refine WP.region ?_
  refine WPl.v rfl (o_fldp F28_4 rfl) ?_
  refine WPl.v rfl (o_ldp S26 rfl rfl rfl) ?_
  refine WPl.v rfl (o_lenq L26 rfl (lx rfl)) ?_
  refine WPl.v rfl (o_gtr rfl rfl) ?_
  refine WPl.v rfl (o_assign rfl) ?_
  refine WPl.nil ?_
  refine EX.then ?_
  refine WP.ret ?_
  exact EX.fin id (.inl rfl) rfl (.tmp rfl .nil) rfl r35 trivial (by simp) (by simp)
theorem w45 {s : Shop} : ∀ x ∈ ([.e (.g [ai (s.pounds), ai (s.tl), ai (s.th), ai (s.al), ai (s.ah), ai (s.room), ai (s.tpl), ai (s.tph), ai (s.apl), ai (s.aph), .q 0]), .e (.g [ai (s.pounds), ai (s.tl), ai (s.th), ai (s.al), ai (s.ah), ai (s.room), ai (s.tpl), ai (s.tph), ai (s.apl), ai (s.aph), .q 1])] : List SV), x.res (keys (α := Pred) [(0, PL EPig (s.pigs)), (1, PL EPig (s.pigs))]) := by simp [SV.res, El.res, At.res, keys]
theorem r45  : SV.res (keys (α := Pred) []) (.b (true)) := by simp [SV.res, El.res, At.res, keys]
set_option maxHeartbeats 4000000 in
theorem c45 (s : Shop) (hl : s.pigs.length ≤ 1000) : Sig Try.prog 45 [.e (.g [ai (s.pounds), ai (s.tl), ai (s.th), ai (s.al), ai (s.ah), ai (s.room), ai (s.tpl), ai (s.tph), ai (s.apl), ai (s.aph), .q 0]), .e (.g [ai (s.pounds), ai (s.tl), ai (s.th), ai (s.al), ai (s.ah), ai (s.room), ai (s.tpl), ai (s.tph), ai (s.apl), ai (s.aph), .q 1])] [(0, PL EPig (s.pigs)), (1, PL EPig (s.pigs))] (.b (true)) [] := by
  refine Sig.intro Try.func45 rfl 2 [(0, .e (.g [ai (s.pounds), ai (s.tl), ai (s.th), ai (s.al), ai (s.ah), ai (s.room), ai (s.tpl), ai (s.tph), ai (s.apl), ai (s.aph), .q 0])), (1, .e (.g [ai (s.pounds), ai (s.tl), ai (s.th), ai (s.al), ai (s.ah), ai (s.room), ai (s.tpl), ai (s.tph), ai (s.apl), ai (s.aph), .q 1]))] rfl w45 rfl rfl fun I w => ?_
  refine WP.seq ?_
  refine WP.region ?_
  refine WPl.l 2 3 rfl rfl rfl (o_boxg rfl) ?_
  refine WPl.l 3 4 rfl rfl rfl (o_boxg rfl) ?_
  refine WPl.v rfl (o_assign rfl) ?_
  refine WPl.nil ?_
  refine EX.then ?_
  refine WP.seq ?_
  refine WP.seq ?_
  refine WP.region ?_
  refine WPl.v rfl (o_fldp F28_0 rfl) ?_
  refine WPl.v rfl (o_ldpg G25 rfl rfl rfl) ?_
  refine WPl.v rfl (o_fldp F28_0 rfl) ?_
  refine WPl.v rfl (o_ldpg G25 rfl rfl rfl) ?_
  refine WPl.v rfl (o_nes (a := [s.pounds, s.tl, s.th, s.al, s.ah]) (b := [s.pounds, s.tl, s.th, s.al, s.ah]) Q25 rfl Try.eqGuardType25 rfl rfl rfl rfl) ?_
  refine WPl.v rfl (o_move rfl) ?_
  refine WPl.bit 4 5 (!(decide ([s.pounds, s.tl, s.th, s.al, s.ah] ≠ [s.pounds, s.tl, s.th, s.al, s.ah]))) rfl rfl ?_
  refine WPl.gv 4 rfl rfl (.plain rfl (by simp) rfl) (fun hb => o_fldp F28_1 rfl) ?_
  refine WPl.gv 4 rfl rfl (.plain rfl (by simp) rfl) (fun hb => o_ldp S3 rfl rfl rfl) ?_
  refine WPl.gv 4 rfl rfl (.plain rfl (by simp) rfl) (fun hb => o_fldp F28_1 rfl) ?_
  refine WPl.gv 4 rfl rfl (.plain rfl (by simp) rfl) (fun hb => o_ldp S3 rfl rfl rfl) ?_
  refine WPl.gv 4 rfl rfl (.plain rfl (by simp) rfl) (fun hb => o_neq rfl rfl) ?_
  refine WPl.v rfl (o_or rfl rfl rfl (by first | (simp; done) | simp_all)) ?_
  refine WPl.v rfl (o_move rfl) ?_
  refine WPl.bit 5 6 (!((decide ([s.pounds, s.tl, s.th, s.al, s.ah] ≠ [s.pounds, s.tl, s.th, s.al, s.ah])) || (decide (s.room ≠ s.room)))) rfl rfl ?_
  refine WPl.gv 5 rfl rfl (.plain rfl (by simp) rfl) (fun hb => o_fldp F28_2 rfl) ?_
  refine WPl.gv 5 rfl rfl (.plain rfl (by simp) rfl) (fun hb => o_ldpg G23 rfl rfl rfl) ?_
  refine WPl.gv 5 rfl rfl (.plain rfl (by simp) rfl) (fun hb => o_fldp F28_2 rfl) ?_
  refine WPl.gv 5 rfl rfl (.plain rfl (by simp) rfl) (fun hb => o_ldpg G23 rfl rfl rfl) ?_
  refine WPl.gv 5 rfl rfl (.plain rfl (by simp) rfl) (fun hb => o_nes (a := [s.tpl, s.tph]) (b := [s.tpl, s.tph]) Q23 rfl Try.eqGuardType23 rfl rfl rfl rfl) ?_
  refine WPl.v rfl (o_or rfl rfl rfl (by first | (simp; done) | simp_all)) ?_
  refine WPl.v rfl (o_move rfl) ?_
  refine WPl.bit 6 7 (!(((decide ([s.pounds, s.tl, s.th, s.al, s.ah] ≠ [s.pounds, s.tl, s.th, s.al, s.ah])) || (decide (s.room ≠ s.room))) || (decide ([s.tpl, s.tph] ≠ [s.tpl, s.tph])))) rfl rfl ?_
  refine WPl.gv 6 rfl rfl (.plain rfl (by simp) rfl) (fun hb => o_fldp F28_3 rfl) ?_
  refine WPl.gv 6 rfl rfl (.plain rfl (by simp) rfl) (fun hb => o_ldpg G23 rfl rfl rfl) ?_
  refine WPl.gv 6 rfl rfl (.plain rfl (by simp) rfl) (fun hb => o_fldp F28_3 rfl) ?_
  refine WPl.gv 6 rfl rfl (.plain rfl (by simp) rfl) (fun hb => o_ldpg G23 rfl rfl rfl) ?_
  refine WPl.gv 6 rfl rfl (.plain rfl (by simp) rfl) (fun hb => o_nes (a := [s.apl, s.aph]) (b := [s.apl, s.aph]) Q23 rfl Try.eqGuardType23 rfl rfl rfl rfl) ?_
  refine WPl.v rfl (o_or rfl rfl rfl (by first | (simp; done) | simp_all)) ?_
  refine WPl.v rfl (o_move rfl) ?_
  refine WPl.bit 7 8 (!((((decide ([s.pounds, s.tl, s.th, s.al, s.ah] ≠ [s.pounds, s.tl, s.th, s.al, s.ah])) || (decide (s.room ≠ s.room))) || (decide ([s.tpl, s.tph] ≠ [s.tpl, s.tph]))) || (decide ([s.apl, s.aph] ≠ [s.apl, s.aph])))) rfl rfl ?_
  refine WPl.gv 7 rfl rfl (.plain rfl (by simp) rfl) (fun hb => o_fldp F28_4 rfl) ?_
  refine WPl.gv 7 rfl rfl (.plain rfl (by simp) rfl) (fun hb => o_ldp S26 rfl rfl rfl) ?_
  refine WPl.gv 7 rfl rfl (.plain rfl (by simp) rfl) (fun hb => o_lenq L26 rfl (lx rfl)) ?_
  refine WPl.gv 7 rfl rfl (.plain rfl (by simp) rfl) (fun hb => o_fldp F28_4 rfl) ?_
  refine WPl.gv 7 rfl rfl (.plain rfl (by simp) rfl) (fun hb => o_ldp S26 rfl rfl rfl) ?_
  refine WPl.gv 7 rfl rfl (.plain rfl (by simp) rfl) (fun hb => o_lenq L26 rfl (lx rfl)) ?_
  refine WPl.gv 7 rfl rfl (.plain rfl (by simp) rfl) (fun hb => o_neq rfl rfl) ?_
  refine WPl.v rfl (o_or rfl rfl rfl (by first | (simp; done) | simp_all)) ?_
  refine WPl.nil ?_
  refine EX.then ?_
  refine WP.cond rfl (fun hc1 => ?_) (fun hc1 => ?_)
  · try simp only [decide_eq_true_eq, decide_eq_false_iff_not, Bool.and_eq_true, Bool.or_eq_true, Bool.and_eq_false_iff, Bool.or_eq_false_iff, Bool.not_eq_true', Bool.not_eq_false', ne_eq, Decidable.not_not] at hc1
    simp at hc1
  · try simp only [decide_eq_true_eq, decide_eq_false_iff_not, Bool.and_eq_true, Bool.or_eq_true, Bool.and_eq_false_iff, Bool.or_eq_false_iff, Bool.not_eq_true', Bool.not_eq_false', ne_eq, Decidable.not_not] at hc1
    refine WP.skip ?_
    refine EX.then ?_
    refine WP.seq ?_
    refine WP.seq ?_
    refine WP.region ?_
    refine WPl.v rfl (o_assign rfl) ?_
    refine WPl.nil ?_
    refine EX.then ?_
    refine WP.block ?_
    refine WP.loop (Gh := Nat) (fun i => ⟨8, [(2, .e (.a (.p 2 (0)))), (3, .e (.a (.p 3 (0)))), (4, .b (false)), (5, .i ((i : Int)))], [(0, PL EPig (s.pigs)), (1, PL EPig (s.pigs))], [(2, .blk [ai (s.pounds), ai (s.tl), ai (s.th), ai (s.al), ai (s.ah), ai (s.room), ai (s.tpl), ai (s.tph), ai (s.apl), ai (s.aph), .q 0] 28), (3, .blk [ai (s.pounds), ai (s.tl), ai (s.th), ai (s.al), ai (s.ah), ai (s.room), ai (s.tpl), ai (s.tph), ai (s.apl), ai (s.aph), .q 1] 28)], [], []⟩) (fun i => i ≤ s.pigs.length) (fun i => s.pigs.length - i) (0) id ?_ (LeR.of ⟨rfl, rfl, rfl, rfl, trivial⟩ ⟨(lx rfl), (lx rfl), trivial⟩ ⟨rfl, rfl, trivial⟩ rfl rfl rfl rfl rfl) ?_
    · first | trivial | omega | (constructor <;> omega) | simp
    intro i hφ
    have hi : i ≤ s.pigs.length := hφ
    refine WP.seq ?_
    refine WP.seq ?_
    refine WP.region ?_
    refine WPl.v rfl (o_move rfl) ?_
    refine WPl.v rfl (o_fldp F28_4 rfl) ?_
    refine WPl.v rfl (o_ldp S26 rfl rfl rfl) ?_
    refine WPl.v rfl (o_lenq L26 rfl (lx rfl)) ?_
    refine WPl.v rfl (o_lss rfl rfl) ?_
    refine WPl.nil ?_
    refine EX.then ?_
    refine WP.cond rfl (fun hc2 => ?_) (fun hc2 => ?_)
    · try simp only [decide_eq_true_eq, decide_eq_false_iff_not, Bool.and_eq_true, Bool.or_eq_true, Bool.and_eq_false_iff, Bool.or_eq_false_iff, Bool.not_eq_true', Bool.not_eq_false', ne_eq, Decidable.not_not] at hc2
      refine WP.skip ?_
      refine EX.then ?_
      refine WP.seq ?_
      refine WP.block ?_
      refine WP.seq ?_
      refine WP.draw (nf := 10) [⟨[50, 53, 54, 55, 56, 57], [9], [], [], []⟩, ⟨[50, 53, 54, 55, 56, 57], [9], [], [], [0]⟩, ⟨[48, 49, 53, 54, 55, 56, 57], [9], [], [], []⟩, ⟨[53, 54, 55, 56, 57], [9], [8], [8], [0, 1, 2]⟩, ⟨[53, 54, 55, 56, 57], [9], [], [], [0, 1, 2, 3]⟩, ⟨[48, 49, 50, 51, 52, 55], [8], [], [], []⟩, ⟨[48, 49, 50, 51, 52, 55], [8], [], [], [5]⟩, ⟨[48, 49, 50, 51, 52, 53, 54], [8], [], [], []⟩, ⟨[48, 49, 50, 51, 52], [8], [9], [9], [5, 6, 7]⟩, ⟨[48, 49, 50, 51, 52], [8], [], [], [5, 6, 7, 8]⟩, ⟨[], [], [], [], [0, 1, 2, 3, 4, 5, 6, 7, 8, 9]⟩] (by kernel_rfl) (by kernel_rfl) ?_
      refine DRQ.v rfl rfl rfl (o_fldp F28_4 rfl) ?_
      refine DRQ.v rfl rfl rfl (o_ldp S26 rfl rfl rfl) ?_
      refine DRQ.v rfl rfl rfl (o_move rfl) ?_
      refine DRQ.x 8 rfl rfl rfl rfl (o_idx L26 rfl (lx rfl) rfl (by first | omega | (simp; omega)) (by first | omega | (simp; omega))) ?_
      refine DRQ.v rfl rfl rfl (o_ldqg G49 rfl (lx rfl) (strG rfl) rfl rfl) ?_
      refine DRQ.v rfl rfl rfl (o_fldp F28_4 rfl) ?_
      refine DRQ.v rfl rfl rfl (o_ldp S26 rfl rfl rfl) ?_
      refine DRQ.v rfl rfl rfl (o_move rfl) ?_
      refine DRQ.x 9 rfl rfl rfl rfl (o_idx L26 rfl (lx rfl) rfl (by first | omega | (simp; omega)) (by first | omega | (simp; omega))) ?_
      refine DRQ.v rfl rfl rfl (o_ldqg G49 rfl (lx rfl) (strG rfl) rfl rfl) ?_
      refine DRQ.v rfl rfl rfl (o_nes (a := [(nth s.pigs (i : Int)).pounds, (nth s.pigs (i : Int)).tin, (nth s.pigs (i : Int)).ant, (nth s.pigs (i : Int)).pence, (nth s.pigs (i : Int)).many]) (b := [(nth s.pigs (i : Int)).pounds, (nth s.pigs (i : Int)).tin, (nth s.pigs (i : Int)).ant, (nth s.pigs (i : Int)).pence, (nth s.pigs (i : Int)).many]) Q49 rfl Try.eqGuardType49 rfl rfl rfl rfl) ?_
      refine DRQ.nil' ?_
      refine EX.then ?_
      refine WP.cond rfl (fun hc3 => ?_) (fun hc3 => ?_)
      · try simp only [decide_eq_true_eq, decide_eq_false_iff_not, Bool.and_eq_true, Bool.or_eq_true, Bool.and_eq_false_iff, Bool.or_eq_false_iff, Bool.not_eq_true', Bool.not_eq_false', ne_eq, Decidable.not_not] at hc3
        simp at hc3
      · try simp only [decide_eq_true_eq, decide_eq_false_iff_not, Bool.and_eq_true, Bool.or_eq_true, Bool.and_eq_false_iff, Bool.or_eq_false_iff, Bool.not_eq_true', Bool.not_eq_false', ne_eq, Decidable.not_not] at hc3
        refine WP.skip ?_
        refine EX.blk ?_
        refine EX.then ?_
        refine WP.region ?_
        refine WPl.v rfl (o_move rfl) ?_
        refine WPl.v rfl (o_add rfl rfl (by first | omega | (simp; omega)) (by first | omega | (simp; omega))) ?_
        refine WPl.v rfl (o_assign rfl) ?_
        refine WPl.nil ?_
        refine EX.again (i + 1) id (by first | omega | (constructor <;> omega)) (by omega) (LeR.of ⟨rfl, rfl, rfl, rfl, trivial⟩ ⟨(lx rfl), (lx rfl), trivial⟩ ⟨rfl, rfl, trivial⟩ rfl rfl rfl rfl rfl)
    · try simp only [decide_eq_true_eq, decide_eq_false_iff_not, Bool.and_eq_true, Bool.or_eq_true, Bool.and_eq_false_iff, Bool.or_eq_false_iff, Bool.not_eq_true', Bool.not_eq_false', ne_eq, Decidable.not_not] at hc2
      refine WP.exit ?_
      refine EX.exit_then ?_
      refine EX.exit_then ?_
      refine EX.exit_blk ?_
      refine EX.then ?_
      refine WP.seq ?_
      refine WP.region ?_
      refine WPl.v rfl (o_assign rfl) ?_
      refine WPl.nil ?_
      refine EX.then ?_
      refine WP.ret ?_
      exact EX.fin id (.inl rfl) rfl (.tmp rfl .nil) rfl r45 trivial (by simp) (by simp)
end Go.Flong
namespace Go.Flong
open Go Go.Eng
def Shop.ready (s : Shop) : Bool := !hugeS s && s.chk
def insideS (a b c d : Int) : Bool := decide (c ≤ a) && decide (a ≤ b) && decide (b ≤ d)
theorem mSafe_in {s : Shop} {add : List Int} (hs : s.chk = true) (hv : isAdd s add = true) : opE s (isAdd s add) = 0 ∧ 1 ≤ s.mSafe add ∧ s.mSafe add ≤ 3 := by
  have hE : opE s (isAdd s add) = 0 := by rw [hv, opE_t hs]; rfl
  refine ⟨hE, ?_⟩
  unfold Shop.mSafe
  rw [if_pos hE]
  split
  · omega
  · split <;> omega
def Shop.spans (s : Shop) (p : Po) : Shop := { s with tl := p.tl, th := p.th, al := p.al, ah := p.ah }
theorem spans_chk {s : Shop} {p : Po} (hs : s.chk = true) (h1 : insideS p.tl p.th s.tl s.th = true) (h2 : insideS p.al p.ah s.al s.ah = true) : (s.spans p).chk = true := by
  simp only [Shop.chk, Shop.head, Shop.spans, isPot, isSpan, within, insideS, Bool.and_eq_true, decide_eq_true_eq] at *
  grind
end Go.Flong
namespace Go.Flong
open Go Go.Eng
theorem ready_chk {s : Shop} (h : s.ready = true) : s.chk = true := by
  simp only [Shop.ready, Bool.and_eq_true] at h; exact h.2
def Shop.pigged (s : Shop) (i n : Int) : Shop := { s with pigs := lset s.pigs i { nth s.pigs i with many := n } }
end Go.Flong
namespace Go.Flong
open Go Go.Eng Go.Proofs
theorem e35 : Enters' Try.prog 35 := Try.call35
theorem e18 : Enters' Try.prog 18 := Try.call18
theorem B49 : BldT Try.prog 49 [(0, 1), (1, 1), (2, 1), (3, 1), (4, 1)] [.int .i64 0, .int .i64 0, .int .i64 0, .int .i64 0, .int .i64 0] := BldT.mk (ns := [1, 1, 1, 1, 1]) Try.underlying49 ⟨Try.sizeOf3, Try.sizeOf3, Try.sizeOf3, Try.sizeOf3, Try.sizeOf3, trivial⟩ rfl Try.zeroValue49 rfl
theorem B28 : BldT Try.prog 28 [(0, 5), (5, 1), (6, 2), (8, 2), (10, 1)] [.int .i64 0, .int .i64 0, .int .i64 0, .int .i64 0, .int .i64 0, .int .i64 0, .int .i64 0, .int .i64 0, .int .i64 0, .int .i64 0, .slice none 0 0] := BldT.mk (ns := [5, 1, 2, 2, 1]) Try.underlying28 ⟨Try.sizeOf25, Try.sizeOf3, Try.sizeOf23, Try.sizeOf23, Try.sizeOf26, trivial⟩ rfl Try.zeroValue28 rfl
theorem e25 : Enters' Try.prog 25 := Try.call25
theorem e67 : Enters' Try.prog 67 := Try.call67
theorem e40 : Enters' Try.prog 40 := Try.call40
theorem e22 : Enters' Try.prog 22 := Try.call22
theorem e27 : Enters' Try.prog 27 := Try.call27
theorem e62 : Enters' Try.prog 62 := Try.call62
theorem e32 : Enters' Try.prog 32 := Try.call32
theorem e44 : Enters' Try.prog 44 := Try.call44
theorem w15 {s : Shop} : ∀ x ∈ ([.e (.g [ai (s.pounds), ai (s.tl), ai (s.th), ai (s.al), ai (s.ah), ai (s.room), ai (s.tpl), ai (s.tph), ai (s.apl), ai (s.aph), .q 0])] : List SV), x.res (keys (α := Pred) [(0, PL EPig (s.pigs))]) := by simp [SV.res, El.res, At.res, keys]
theorem r15 {s : Shop} : SV.res (keys (α := Pred) []) (.b (s.ready)) := by simp [SV.res, El.res, At.res, keys]
set_option maxHeartbeats 4000000 in
theorem c15 (s : Shop)  : Sig Try.prog 15 [.e (.g [ai (s.pounds), ai (s.tl), ai (s.th), ai (s.al), ai (s.ah), ai (s.room), ai (s.tpl), ai (s.tph), ai (s.apl), ai (s.aph), .q 0])] [(0, PL EPig (s.pigs))] (.b (s.ready)) [] := by
  refine Sig.intro Try.func15 rfl 1 [(0, .e (.g [ai (s.pounds), ai (s.tl), ai (s.th), ai (s.al), ai (s.ah), ai (s.room), ai (s.tpl), ai (s.tph), ai (s.apl), ai (s.aph), .q 0]))] rfl w15 rfl rfl fun I w => ?_
  refine WP.seq ?_
  refine WP.region ?_
  refine WPl.l 1 2 rfl rfl rfl (o_boxg rfl) ?_
  refine WPl.v rfl (o_assign rfl) ?_
  refine WPl.nil ?_
  refine EX.then ?_
  refine WP.seq ?_
  refine WP.region ?_
  refine WPl.v rfl (o_ldpa G28 rfl rfl rfl) ?_
  refine WPl.cs 2 rfl rfl rfl rfl (o_sig 2 (ren [(0, 0)]) (c35 s) e35 rfl rfl rfl w35 ⟨(lx rfl), trivial⟩ r35) ?_
  refine WPl.v rfl (o_not rfl) ?_
  refine WPl.v rfl (o_move rfl) ?_
  refine WPl.bit 2 3 (!(hugeS s)) rfl rfl ?_
  refine WPl.gv 2 rfl rfl (.plain rfl Iff.rfl rfl) (fun hb => o_ldpa G28 rfl rfl rfl) ?_
  refine WPl.gc0 2 rfl rfl (.plain rfl Iff.rfl rfl) (fun hb => o_sig 3 (ren [(0, 0)]) (c39 s) e39 rfl rfl rfl w39 ⟨(lx rfl), trivial⟩ r39) ?_
  refine WPl.gv 2 rfl rfl (.plain rfl Iff.rfl rfl) (fun hb => o_eql rfl rfl) ?_
  refine WPl.v rfl (o_and rfl rfl rfl id) ?_
  refine WPl.v rfl (o_assign rfl) ?_
  refine WPl.nil ?_
  refine EX.then ?_
  refine WP.ret ?_
  rw [show s.ready = (!hugeS s && decide (errM s.chk = 0)) from by unfold Shop.ready errM; cases s.chk <;> simp]
  exact EX.fin id (.inl rfl) rfl (.tmp rfl .nil) rfl (by simp [SV.res, El.res, At.res, keys]) trivial (by simp) (by simp)
theorem w20 {s : Shop} {add : List Int} : ∀ x ∈ ([.e (.g [ai (s.pounds), ai (s.tl), ai (s.th), ai (s.al), ai (s.ah), ai (s.room), ai (s.tpl), ai (s.tph), ai (s.apl), ai (s.aph), .q 0]), .e (.a (.q 1))] : List SV), x.res (keys (α := Pred) [(0, PL EPig (s.pigs)), (1, PL EP.int (add))]) := by simp [SV.res, El.res, At.res, keys]
theorem r20 {s : Shop} {add : List Int} : SV.res (keys (α := Pred) []) (.b (decide ((add.length : Int) ≤ 40) && isAdd s add)) := by simp [SV.res, El.res, At.res, keys]
set_option maxHeartbeats 4000000 in
theorem c20 (s : Shop) (add : List Int) (hs : s.chk = true) : Sig Try.prog 20 [.e (.g [ai (s.pounds), ai (s.tl), ai (s.th), ai (s.al), ai (s.ah), ai (s.room), ai (s.tpl), ai (s.tph), ai (s.apl), ai (s.aph), .q 0]), .e (.a (.q 1))] [(0, PL EPig (s.pigs)), (1, PL EP.int (add))] (.b (decide ((add.length : Int) ≤ 40) && isAdd s add)) [] := by
  have hpg := Shop.pigsOK hs
  have htb := tl_bnd hs
  refine Sig.intro Try.func20 rfl 2 [(0, .e (.g [ai (s.pounds), ai (s.tl), ai (s.th), ai (s.al), ai (s.ah), ai (s.room), ai (s.tpl), ai (s.tph), ai (s.apl), ai (s.aph), .q 0])), (1, .e (.a (.q 1)))] rfl w20 rfl rfl fun I w => ?_
  refine WP.seq ?_
  refine WP.region ?_
  refine WPl.l 2 3 rfl rfl rfl (o_boxg rfl) ?_
  refine WPl.v rfl (o_assign rfl) ?_
  refine WPl.nil ?_
  refine EX.then ?_
  refine WP.seq ?_
  refine WP.region ?_
  refine WPl.v rfl (o_move rfl) ?_
  refine WPl.v rfl (o_lenq L29 rfl (lx rfl)) ?_
  refine WPl.v rfl (o_leq rfl rfl) ?_
  refine WPl.v rfl (o_move rfl) ?_
  refine WPl.bit 3 4 (decide ((add.length : Int) ≤ 40)) rfl rfl ?_
  refine WPl.gv 3 rfl rfl (.plain rfl Iff.rfl rfl) (fun hb => o_ldpa G28 rfl rfl rfl) ?_
  refine WPl.gv 3 rfl rfl (.plain rfl Iff.rfl rfl) (fun hb => o_move rfl) ?_
  refine WPl.gc0 3 rfl rfl (.plain rfl Iff.rfl rfl) (fun hb => o_sig 4 (ren [(0, 0), (1, 1)]) (c68 s add hpg (by omega)) e68 rfl rfl rfl w68 ⟨(lx rfl), (lx rfl), trivial⟩ r68) ?_
  refine WPl.v rfl (o_and rfl rfl rfl id) ?_
  refine WPl.v rfl (o_assign rfl) ?_
  refine WPl.nil ?_
  refine EX.then ?_
  refine WP.ret ?_
  exact EX.fin id (.inl rfl) rfl (.tmp rfl .nil) rfl r20 trivial (by simp) (by simp)
theorem w25 {s : Shop} {i n : Int} : ∀ x ∈ ([.e (.g [ai (s.pounds), ai (s.tl), ai (s.th), ai (s.al), ai (s.ah), ai (s.room), ai (s.tpl), ai (s.tph), ai (s.apl), ai (s.aph), .q 0]), .i (i), .i (n)] : List SV), x.res (keys (α := Pred) [(0, PL EPig (s.pigs))]) := by simp [SV.res, El.res, At.res, keys]
theorem r25 {s : Shop} {i n : Int} : SV.res (keys (α := Pred) [(0, PL EPig ((s.pigged i n).pigs))]) (.e (.g [ai ((s.pigged i n).pounds), ai ((s.pigged i n).tl), ai ((s.pigged i n).th), ai ((s.pigged i n).al), ai ((s.pigged i n).ah), ai ((s.pigged i n).room), ai ((s.pigged i n).tpl), ai ((s.pigged i n).tph), ai ((s.pigged i n).apl), ai ((s.pigged i n).aph), .q 0])) := by simp [SV.res, El.res, At.res, keys]
set_option maxHeartbeats 4000000 in
theorem c25 (s : Shop) (i n : Int) (hl : s.pigs.length ≤ 40) (hi : 0 ≤ i ∧ i < s.pigs.length) : Sig Try.prog 25 [.e (.g [ai (s.pounds), ai (s.tl), ai (s.th), ai (s.al), ai (s.ah), ai (s.room), ai (s.tpl), ai (s.tph), ai (s.apl), ai (s.aph), .q 0]), .i (i), .i (n)] [(0, PL EPig (s.pigs))] (.e (.g [ai ((s.pigged i n).pounds), ai ((s.pigged i n).tl), ai ((s.pigged i n).th), ai ((s.pigged i n).al), ai ((s.pigged i n).ah), ai ((s.pigged i n).room), ai ((s.pigged i n).tpl), ai ((s.pigged i n).tph), ai ((s.pigged i n).apl), ai ((s.pigged i n).aph), .q 0])) [(0, PL EPig ((s.pigged i n).pigs))] := by
  refine Sig.intro Try.func25 rfl 1 [(0, .e (.g [ai (s.pounds), ai (s.tl), ai (s.th), ai (s.al), ai (s.ah), ai (s.room), ai (s.tpl), ai (s.tph), ai (s.apl), ai (s.aph), .q 0])), (1, .i (i)), (2, .i (n))] rfl w25 rfl rfl fun I w => ?_
  refine WP.seq ?_
  refine WP.region ?_
  refine WPl.l 1 2 rfl rfl rfl (o_boxg rfl) ?_
  refine WPl.l 2 3 rfl rfl rfl (o_alloc Z28) ?_
  refine WPl.nil ?_
  refine EX.then ?_
  refine WP.seq ?_
  refine WP.region ?_
  refine WPl.v rfl (o_ldpa G28 rfl rfl rfl) ?_
  refine WPl.cL 4 rfl rfl rfl rfl rfl (o_sigo 3 (ren [(0, 0)]) (c18O s hl) e18 rfl rfl SvsOK.rf w18O ⟨(lx rfl), trivial⟩ r18O rfl rfl) ?_
  refine WPl.l 4 5 rfl rfl rfl (o_alloc Z28) ?_
  refine WPl.s1 (o_stag G28 rfl rfl rfl ⟨rfl, rfl, rfl, rfl, rfl, rfl, rfl, rfl, rfl, rfl, (.inr ⟨_, _, _, _, rfl⟩), trivial⟩ rfl rfl) ?_
  refine WPl.nil ?_
  refine EX.then ?_
  refine WP.seq ?_
  refine WP.region ?_
  refine WPl.v rfl (o_fldp F28_4 rfl) ?_
  refine WPl.v rfl (o_ldp S26 rfl rfl rfl) ?_
  refine WPl.v rfl (o_move rfl) ?_
  refine WPl.v rfl (o_idxo L26 rfl rfl rfl (by first | omega | (simp; omega)) (by first | omega | (simp; omega))) ?_
  refine WPl.v rfl (o_ldoG G49 rfl rfl rfl rfl (by first | omega | (simp; omega)) (by first | omega | (simp; omega)) (strG rfl) rfl rfl) ?_
  refine WPl.l 5 6 rfl rfl rfl (o_alloc Z49) ?_
  refine WPl.s1 (o_stag G49 rfl rfl rfl ⟨rfl, rfl, rfl, rfl, rfl, trivial⟩ rfl rfl) ?_
  refine WPl.nil ?_
  refine EX.then ?_
  refine WP.seq ?_
  refine WP.region ?_
  refine WPl.v rfl (o_move rfl) ?_
  refine WPl.v rfl (o_fldp F49_4 rfl) ?_
  refine WPl.s1 (o_sta S3 rfl rfl rfl rfl rfl) ?_
  refine WPl.nil ?_
  refine EX.then ?_
  refine WP.seq ?_
  refine WP.region ?_
  refine WPl.v rfl (o_fldp F28_4 rfl) ?_
  refine WPl.v rfl (o_ldp S26 rfl rfl rfl) ?_
  refine WPl.v rfl (o_move rfl) ?_
  refine WPl.v rfl (o_ldpa G49 rfl rfl rfl) ?_
  refine WPl.v rfl (o_idxo L26 rfl rfl rfl (by first | omega | (simp; omega)) (by first | omega | (simp; omega))) ?_
  refine WPl.s1 (o_steE2 (z := ({ nth s.pigs i with many := n } : Pig)) Try.sizeOf49 rfl rfl rfl ⟨rfl, rfl, rfl, rfl, rfl, trivial⟩ (eok_str ⟨rfl, rfl, rfl, rfl, rfl, trivial⟩) rfl rfl rfl (by first | omega | (simp; omega)) (by first | omega | (simp; omega))) ?_
  refine WPl.nil ?_
  refine EX.then ?_
  refine WP.seq ?_
  refine WP.region ?_
  refine WPl.v rfl (o_ldpa G28 rfl rfl rfl) ?_
  refine WPl.s1 (o_stag G28 rfl rfl rfl ⟨rfl, rfl, rfl, rfl, rfl, rfl, rfl, rfl, rfl, rfl, (.inr ⟨_, _, _, _, rfl⟩), trivial⟩ rfl rfl) ?_
  refine WPl.nil ?_
  refine EX.then ?_
  refine WP.ret ?_
  refine EX.imp (Imp.frz (E := EPig) (l := lset ([] ++ s.pigs) i ({ nth s.pigs i with many := n } : Pig)) 3 rfl rfl) ?_
  exact EX.fin (ren [(0, 3)]) (.inl rfl) rfl (.cellg G28 rfl rfl rfl (.nil)) rfl r25 ⟨(lx rfl), trivial⟩ (by simp) (by simp)
theorem w67  : ∀ x ∈ ([] : List SV), x.res (keys (α := Pred) []) := by simp [SV.res, El.res, At.res, keys]
theorem r67  : SV.res (keys (α := Pred) [(0, PL EPig (exM.pigs)), (1, PL EPig (exL.pigs))]) (.t [.g [ai (exM.pounds), ai (exM.tl), ai (exM.th), ai (exM.al), ai (exM.ah), ai (exM.room), ai (exM.tpl), ai (exM.tph), ai (exM.apl), ai (exM.aph), .q 0], .g [ai (exL.pounds), ai (exL.tl), ai (exL.th), ai (exL.al), ai (exL.ah), ai (exL.room), ai (exL.tpl), ai (exL.tph), ai (exL.apl), ai (exL.aph), .q 1]]) := by simp [SV.res, El.res, At.res, keys]
set_option maxHeartbeats 4000000 in
theorem c67   : Sig Try.prog 67 [] [] (.t [.g [ai (exM.pounds), ai (exM.tl), ai (exM.th), ai (exM.al), ai (exM.ah), ai (exM.room), ai (exM.tpl), ai (exM.tph), ai (exM.apl), ai (exM.aph), .q 0], .g [ai (exL.pounds), ai (exL.tl), ai (exL.th), ai (exL.al), ai (exL.ah), ai (exL.room), ai (exL.tpl), ai (exL.tph), ai (exL.apl), ai (exL.aph), .q 1]]) [(0, PL EPig (exM.pigs)), (1, PL EPig (exL.pigs))] := by
  refine Sig.intro Try.func67 rfl 0 [] rfl w67 rfl rfl fun I w => ?_
  refine WP.seq ?_
  refine WP.region ?_
  refine WPl.l 0 1 rfl rfl rfl (o_alloc Z28) ?_
  refine WPl.l 1 2 rfl rfl rfl (o_alloc Z28) ?_
  refine WPl.nil ?_
  refine EX.then ?_
  refine WP.seq ?_
  refine WP.region ?_
  refine WPl.v rfl (o_build B23 rfl ⟨rfl, rfl, trivial⟩ rfl rfl) ?_
  refine WPl.v rfl (o_build B23 rfl ⟨rfl, rfl, trivial⟩ rfl rfl) ?_
  refine WPl.v rfl (o_build B25 rfl ⟨rfl, trivial⟩ rfl rfl) ?_
  refine WPl.v rfl (o_build B23 rfl ⟨rfl, rfl, trivial⟩ rfl rfl) ?_
  refine WPl.v rfl (o_build B23 rfl ⟨rfl, rfl, trivial⟩ rfl rfl) ?_
  refine WPl.v rfl (o_build B49 rfl ⟨rfl, rfl, rfl, rfl, trivial⟩ rfl rfl) ?_
  refine WPl.v rfl (o_build B49 rfl ⟨rfl, rfl, rfl, rfl, rfl, trivial⟩ rfl rfl) ?_
  refine WPl.v rfl (o_build B49 rfl ⟨rfl, rfl, rfl, trivial⟩ rfl rfl) ?_
  refine WPl.x 2 3 rfl rfl rfl (OpG.settle0 (o_bsl (E := EPig) (l := [(⟨10, 5, 0, 30, 3⟩ : Pig), (⟨20, 1, 6, 25, 2⟩ : Pig), (⟨25, 0, 0, 5, 2⟩ : Pig)]) R26 rfl rfl (.cons (⟨rfl, rfl, rfl, rfl, rfl, trivial⟩) rfl (eok_str ⟨rfl, rfl, rfl, rfl, rfl, trivial⟩) (.cons (⟨rfl, rfl, rfl, rfl, rfl, trivial⟩) rfl (eok_str ⟨rfl, rfl, rfl, rfl, rfl, trivial⟩) (.cons (⟨rfl, rfl, rfl, rfl, rfl, trivial⟩) rfl (eok_str ⟨rfl, rfl, rfl, rfl, rfl, trivial⟩) (.nil)))) rfl rfl)) ?_
  refine WPl.v rfl (o_build B28 rfl ⟨rfl, (.inl ⟨_, (lx rfl), PL.one⟩), trivial⟩ rfl rfl) ?_
  refine WPl.s1 (o_stag G28 rfl rfl rfl ⟨rfl, rfl, rfl, rfl, rfl, rfl, rfl, rfl, rfl, rfl, (.inl ⟨_, (lx rfl), PL.one⟩), trivial⟩ rfl rfl) ?_
  refine WPl.nil ?_
  refine EX.then ?_
  refine WP.seq ?_
  refine WP.draw (nf := 4) [⟨[13, 14], [3], [], [], []⟩, ⟨[12], [], [], [], []⟩, ⟨[12], [], [3], [3], [1]⟩, ⟨[], [], [], [0], [0, 1, 2]⟩, ⟨[], [], [], [1], [0, 1, 2, 3]⟩] (by kernel_rfl) (by kernel_rfl) ?_
  refine DRQ.v rfl rfl rfl (o_ldpa G28 rfl rfl rfl) ?_
  refine DRQ.v rfl rfl rfl (o_ldpa G28 rfl rfl rfl) ?_
  refine DRQ.cs rfl rfl rfl rfl (o_sig 3 (ren [(0, 2)]) (c25 exM 0 0 (by decide) (by decide)) e25 rfl rfl rfl w25 ⟨(lx rfl), trivial⟩ r25) ?_
  refine DRQ.s 0 rfl rfl rfl (o_stag G28 rfl rfl rfl ⟨rfl, rfl, rfl, rfl, rfl, rfl, rfl, rfl, rfl, rfl, (.inl ⟨_, (lx rfl), PL.one⟩), trivial⟩ rfl rfl) ?_
  refine DRQ.s 1 rfl rfl rfl (o_stag G28 rfl rfl rfl ⟨rfl, rfl, rfl, rfl, rfl, rfl, rfl, rfl, rfl, rfl, (.inl ⟨_, (lx rfl), PL.one⟩), trivial⟩ rfl rfl) ?_
  refine DRQ.nil' ?_
  refine EX.then ?_
  refine WP.ret ?_
  exact EX.fin (ren [(0, 2), (1, 3)]) (.inl rfl) rfl (.cellg G28 rfl rfl rfl (.cellg G28 rfl rfl rfl (.nil))) rfl r67 ⟨(lx rfl), (lx rfl), trivial⟩ (by simp) (by simp)
theorem w17  : ∀ x ∈ ([] : List SV), x.res (keys (α := Pred) []) := by simp [SV.res, El.res, At.res, keys]
theorem r17  : SV.res (keys (α := Pred) []) (.b (true)) := by simp [SV.res, El.res, At.res, keys]
set_option maxHeartbeats 4000000 in
theorem c17   : Sig Try.prog 17 [] [] (.b (true)) [] := by
  refine Sig.intro Try.func17 rfl 0 [] rfl w17 rfl rfl fun I w => ?_
  refine WP.seq ?_
  refine WP.region ?_
  refine WPl.v rfl (o_assign rfl) ?_
  refine WPl.nil ?_
  refine EX.then ?_
  refine WP.seq ?_
  refine WP.region ?_
  refine WPl.cs 2 rfl rfl rfl rfl (o_sig 0 id c67 e67 rfl rfl rfl w67 trivial r67) ?_
  refine WPl.v rfl (o_move rfl) ?_
  refine WPl.v rfl (o_extract rfl rfl) ?_
  refine WPl.v rfl (o_extract rfl rfl) ?_
  refine WPl.l 2 3 rfl rfl rfl (o_alloc Z28) ?_
  refine WPl.l 3 4 rfl rfl rfl (o_alloc Z28) ?_
  refine WPl.s1 (o_stag G28 rfl rfl rfl ⟨rfl, rfl, rfl, rfl, rfl, rfl, rfl, rfl, rfl, rfl, (.inl ⟨_, (lx rfl), PL.one⟩), trivial⟩ rfl rfl) ?_
  refine WPl.s1 (o_stag G28 rfl rfl rfl ⟨rfl, rfl, rfl, rfl, rfl, rfl, rfl, rfl, rfl, rfl, (.inl ⟨_, (lx rfl), PL.one⟩), trivial⟩ rfl rfl) ?_
  refine WPl.nil ?_
  refine EX.then ?_
  refine WP.seq ?_
  refine WP.region ?_
  refine WPl.v rfl (o_ldpa G28 rfl rfl rfl) ?_
  refine WPl.x 4 5 rfl rfl rfl (OpG.settle0 (o_bsl (E := EP.int) (l := [1, 1, 1]) R29 rfl rfl (.cons (rfl) rfl (eok_int) (.cons (rfl) rfl (eok_int) (.cons (rfl) rfl (eok_int) (.nil)))) rfl rfl)) ?_
  refine WPl.cs 5 rfl rfl rfl rfl (o_sig 5 (ren [(0, 0), (1, 4)]) (c40 exM [1, 1, 1] (by decide)) e40 rfl rfl rfl w40 ⟨(lx rfl), (lx rfl), trivial⟩ r40) ?_
  refine WPl.v rfl (o_move rfl) ?_
  refine WPl.v rfl (o_extract rfl rfl) ?_
  refine WPl.v rfl (o_extract rfl rfl) ?_
  refine WPl.v rfl (o_assign rfl) ?_
  refine WPl.v rfl (o_assign rfl) ?_
  refine WPl.nil ?_
  refine EX.then ?_
  refine WP.seq ?_
  refine WP.region ?_
  refine WPl.v rfl (o_ldpa G28 rfl rfl rfl) ?_
  refine WPl.x 5 6 rfl rfl rfl (OpG.settle0 (o_bsl (E := EP.int) (l := [0, 1, 0]) R29 rfl rfl (.cons (rfl) rfl (eok_int) (.cons (rfl) rfl (eok_int) (.cons (rfl) rfl (eok_int) (.nil)))) rfl rfl)) ?_
  refine WPl.cs 7 rfl rfl rfl rfl (o_sig 6 (ren [(0, 0), (1, 5)]) (c22 exM [0, 1, 0] (by decide)) e22 rfl rfl rfl w22 ⟨(lx rfl), (lx rfl), trivial⟩ r22) ?_
  refine WPl.v rfl (o_move rfl) ?_
  refine WPl.v rfl (o_extract rfl rfl) ?_
  refine WPl.v rfl (o_extract rfl rfl) ?_
  refine WPl.v rfl (o_assign rfl) ?_
  refine WPl.v rfl (o_assign rfl) ?_
  refine WPl.nil ?_
  refine EX.then ?_
  refine WP.seq ?_
  refine WP.region ?_
  refine WPl.v rfl (o_ldpa G28 rfl rfl rfl) ?_
  refine WPl.x 7 8 rfl rfl rfl (OpG.settle0 (o_bsl (E := EP.int) (l := [1, 1, 0]) R29 rfl rfl (.cons (rfl) rfl (eok_int) (.cons (rfl) rfl (eok_int) (.cons (rfl) rfl (eok_int) (.nil)))) rfl rfl)) ?_
  refine WPl.cs 8 rfl rfl rfl rfl (o_sig 8 (ren [(0, 0), (1, 7)]) (c27 exM [1, 1, 0] (by decide)) e27 rfl rfl rfl w27 ⟨(lx rfl), (lx rfl), trivial⟩ r27) ?_
  refine WPl.v rfl (o_move rfl) ?_
  refine WPl.v rfl (o_extract rfl rfl) ?_
  refine WPl.v rfl (o_extract rfl rfl) ?_
  refine WPl.l 8 9 rfl rfl rfl (o_alloc Z23) ?_
  refine WPl.s1 (o_stag G23 rfl rfl rfl ⟨rfl, rfl, trivial⟩ rfl rfl) ?_
  refine WPl.v rfl (o_assign rfl) ?_
  refine WPl.nil ?_
  refine EX.then ?_
  refine WP.seq ?_
  refine WP.region ?_
  refine WPl.v rfl (o_ldpa G28 rfl rfl rfl) ?_
  refine WPl.cs 9 rfl rfl rfl rfl (o_sig 9 (ren [(0, 0)]) (c58 exM (by decide)) e58 rfl rfl rfl w58 ⟨(lx rfl), trivial⟩ r58) ?_
  refine WPl.v rfl (o_move rfl) ?_
  refine WPl.v rfl (o_extract rfl rfl) ?_
  refine WPl.v rfl (o_extract rfl rfl) ?_
  refine WPl.v rfl (o_assign rfl) ?_
  refine WPl.v rfl (o_assign rfl) ?_
  refine WPl.nil ?_
  refine EX.then ?_
  refine WP.seq ?_
  refine WP.region ?_
  refine WPl.v rfl (o_ldpa G28 rfl rfl rfl) ?_
  refine WPl.cs 9 rfl rfl rfl rfl (o_sig 9 (ren [(0, 0)]) (c62 exM (by decide)) e62 rfl rfl rfl w62 ⟨(lx rfl), trivial⟩ r62) ?_
  refine WPl.v rfl (o_move rfl) ?_
  refine WPl.v rfl (o_extract rfl rfl) ?_
  refine WPl.v rfl (o_extract rfl rfl) ?_
  refine WPl.v rfl (o_assign rfl) ?_
  refine WPl.v rfl (o_assign rfl) ?_
  refine WPl.nil ?_
  refine EX.then ?_
  refine WP.seq ?_
  refine WP.region ?_
  refine WPl.v rfl (o_ldpa G28 rfl rfl rfl) ?_
  refine WPl.cs 9 rfl rfl rfl rfl (o_sig 9 (ren [(0, 0)]) (c32 exM (by decide)) e32 rfl rfl rfl w32 ⟨(lx rfl), trivial⟩ r32) ?_
  refine WPl.v rfl (o_move rfl) ?_
  refine WPl.v rfl (o_extract rfl rfl) ?_
  refine WPl.v rfl (o_extract rfl rfl) ?_
  refine WPl.v rfl (o_assign rfl) ?_
  refine WPl.v rfl (o_assign rfl) ?_
  refine WPl.nil ?_
  refine EX.then ?_
  refine WP.seq ?_
  refine WP.region ?_
  refine WPl.v rfl (o_move rfl) ?_
  refine WPl.v rfl (o_eql rfl rfl) ?_
  refine WPl.imp (Imp.bitF 53 (b' := true) rfl (decide_eq_true exM_sE)) ?_
  refine WPl.v rfl (o_move rfl) ?_
  refine WPl.on rfl ⟨_, _, rfl, rfl, rfl⟩ (o_move rfl) ?_
  refine WPl.on rfl ⟨_, _, rfl, rfl, rfl⟩ (o_eql rfl rfl) ?_
  refine WPl.imp (Imp.bitF 56 (b' := true) rfl (decide_eq_true exM_fE)) ?_
  refine WPl.v rfl (o_pickT rfl rfl) ?_
  refine WPl.v rfl (o_move rfl) ?_
  refine WPl.on rfl ⟨_, _, rfl, rfl, rfl⟩ (o_move rfl) ?_
  refine WPl.on rfl ⟨_, _, rfl, rfl, rfl⟩ (o_eql rfl rfl) ?_
  refine WPl.imp (Imp.bitF 60 (b' := true) rfl (decide_eq_true exM_lE)) ?_
  refine WPl.v rfl (o_pickT rfl rfl) ?_
  refine WPl.v rfl (o_move rfl) ?_
  refine WPl.on rfl ⟨_, _, rfl, rfl, rfl⟩ (o_move rfl) ?_
  refine WPl.on rfl ⟨_, _, rfl, rfl, rfl⟩ (o_eql rfl rfl) ?_
  refine WPl.imp (Imp.bitF 64 (b' := true) rfl (decide_eq_true exM_cE)) ?_
  refine WPl.v rfl (o_pickT rfl rfl) ?_
  refine WPl.v rfl (o_move rfl) ?_
  refine WPl.on rfl ⟨_, _, rfl, rfl, rfl⟩ (o_move rfl) ?_
  refine WPl.on rfl ⟨_, _, rfl, rfl, rfl⟩ (o_eql rfl rfl) ?_
  refine WPl.imp (Imp.bitF 68 (b' := true) rfl (decide_eq_true exM_tE)) ?_
  refine WPl.v rfl (o_pickT rfl rfl) ?_
  refine WPl.v rfl (o_move rfl) ?_
  refine WPl.on rfl ⟨_, _, rfl, rfl, rfl⟩ (o_move rfl) ?_
  refine WPl.on rfl ⟨_, _, rfl, rfl, rfl⟩ (o_eql rfl rfl) ?_
  refine WPl.imp (Imp.bitF 72 (b' := true) rfl (decide_eq_true exM_wE)) ?_
  refine WPl.v rfl (o_pickT rfl rfl) ?_
  refine WPl.v rfl (o_move rfl) ?_
  refine WPl.on rfl ⟨_, _, rfl, rfl, rfl⟩ (o_move rfl) ?_
  refine WPl.on rfl ⟨_, _, rfl, rfl, rfl⟩ (o_eql rfl rfl) ?_
  refine WPl.v rfl (o_pickT rfl rfl) ?_
  refine WPl.v rfl (o_move rfl) ?_
  rw [exM_f]
  refine WPl.bit 9 10 (decide ((exM.mSafe [1, 1, 1]) = 1)) rfl rfl ?_
  refine WPl.gv 9 rfl rfl (.plain rfl Iff.rfl rfl) (fun hb => o_move rfl) ?_
  refine WPl.gx 9 10 11 rfl rfl rfl rfl (.plain rfl Iff.rfl rfl) (fun hb => OpG.settle0 (o_bsl (E := EP.int) (l := [1, 4]) R29 rfl rfl (.cons (rfl) rfl (eok_int) (.cons (rfl) rfl (eok_int) (.nil))) rfl rfl)) ?_
  refine WPl.gc0 9 rfl rfl (.plain rfl Iff.rfl rfl) (fun hb => o_sig 11 (ren [(0, 6), (1, 10)]) (c44 [1, 4] [1, 4] (by decide)) e44 rfl rfl rfl w44 ⟨(lx rfl), (lxi hb rfl), trivial⟩ r44) ?_
  refine WPl.v rfl (o_and rfl rfl rfl id) ?_
  refine WPl.v rfl (o_move rfl) ?_
  refine WPl.bit 11 12 ((decide ((exM.mSafe [1, 1, 1]) = 1)) && (sameInts [1, 4] [1, 4])) rfl rfl ?_
  refine WPl.gv 11 rfl rfl (.plain rfl Iff.rfl rfl) (fun hb => o_ldpa G23 rfl rfl rfl) ?_
  refine WPl.gv 11 rfl rfl (.plain rfl Iff.rfl rfl) (fun hb => o_build B23 rfl ⟨rfl, rfl, trivial⟩ rfl rfl) ?_
  refine WPl.gv 11 rfl rfl (.plain rfl Iff.rfl rfl) (fun hb => o_eqs (a := [(exM.mLead [1, 1, 0]).1, (exM.mLead [1, 1, 0]).2]) (b := [4, 53]) Q23 rfl Try.eqGuardType23 rfl rfl rfl rfl) ?_
  refine WPl.v rfl (o_and rfl rfl rfl id) ?_
  refine WPl.v rfl (o_move rfl) ?_
  refine WPl.bit 12 13 (((decide ((exM.mSafe [1, 1, 1]) = 1)) && (sameInts [1, 4] [1, 4])) && (decide ([(exM.mLead [1, 1, 0]).1, (exM.mLead [1, 1, 0]).2] = [4, 53]))) rfl rfl ?_
  refine WPl.gv 12 rfl rfl (.plain rfl Iff.rfl rfl) (fun hb => o_move rfl) ?_
  refine WPl.gv 12 rfl rfl (.plain rfl Iff.rfl rfl) (fun hb => o_eql rfl rfl) ?_
  refine WPl.v rfl (o_and rfl rfl rfl id) ?_
  refine WPl.v rfl (o_move rfl) ?_
  refine WPl.bit 13 14 ((((decide ((exM.mSafe [1, 1, 1]) = 1)) && (sameInts [1, 4] [1, 4])) && (decide ([(exM.mLead [1, 1, 0]).1, (exM.mLead [1, 1, 0]).2] = [4, 53]))) && (decide (exM.mCheap = 60))) rfl rfl ?_
  refine WPl.gv 13 rfl rfl (.plain rfl Iff.rfl rfl) (fun hb => o_move rfl) ?_
  refine WPl.gv 13 rfl rfl (.plain rfl Iff.rfl rfl) (fun hb => o_eql rfl rfl) ?_
  refine WPl.v rfl (o_and rfl rfl rfl id) ?_
  refine WPl.v rfl (o_move rfl) ?_
  refine WPl.bit 14 15 (((((decide ((exM.mSafe [1, 1, 1]) = 1)) && (sameInts [1, 4] [1, 4])) && (decide ([(exM.mLead [1, 1, 0]).1, (exM.mLead [1, 1, 0]).2] = [4, 53]))) && (decide (exM.mCheap = 60))) && (decide (exM.mTin = 6))) rfl rfl ?_
  refine WPl.gv 14 rfl rfl (.plain rfl Iff.rfl rfl) (fun hb => o_move rfl) ?_
  refine WPl.gv 14 rfl rfl (.plain rfl Iff.rfl rfl) (fun hb => o_eql rfl rfl) ?_
  refine WPl.v rfl (o_and rfl rfl rfl id) ?_
  refine WPl.v rfl (o_assign rfl) ?_
  refine WPl.nil ?_
  refine EX.then ?_
  refine WP.ret ?_
  rw [exM_s, exM_l, exM_c, exM_t, exM_w]
  exact EX.fin id (.inl rfl) rfl (.tmp rfl .nil) rfl (by simp [SV.res, El.res, At.res, keys]) trivial (by simp) (by simp)
end Go.Flong
namespace Go.Flong
open Go Go.Eng
def addTo (a b : List Int) : Nat → List Int
  | 0 => a
  | i + 1 => lset (addTo a b i) i (nth (addTo a b i) i + nth b i)
end Go.Flong
namespace Go.Flong
open Go Go.Eng
theorem sumTo_plus {f : Pig → Int} {pigs : List Pig} {a b : List Int} : ∀ i : Nat, i ≤ a.length → sumTo f pigs (plus a b) i = sumTo f pigs a i + sumTo f pigs b i
  | 0, _ => by simp [sumTo]
  | i + 1, h => by
    simp only [sumTo]
    rw [sumTo_plus i (by omega), nth_plus (by omega), Int.add_mul]; omega
theorem sumOf_plus {f : Pig → Int} {pigs : List Pig} {a b : List Int} (h : b.length = a.length) : sumOf f pigs (plus a b) = sumOf f pigs a + sumOf f pigs b := by
  simp only [sumOf]
  rw [plus_len, sumTo_plus _ (Nat.le_refl _), h]
section
variable {f : Fnd} {plan : List (List Int)}
theorem addL_eq (p : Pt) (pigs : List Pig) (l : List Int) : p.addL pigs l = ⟨p.pounds + sumOf Pig.pounds pigs l, p.tl + sumOf Pig.tin pigs l, p.th + sumOf Pig.tin pigs l, p.al + sumOf Pig.ant pigs l, p.ah + sumOf Pig.ant pigs l, p.dl, p.dh⟩ := rfl
end
section
variable {f : Fnd} {plan : List (List Int)}
end
end Go.Flong
namespace Go.Flong
open Go Go.Eng
theorem takeTo_nth {left row : List Int} (hl : left.length = 4) : ∀ (m j : Nat), m ≤ 4 → nth (takeTo left row m) j = if j < m then nth left j - nth row j else nth left j
  | 0, j, _ => by rw [if_neg (by omega)]; rfl
  | m + 1, j, hm => by
    rw [takeTo, nth_lset (by rw [takeTo_len, hl]; omega), takeTo_nth hl m m (by omega), if_neg (Nat.lt_irrefl _)]
    by_cases h : j = m
    · subst h; rw [if_pos rfl, if_pos (by omega)]
    · rw [if_neg h, takeTo_nth hl m j (by omega)]
      by_cases h2 : j < m
      · rw [if_pos h2, if_pos (by omega)]
      · rw [if_neg h2, if_neg (by omega)]
theorem takeL_nth {left row : List Int} (hl : left.length = 4) (hr : row.length ≤ 4) {j : Nat} (hj : j < row.length) : nth (takeL left row) j = nth left j - nth row j := by
  rw [takeL, takeTo_nth hl _ _ hr, if_pos hj]
section
variable {f : Fnd} {plan : List (List Int)}
end
end Go.Flong
namespace Go.Flong
open Go Go.Eng
theorem not_allI_iff {p : Nat → Bool} {n : Nat} : (!allI p n) = true ↔ ∃ i : Nat, i < n ∧ p i = false := by
  rw [Bool.not_eq_true']
  constructor
  · intro h
    cases hx : decide (∃ i : Nat, i < n ∧ p i = false) with
    | true => exact of_decide_eq_true hx
    | false =>
      have hx := of_decide_eq_false hx
      have : allI p n = true := allI_iff.2 fun j hj => by
        cases hp : p j with
        | true => rfl
        | false => exact absurd ⟨j, hj, hp⟩ hx
      rw [this] at h; cases h
  · rintro ⟨i, hi, hp⟩; exact not_allI hi hp
end Go.Flong
namespace Go.Flong
open Go Go.Eng
theorem flatTo_range {α : Type} (g : Nat → List α) : ∀ n : Nat, flatTo g n = (List.range n).flatMap g
  | 0 => rfl
  | n + 1 => by rw [flatTo, flatTo_range g n, List.range_succ, List.flatMap_append]; simp
theorem nth_cons_succ {α : Type} [Inhabited α] {b : α} {t : List α} {j : Nat} : nth (b :: t) ((j + 1 : Nat) : Int) = nth t (j : Int) := by
  have e : ((j + 1 : Nat) : Int).toNat = j + 1 := by omega
  have e2 : ((j : Nat) : Int).toNat = j := by omega
  simp only [nth, e, e2, List.getD_cons_succ]
theorem nth_cons_zero {α : Type} [Inhabited α] {b : α} {t : List α} : nth (b :: t) ((0 : Nat) : Int) = b := rfl
def remL (f : Fnd) (before : List Int) : List Int := (List.range f.shop.pigs.length).map fun j : Nat => (nth f.shop.pigs j).many - nth before j
theorem remL_len (f : Fnd) (before : List Int) : (remL f before).length = f.shop.pigs.length := by simp [remL]
theorem mem_boxS : ∀ {r x : List Int}, x ∈ boxS r ↔ x.length = r.length ∧ ∀ j : Nat, j < r.length → 0 ≤ nth x j ∧ nth x j ≤ nth r j
  | [], x => by
    simp only [boxS, List.mem_singleton, List.length_nil]
    constructor
    · rintro rfl; exact ⟨rfl, fun j hj => absurd hj (by omega)⟩
    · intro h; exact List.eq_nil_of_length_eq_zero h.1
  | b :: t, x => by
    constructor
    · intro h; exact ⟨boxS_len _ h, boxS_bnd h⟩
    · rintro ⟨h1, h2⟩
      match x, h1 with
      | y :: ys, h1 =>
        have h0 := h2 0 (by simp)
        rw [nth_cons_zero, nth_cons_zero] at h0
        simp only [boxS, List.mem_flatMap, List.mem_map, List.mem_range]
        refine ⟨y.toNat, by omega, ys, mem_boxS.2 ⟨by simpa using h1, fun j hj => ?_⟩, by rw [Int.toNat_of_nonneg h0.1]⟩
        have := h2 (j + 1) (by simpa using hj)
        rwa [nth_cons_succ, nth_cons_succ] at this
def nonneg (l : List Int) : Prop := ∀ j : Nat, j < l.length → 0 ≤ nth l j
structure BefOK (f : Fnd) (before left : List Int) : Prop where
  len : before.length = f.shop.pigs.length
  pos : nonneg before
  le : ∀ j : Nat, j < f.shop.pigs.length → nth left j = (nth f.shop.pigs j).many - nth before j
def Rep (f : Fnd) (p : Pt) (s : Sp) (before : List Int) (c : Int) : Prop :=
  p = ⟨f.shop.pounds + sumOf Pig.pounds f.shop.pigs before - c, s.tl + sumOf Pig.tin f.shop.pigs before - c, s.th + sumOf Pig.tin f.shop.pigs before - c, s.al + sumOf Pig.ant f.shop.pigs before, s.ah + sumOf Pig.ant f.shop.pigs before, s.dl - c, s.dh - c⟩
theorem BefOK.next {f : Fnd} {before left x : List Int} (hl : left.length = 4) (hp : f.shop.pigs.length ≤ 4) (h : BefOK f before left) (hx : x ∈ boxS (remL f before)) : BefOK f (plus before x) (takeL left x) := by
  obtain ⟨h1, h2⟩ := mem_boxS.1 hx
  rw [remL_len] at h1 h2
  refine ⟨by rw [plus_len, h.len], fun j hj => ?_, fun j hj => ?_⟩
  · rw [plus_len] at hj
    have h3 := h2 j (by have := h.len; omega)
    have h4 := h.pos j hj
    rw [nth_plus hj]; omega
  · rw [takeL_nth hl (by omega) (by omega), h.le j hj, nth_plus (by have := h.len; omega)]; omega
theorem Rep.next {f : Fnd} {p : Pt} {s : Sp} {before x : List Int} {c : Int} {n : Night} (hx : x.length = before.length) (h : Rep f p s before c) : Rep f ((p.addL f.shop.pigs x).lose n) { s with dl := s.dl + n.lo, dh := s.dh + n.hi } (plus before x) c := by
  have hsum := fun g : Pig → Int => sumOf_plus (f := g) (pigs := f.shop.pigs) (a := before) (b := x) hx
  unfold Rep at *
  subst h
  rw [addL_eq]
  simp only [Pt.lose, hsum, Pt.mk.injEq]
  refine ⟨?_, ?_, ?_, ?_, ?_, ?_, ?_⟩ <;> omega
end Go.Flong
namespace Go.Flong
open Go Go.Eng
theorem Rep.one {f : Fnd} {p : Pt} {s : Sp} {before : List Int} {c : Int} (h : Rep f p s before c) (i j k : Nat) : Rep f (p.one (p.tl + i) (p.al + j) (p.dl + k)) ⟨s.tl + i, s.tl + i, s.al + j, s.al + j, s.dl + k, s.dl + k⟩ before (c + (p.dl + k)) := by
  unfold Rep at *
  subst h
  simp only [Pt.mk.injEq]
  refine ⟨?_, ?_, ?_, ?_, ?_, ?_, ?_⟩ <;> omega
end Go.Flong
namespace Go.Flong
open Go Go.Eng
theorem cmpI_refl (a : Int) : cmpI a a = 0 := cmpI_eq.2 rfl
theorem cmpI_lt {a b : Int} : cmpI a b < 0 ↔ a < b := by unfold cmpI; split; omega; split <;> omega
theorem cmpL_refl : ∀ a : List Int, cmpL a a = 0
  | [] => rfl
  | x :: a => by rw [cmpL, if_pos (cmpI_refl x), cmpL_refl a]
theorem cmpL_trans : ∀ {a b c : List Int}, cmpL a b < 0 → cmpL b c ≤ 0 → cmpL a c < 0
  | [], [], _, h, _ => by simp [cmpL] at h
  | [], _ :: _, [], _, h => by simp [cmpL] at h
  | [], _ :: _, _ :: _, _, _ => by simp [cmpL]
  | _ :: _, [], _, h, _ => by simp [cmpL] at h
  | _ :: _, _ :: _, [], _, h => by simp [cmpL] at h
  | x :: a, y :: b, z :: c, h1, h2 => by
    simp only [cmpL] at h1 h2 ⊢
    by_cases e1 : cmpI x y = 0
    · rw [if_pos e1] at h1
      have e := cmpI_eq.1 e1
      subst e
      by_cases e2 : cmpI x z = 0
      · rw [if_pos e2] at h2 ⊢; exact cmpL_trans h1 h2
      · rw [if_neg e2] at h2 ⊢; omega
    · rw [if_neg e1] at h1
      have l1 := cmpI_lt.1 h1
      by_cases e2 : cmpI y z = 0
      · have e := cmpI_eq.1 e2
        subst e
        rw [if_neg e1]; exact h1
      · rw [if_neg e2] at h2
        have l2 := cmpI_lt.1 (show cmpI y z < 0 by omega)
        have l3 := cmpI_lt.2 (show x < z by omega)
        rw [if_neg (by omega)]; exact l3
theorem cmpL_flip : ∀ {a b : List Int}, ¬ cmpL a b < 0 → cmpL b a ≤ 0
  | [], [], _ => by simp [cmpL]
  | [], _ :: _, h => by simp [cmpL] at h
  | _ :: _, [], _ => by simp [cmpL]
  | x :: a, y :: b, h => by
    simp only [cmpL] at h ⊢
    by_cases e1 : cmpI x y = 0
    · rw [if_pos e1] at h
      have e := cmpI_eq.1 e1
      subst e
      rw [if_pos (cmpI_refl x)]; exact cmpL_flip h
    · rw [if_neg e1] at h
      have : ¬ x < y := fun g => h (cmpI_lt.2 g)
      have hne : x ≠ y := fun g => e1 (cmpI_eq.2 g)
      have l := cmpI_lt.2 (show y < x by omega)
      rw [if_neg (by omega)]; omega
section
variable {s : Shop}
theorem mem_adL (hs : PigsOK s.pigs) {l : List Int} : l ∈ s.adL ↔ isAdd s l = true := by
  unfold Shop.adL
  rw [List.mem_filter]
  refine ⟨fun h => h.2, fun h => ⟨?_, h⟩⟩
  have h1 := h
  simp only [isAdd, Bool.and_eq_true, decide_eq_true_eq] at h1
  refine mem_boxS.2 ⟨by rw [manyL_len]; omega, fun j hj => ?_⟩
  rw [manyL_len] at hj
  have h2 := allI_iff.1 h1.1.2 j (by omega)
  simp only [fitsMany, within, Bool.and_eq_true, decide_eq_true_eq] at h2
  rw [manyL_nth hj]; exact h2
theorem adL_index (hs : PigsOK s.pigs) {l : List Int} (h : isAdd s l = true) : ∃ j : Nat, j < s.adL.length ∧ nth s.adL (j : Int) = l := by
  obtain ⟨j, hj, e⟩ := List.mem_iff_getElem.1 ((mem_adL hs).2 h)
  exact ⟨j, hj, by rw [nthN hj]; exact e⟩
def Shop.okM (s : Shop) (l : List Int) : Bool := isAdd s l && s.safeP (s.aft l)
theorem bestM_spec (g : List Int → List Int) (hg : GOK s g) : ∀ i : Nat, i ≤ s.adL.length → (s.bestM g i = ([], []) ∧ ∀ j : Nat, j < i → s.safeP (s.aft (nth s.adL (j : Int))) = false) ∨
    ∃ b : Nat, b < i ∧ s.bestM g i = (nth s.adL (b : Int), g (nth s.adL (b : Int))) ∧ s.safeP (s.aft (nth s.adL (b : Int))) = true ∧ ∀ j : Nat, j < i → s.safeP (s.aft (nth s.adL (j : Int))) = true → cmpL (g (nth s.adL (b : Int))) (g (nth s.adL (j : Int))) ≤ 0 ∧ (j < b → cmpL (g (nth s.adL (b : Int))) (g (nth s.adL (j : Int))) < 0)
  | 0, _ => .inl ⟨rfl, fun j hj => absurd hj (by omega)⟩
  | i + 1, hi => by
    have ih := bestM_spec g hg i (by omega)
    simp only [Shop.bestM]
    cases hs : s.safeP (s.aft (nth s.adL (i : Int))) with
    | false =>
      rw [Bool.false_and, if_neg (by simp)]
      rcases ih with ⟨h1, h2⟩ | ⟨b, h1, h2, h3, h4⟩
      · refine .inl ⟨h1, fun j hj => ?_⟩
        by_cases e : j = i
        · subst e; exact hs
        · exact h2 j (by omega)
      · refine .inr ⟨b, by omega, h2, h3, fun j hj hsj => ?_⟩
        by_cases e : j = i
        · subst e; rw [hs] at hsj; cases hsj
        · exact h4 j (by omega) hsj
    | true =>
      rw [Bool.true_and]
      rcases ih with ⟨h1, h2⟩ | ⟨b, h1, h2, h3, h4⟩
      · rw [h1, if_pos (by simp)]
        refine .inr ⟨i, by omega, rfl, hs, fun j hj hsj => ?_⟩
        by_cases e : j = i
        · subst e; rw [cmpL_refl]; exact ⟨Int.le_refl _, fun h => by omega⟩
        · rw [h2 j (by omega)] at hsj; cases hsj
      · rw [h2]
        by_cases hc : cmpL (g (nth s.adL (i : Int))) (g (nth s.adL (b : Int))) < 0
        · rw [if_pos (by simp [hc])]
          refine .inr ⟨i, by omega, rfl, hs, fun j hj hsj => ?_⟩
          by_cases e : j = i
          · subst e; rw [cmpL_refl]; exact ⟨Int.le_refl _, fun h => by omega⟩
          · have h5 := cmpL_trans hc (h4 j (by omega) hsj).1
            exact ⟨by omega, fun _ => h5⟩
        · have hne : (g (nth s.adL (b : Int))).length ≠ 0 := fun e => (hg _).1 (List.length_eq_zero_iff.1 e)
          rw [if_neg (by simp only [Bool.or_eq_true, decide_eq_true_eq]; rintro (h | h); omega; exact hc h)]
          refine .inr ⟨b, by omega, rfl, h3, fun j hj hsj => ?_⟩
          by_cases e : j = i
          · subst e; exact ⟨cmpL_flip hc, fun h => by omega⟩
          · exact h4 j (by omega) hsj
theorem least_specM (hs : s.chk = true) (g : List Int → List Int) (hg : GOK s g) : (s.mE g = 3 ∧ ∀ l, s.okM l = false) ∨
    (s.mE g = 0 ∧ s.okM (s.mAdd g) = true ∧ s.mNum g = g (s.mAdd g) ∧ ∀ l, s.okM l = true → cmpL (g (s.mAdd g)) (g l) ≤ 0) := by
  have hpg := Shop.pigsOK hs
  have hE : s.mE g = if ((s.mBest g).2.length : Int) = 0 then 3 else 0 := by unfold Shop.mE; rw [hs]; rfl
  rcases bestM_spec g hg s.adL.length (Nat.le_refl _) with ⟨h1, h2⟩ | ⟨b, h1, h2, h3, h4⟩
  · left
    refine ⟨by rw [hE]; unfold Shop.mBest; rw [h1]; rfl, fun l => ?_⟩
    unfold Shop.okM
    cases ha : isAdd s l with
    | false => rfl
    | true =>
      obtain ⟨j, hj, e⟩ := adL_index hpg ha
      have := h2 j hj
      rw [e] at this; rw [this]; rfl
  · right
    have hne : (g (nth s.adL (b : Int))).length ≠ 0 := fun e => (hg _).1 (List.length_eq_zero_iff.1 e)
    have hB : s.mBest g = (nth s.adL (b : Int), g (nth s.adL (b : Int))) := h2
    have hE0 : s.mE g = 0 := by rw [hE, hB]; exact if_neg (by simp only []; omega)
    have hA : s.mAdd g = nth s.adL (b : Int) := by unfold Shop.mAdd; rw [if_pos hE0, hB]
    have hN : s.mNum g = g (nth s.adL (b : Int)) := by unfold Shop.mNum; rw [if_pos hE0, hB]
    refine ⟨hE0, ?_, by rw [hA, hN], fun l hl => ?_⟩
    · rw [hA]; unfold Shop.okM; rw [adL_at h1, h3]; rfl
    · unfold Shop.okM at hl
      rw [Bool.and_eq_true] at hl
      obtain ⟨j, hj, e⟩ := adL_index hpg hl.1
      have := (h4 j hj (by rw [e]; exact hl.2)).1
      rw [e] at this; rw [hA]; exact this
theorem price_le {a b : List Int} (h : cmpL (priceG s a) (priceG s b) ≤ 0) : sumOf Pig.pence s.pigs a < sumOf Pig.pence s.pigs b ∨ (sumOf Pig.pence s.pigs a = sumOf Pig.pence s.pigs b ∧ sumOf Pig.pounds s.pigs a ≤ sumOf Pig.pounds s.pigs b) := by
  unfold priceG at h
  simp only [cmpL] at h
  by_cases e1 : cmpI (sumOf Pig.pence s.pigs a) (sumOf Pig.pence s.pigs b) = 0
  · rw [if_pos e1] at h
    refine .inr ⟨cmpI_eq.1 e1, ?_⟩
    by_cases e2 : cmpI (sumOf Pig.pounds s.pigs a) (sumOf Pig.pounds s.pigs b) = 0
    · have := cmpI_eq.1 e2; omega
    · rw [if_neg e2] at h
      have := cmpI_lt.1 (show cmpI (sumOf Pig.pounds s.pigs a) (sumOf Pig.pounds s.pigs b) < 0 by omega)
      omega
  · rw [if_neg e1] at h
    exact .inl (cmpI_lt.1 (by omega))
theorem cheap_spec (hs : s.chk = true) : (s.mE (priceG s) = 3 ∧ s.mCheap = 0 ∧ ∀ l, s.okM l = false) ∨
    (s.mE (priceG s) = 0 ∧ s.okM (s.mAdd (priceG s)) = true ∧ s.mCheap = sumOf Pig.pence s.pigs (s.mAdd (priceG s)) ∧ ∀ l, s.okM l = true → s.mCheap ≤ sumOf Pig.pence s.pigs l) := by
  rcases least_specM hs (priceG s) (price_ok s) with ⟨h1, h2⟩ | ⟨h1, h2, h3, h4⟩
  · exact .inl ⟨h1, by unfold Shop.mCheap; rw [h1]; rfl, h2⟩
  · have e : s.mCheap = sumOf Pig.pence s.pigs (s.mAdd (priceG s)) := by
      unfold Shop.mCheap; rw [if_pos h1, h3]; rfl
    refine .inr ⟨h1, h2, e, fun l hl => ?_⟩
    rcases price_le (h4 l hl) with h | ⟨h, _⟩ <;> omega
theorem one_le {a b : Int} (h : cmpL [a] [b] ≤ 0) : a ≤ b := by
  simp only [cmpL] at h
  by_cases e : cmpI a b = 0
  · have := cmpI_eq.1 e; omega
  · rw [if_neg e] at h
    have := cmpI_lt.1 (show cmpI a b < 0 by omega); omega
theorem tin_spec (hs : s.chk = true) : (s.mE (tinG s) = 3 ∧ s.mTin = 0 ∧ ∀ l, s.okM l = false) ∨
    (s.mE (tinG s) = 0 ∧ s.okM (s.mAdd (tinG s)) = true ∧ s.mTin = sumOf Pig.tin s.pigs (s.mAdd (tinG s)) ∧ ∀ l, s.okM l = true → s.mTin ≤ sumOf Pig.tin s.pigs l) := by
  rcases least_specM hs (tinG s) (tin_ok s) with ⟨h1, h2⟩ | ⟨h1, h2, h3, h4⟩
  · exact .inl ⟨h1, by unfold Shop.mTin; rw [h1]; rfl, h2⟩
  · have e : s.mTin = sumOf Pig.tin s.pigs (s.mAdd (tinG s)) := by
      unfold Shop.mTin; rw [if_pos h1, h3]; rfl
    refine .inr ⟨h1, h2, e, fun l hl => ?_⟩
    rw [e]; exact one_le (h4 l hl)
theorem safeP_iff {p : Po} : s.safeP p = true ↔ p.pounds * s.tpl ≤ 1000 * p.tl ∧ 1000 * p.th ≤ p.pounds * s.tph ∧ p.pounds * s.apl ≤ 1000 * p.al ∧ 1000 * p.ah ≤ p.pounds * s.aph := by
  unfold Shop.safeP
  rw [allI_iff]
  constructor
  · intro h
    have h0 := h 0 (by omega)
    have h1 := h 1 (by omega)
    have h2 := h 2 (by omega)
    have h3 := h 3 (by omega)
    simp only [Shop.failsP, Bool.not_eq_true'] at h0 h1 h2 h3
    simp at h0 h1 h2 h3
    omega
  · rintro ⟨h0, h1, h2, h3⟩ j hj
    have : j = 0 ∨ j = 1 ∨ j = 2 ∨ j = 3 := by omega
    rcases this with rfl | rfl | rfl | rfl <;> simp [Shop.failsP] <;> omega
theorem justL_iff {part all T : Int} (h1 : 0 ≤ part) (h2 : 0 ≤ all) : justL part all ≤ T ↔ all * part ≤ 1000 * T := by
  have h3 := Int.mul_nonneg h2 h1
  unfold justL
  rw [Int.tdiv_eq_ediv_of_nonneg (by omega)]
  omega
theorem justH_iff {part all T : Int} (h1 : 0 ≤ part) (h2 : 0 ≤ all) : T ≤ justH part all ↔ 1000 * T ≤ all * part := by
  have h3 := Int.mul_nonneg h2 h1
  unfold justH
  rw [Int.tdiv_eq_ediv_of_nonneg h3]
  omega
end
end Go.Flong
namespace Go.Flong
open Go Go.Eng
theorem mSafe_eq {s : Shop} {add : List Int} (hs : s.chk = true) (hv : isAdd s add = true) : s.mSafe add = if s.safeP (s.aft add) then 1 else if s.canM (s.aft add) then 3 else 2 := by
  unfold Shop.mSafe; rw [if_pos (mSafe_in hs hv).1]
end Go.Flong
namespace Go.Flong
open Go Go.Eng
def Shop.parts (s : Shop) (a b c d : Int) : Shop := { s with tpl := a, tph := b, apl := c, aph := d }
end Go.Flong
namespace Go.Eng
open Go
section
variable {cx : Cx} {Q : Exit → Act → World → Prop} {ops : Array Oper} {n : Nat} {fr : List (Nat × SV)} {X : List (Nat × Pred)} {L : List (Nat × Ent)} {D : List Nat} {G : List (Nat × Bool)} {rest : List Oper} {dst : Option Tmp} {op : Op} {ty : TypeId} {pos : String} {af : Array Edge} {gd : Option (Nat × Bool)}
theorem WPl.ung (hg : GOK ops fr gd true) (K : WPl cx ops ⟨n, fr, X, L, D, G⟩ (⟨dst, op, ty, pos, af, none⟩ :: rest) Q) : WPl cx ops ⟨n, fr, X, L, D, G⟩ (⟨dst, op, ty, pos, af, gd⟩ :: rest) Q := by
  intro ε I a w hs
  have h := K ε I a w hs
  have h1 : Region.wanted (⟨dst, op, ty, pos, af, none⟩ : Oper) (yielded ops a.tmps) = true := rfl
  have h2 : Region.wanted (⟨dst, op, ty, pos, af, gd⟩ : Oper) (yielded ops a.tmps) = true := GOK.wanted (o := ⟨dst, op, ty, pos, af, gd⟩) hs hg
  simp only [wpListIn] at h ⊢
  rw [if_pos h1] at h
  rw [if_pos h2]
  exact h
end
end Go.Eng
namespace Go.Flong
open Go Go.Eng
structure Wider (s t : Shop) : Prop where
  len : t.pigs.length = s.pigs.length
  pot : t.pounds = s.pounds ∧ t.tl = s.tl ∧ t.th = s.th ∧ t.al = s.al ∧ t.ah = s.ah
  part : t.tpl = s.tpl ∧ t.tph = s.tph ∧ t.apl = s.apl ∧ t.aph = s.aph
  room : s.room ≤ t.room
  many : ∀ j : Nat, j < s.pigs.length → (nth s.pigs (j : Int)).many ≤ (nth t.pigs (j : Int)).many
  sum : ∀ l : List Int, sumOf Pig.pounds t.pigs l = sumOf Pig.pounds s.pigs l ∧ sumOf Pig.tin t.pigs l = sumOf Pig.tin s.pigs l ∧ sumOf Pig.ant t.pigs l = sumOf Pig.ant s.pigs l
theorem Wider.add {s t : Shop} (h : Wider s t) {l : List Int} (hl : isAdd s l = true) : isAdd t l = true := by
  simp only [isAdd, Bool.and_eq_true, decide_eq_true_eq] at hl ⊢
  obtain ⟨⟨h1, h2⟩, h3⟩ := hl
  rw [h.len, (h.sum l).1, h.pot.1]
  have hr := h.room
  refine ⟨⟨h1, allI_iff.2 fun j hj => ?_⟩, by omega⟩
  have h4 := allI_iff.1 h2 j hj
  have h5 := h.many j (by omega)
  simp only [fitsMany, within, Bool.and_eq_true, decide_eq_true_eq] at h4 ⊢
  omega
theorem Wider.aft {s t : Shop} (h : Wider s t) (l : List Int) : t.aft l = s.aft l := by
  obtain ⟨h1, h2, h3, h4, h5⟩ := h.pot
  obtain ⟨g1, g2, g3⟩ := h.sum l
  simp only [Shop.aft, h1, h2, h3, h4, h5, g1, g2, g3]
theorem Wider.ok {s t : Shop} (h : Wider s t) {l : List Int} (hl : s.okM l = true) : t.okM l = true := by
  unfold Shop.okM at hl ⊢
  rw [Bool.and_eq_true] at hl ⊢
  refine ⟨h.add hl.1, ?_⟩
  have h2 := hl.2
  obtain ⟨g1, g2, g3, g4⟩ := h.part
  rw [safeP_iff] at h2 ⊢
  rw [h.aft, g1, g2, g3, g4]; exact h2
end Go.Flong
namespace Go.Flong
open Go Go.Eng
def upN (p : Int → Bool) : Nat → List Int
  | 0 => []
  | n + 1 => if p ((n : Int) + 1) then upN p n ++ [(n : Int) + 1] else upN p n
theorem failsTo_up (s : Shop) (add : List Int) : ∀ n, s.mFailsTo add n = upN (s.failsP (s.aft add)) n
  | 0 => rfl
  | n + 1 => by simp only [Shop.mFailsTo, upN, failsTo_up s add n]
def Shop.keepsTo (s : Shop) (pounds a b : Int) (n : Nat) : Bool := allI (fun j => keeps1 s ((j : Int) + 1) pounds a b) n
theorem keptC_pos (s : Shop) (c : Int) {j : Nat} : ∀ {i : Nat}, j < i → s.failsP (s.aft (nth s.adL (j : Int))) c = false → 0 < s.keptC c i
  | 0, h, _ => absurd h (by omega)
  | i + 1, h, hf => by
    have hb := keptC_bnd s c i
    simp only [Shop.keptC]
    by_cases e : j = i
    · subst e; rw [hf]; simp; omega
    · have := keptC_pos s c (show j < i by omega) hf
      split <;> omega
end Go.Flong
namespace Go.Flong
open Go Go.Eng
def Shop.inTr (s : Shop) (t a : Int) : Shop := { s with tl := t, th := t, al := a, ah := a }
def Shop.InT (s : Shop) (t a : Int) : Prop := (s.tl ≤ t ∧ t ≤ s.th) ∧ s.al ≤ a ∧ a ≤ s.ah
theorem Shop.InT.ins {s : Shop} {t a : Int} (h : s.InT t a) : insideS t t s.tl s.th = true ∧ insideS a a s.al s.ah = true := by
  obtain ⟨h1, h2⟩ := h
  simp only [insideS, Bool.and_eq_true, decide_eq_true_eq]; omega
theorem Shop.InT.chk {s : Shop} {t a : Int} (hs : s.chk = true) (h : s.InT t a) : (s.inTr t a).chk = true := spans_chk (p := ⟨0, t, t, a, a⟩) hs h.ins.1 h.ins.2
theorem offer_hit {s : Shop} {t a : Int} {l : List Int} (hs : s.chk = true) (hv : isAdd s l = true) : (s.offer l).hit t a = (s.inTr t a).safeP ((s.inTr t a).aft l) := by
  have htb := tl_bnd hs
  have hx := isAddB (Shop.pigsOK hs) hv
  have hb := aft_bnd hs (l := l) (by omega) hx.2.2
  unfold PoB at hb
  have e : (s.aft l).pounds = s.pounds + sumOf Pig.pounds s.pigs l := rfl
  have k := mSafe_in hs hv
  have hp0 : 0 ≤ s.pounds + sumOf Pig.pounds s.pigs l := by omega
  have a1 := justL_iff (part := s.tpl) (all := s.pounds + sumOf Pig.pounds s.pigs l) (T := t + sumOf Pig.tin s.pigs l) (by omega) hp0
  have a2 := justH_iff (part := s.tph) (all := s.pounds + sumOf Pig.pounds s.pigs l) (T := t + sumOf Pig.tin s.pigs l) (by omega) hp0
  have a3 := justL_iff (part := s.apl) (all := s.pounds + sumOf Pig.pounds s.pigs l) (T := a + sumOf Pig.ant s.pigs l) (by omega) hp0
  have a4 := justH_iff (part := s.aph) (all := s.pounds + sumOf Pig.pounds s.pigs l) (T := a + sumOf Pig.ant s.pigs l) (by omega) hp0
  rw [Bool.eq_iff_iff, safeP_iff]
  unfold Offer.hit within
  simp only [Bool.and_eq_true, decide_eq_true_eq]
  simp only [Shop.offer, Shop.inTr, Shop.aft]
  omega
theorem offS_of {s : Shop} {l : List Int} (hs : s.chk = true) (hv : isAdd s l = true) : s.offer l ∈ s.offS := by
  rw [Shop.offS, (sortL_perm offSwo (s.offTo s.adL.length)).mem_iff, offTo_eq s _ (Nat.le_refl _), List.take_length]
  exact List.mem_map.2 ⟨l, (mem_adL (Shop.pigsOK hs)).2 hv, rfl⟩
theorem offCf_lt {a b : Offer} : offCf a b < 0 ↔ a.pence < b.pence := by
  unfold offCf Lib.compareInt
  split
  · omega
  · split <;> omega
theorem offS_le {s : Shop} {i j : Nat} (hij : i ≤ j) (hj : j < s.offS.length) : (nth s.offS (i : Int)).pence ≤ (nth s.offS (j : Int)).pence := by
  by_cases e : i = j
  · subst e; exact Int.le_refl _
  · have h := sortL_sorted offSwo (s.offTo s.adL.length) (i := i) (j := j) (by omega) hj
    rw [nthN hj, nthN (by omega)]
    exact Int.not_lt.1 fun g => h (offCf_lt.2 g)
theorem idxF_spec (h : Offer → Bool) (l : List Offer) : (idxF h l = -1 ∧ ∀ x ∈ l, h x = false) ∨ ∃ i : Nat, i < l.length ∧ idxF h l = i ∧ h (nth l (i : Int)) = true ∧ ∀ j : Nat, j < i → h (nth l (j : Int)) = false := by
  cases e : l.findIdx? h with
  | none =>
    left
    refine ⟨by unfold idxF; rw [e]; rfl, fun x hx => by simpa using List.findIdx?_eq_none_iff.1 e x hx⟩
  | some i =>
    right
    obtain ⟨h1, h2, h3⟩ := List.findIdx?_eq_some_iff_getElem.1 e
    refine ⟨i, h1, by unfold idxF; rw [e]; rfl, by rw [nthN h1]; exact h2, fun j hj => ?_⟩
    rw [nthN (by omega)]
    simpa using h3 j hj
theorem pen_spec {s : Shop} (hs : s.chk = true) {i j : Nat} (hT : s.InT (s.tl + i) (s.al + j)) :
    (s.hitAt i j = false ∧ (s.inTr (s.tl + i) (s.al + j)).mE (priceG (s.inTr (s.tl + i) (s.al + j))) = 3) ∨
    (s.hitAt i j = true ∧ (s.inTr (s.tl + i) (s.al + j)).mE (priceG (s.inTr (s.tl + i) (s.al + j))) = 0 ∧ s.penAt i j = (s.inTr (s.tl + i) (s.al + j)).mCheap) := by
  have ho := hT.chk hs
  have hmem : ∀ x ∈ s.offS, x.hit (s.tl + i) (s.al + j) = true → ∃ l, (s.inTr (s.tl + i) (s.al + j)).okM l = true ∧ x.pence = sumOf Pig.pence s.pigs l := fun x hx hh => by
    obtain ⟨l, h1, h2⟩ := offS_mem hx
    have hv := (mem_adL (Shop.pigsOK hs)).1 h1
    subst h2
    refine ⟨l, ?_, rfl⟩
    unfold Shop.okM
    rw [← offer_hit hs hv, hh, Bool.and_true]; exact hv
  have hok : ∀ l, (s.inTr (s.tl + i) (s.al + j)).okM l = true → s.offer l ∈ s.offS ∧ (s.offer l).hit (s.tl + i) (s.al + j) = true := fun l hl => by
    unfold Shop.okM at hl
    rw [Bool.and_eq_true] at hl
    have hv : isAdd s l = true := hl.1
    exact ⟨offS_of hs hv, by rw [offer_hit hs hv]; exact hl.2⟩
  rcases cheap_spec ho with ⟨h1, _, h3⟩ | ⟨h1, h2, h3, h4⟩
  · left
    refine ⟨?_, h1⟩
    unfold Shop.hitAt Shop.idxAt
    rcases idxF_spec (fun o => o.hit (s.tl + (i : Int)) (s.al + (j : Int))) s.offS with ⟨g1, _⟩ | ⟨k, g1, _, g3, _⟩
    · rw [g1]; rfl
    · obtain ⟨l, g4, _⟩ := hmem _ (by rw [nthN g1]; exact List.getElem_mem g1) g3
      rw [h3 l] at g4; cases g4
  · right
    obtain ⟨k1, k2⟩ := hok _ h2
    rcases idxF_spec (fun o => o.hit (s.tl + (i : Int)) (s.al + (j : Int))) s.offS with ⟨_, g2⟩ | ⟨k, g1, g2, g3, g4⟩
    · rw [g2 _ k1] at k2; cases k2
    · have hx : s.idxAt i j = k := g2
      refine ⟨by unfold Shop.hitAt; rw [hx]; simp, h1, ?_⟩
      unfold Shop.penAt
      rw [hx]
      obtain ⟨l, m1, m2⟩ := hmem _ (by rw [nthN g1]; exact List.getElem_mem g1) g3
      have m3 := h4 l m1
      obtain ⟨n, n1, n2⟩ := List.mem_iff_getElem.1 k1
      have n3 : k ≤ n := by
        by_cases g : k ≤ n
        · exact g
        · have := g4 n (by omega)
          rw [nthN n1, n2, k2] at this; cases this
      have n4 := offS_le n3 n1
      rw [nthN n1, n2] at n4
      have n5 : (s.offer ((s.inTr (s.tl + i) (s.al + j)).mAdd (priceG (s.inTr (s.tl + i) (s.al + j))))).pence = (s.inTr (s.tl + i) (s.al + j)).mCheap := h3.symm
      have m4 : (nth s.offS (k : Int)).pence = sumOf Pig.pence (s.inTr (s.tl + i) (s.al + j)).pigs l := m2
      omega
def KIn (P : Int → Prop) (p : Int × Int) : Prop := ((∀ n, ¬ P n) ∧ p.1 < 0) ∨ (0 ≤ p.1 ∧ P p.1 ∧ P p.2 ∧ ∀ n, P n → p.1 ≤ n ∧ n ≤ p.2)
theorem KIn.congr {P Q : Int → Prop} {p : Int × Int} (h : KIn P p) (e : ∀ n, P n ↔ Q n) : KIn Q p := by
  have : P = Q := funext fun n => propext (e n)
  rwa [this] at h
theorem KIn.step {P : Int → Prop} {p : Int × Int} (h : KIn P p) {n : Int} (hn : 0 ≤ n) : KIn (fun m => P m ∨ m = n) (stepK p n) := by
  unfold stepK
  rcases h with ⟨h1, h2⟩ | ⟨h1, h2, h3, h4⟩
  · rw [if_pos h2]
    exact .inr ⟨hn, .inr rfl, .inr rfl, fun m hm => hm.elim (fun g => absurd g (h1 m)) fun g => by subst g; exact ⟨Int.le_refl _, Int.le_refl _⟩⟩
  · rw [if_neg (by omega)]
    have := h4 _ h2
    refine .inr ⟨by simp only []; omega, ?_, ?_, fun m hm => ?_⟩
    · simp only []
      by_cases g : p.1 ≤ n
      · rw [Int.min_eq_left g]; exact .inl h2
      · rw [Int.min_eq_right (by omega)]; exact .inr rfl
    · simp only []
      by_cases g : p.2 ≤ n
      · rw [Int.max_eq_right g]; exact .inr rfl
      · rw [Int.max_eq_left (by omega)]; exact .inl h3
    · simp only []
      rcases hm with hm | rfl
      · have := h4 m hm; omega
      · omega
theorem knIn_in {s : Shop} (hs : s.chk = true) {i : Nat} {P : Int → Prop} {p : Int × Int} (h : KIn P p) : ∀ {j : Nat}, allI (s.hitAt i) j = true → KIn (fun m => P m ∨ ∃ k : Nat, k < j ∧ m = s.penAt i k) (s.knIn i p j)
  | 0, _ => h.congr fun n => ⟨.inl, fun g => g.elim id fun ⟨k, hk, _⟩ => absurd hk (by omega)⟩
  | j + 1, ha => by
    simp only [allI, Bool.and_eq_true] at ha
    refine ((knIn_in hs h ha.1).step (penAt_bnd hs ha.2).1).congr fun n => ?_
    constructor
    · rintro ((g | ⟨k, hk, e⟩) | e)
      · exact .inl g
      · exact .inr ⟨k, by omega, e⟩
      · exact .inr ⟨j, by omega, e⟩
    · rintro (g | ⟨k, hk, e⟩)
      · exact .inl (.inl g)
      · by_cases hkj : k = j
        · subst hkj; exact .inr e
        · exact .inl (.inr ⟨k, by omega, e⟩)
theorem knOut_in {s : Shop} (hs : s.chk = true) : ∀ {i : Nat}, allI s.knRow i = true → KIn (fun m => ∃ k : Nat, k < i ∧ ∃ j : Nat, j < s.nA ∧ m = s.penAt k j) (s.knOut i)
  | 0, _ => .inl ⟨fun n ⟨k, hk, _⟩ => absurd hk (by omega), by simp [Shop.knOut]⟩
  | i + 1, ha => by
    simp only [allI, Bool.and_eq_true] at ha
    refine (knIn_in hs (knOut_in hs ha.1) ha.2).congr fun n => ?_
    constructor
    · rintro (⟨k, hk, g⟩ | ⟨j, hj, e⟩)
      · exact ⟨k, by omega, g⟩
      · exact ⟨i, by omega, j, hj, e⟩
    · rintro ⟨k, hk, j, hj, e⟩
      by_cases hki : k = i
      · subst hki; exact .inr ⟨j, hj, e⟩
      · exact .inl ⟨k, by omega, j, hj, e⟩
theorem InT_of {s : Shop} {i j : Nat} (hi : i < s.nT) (hj : j < s.nA) : s.InT (s.tl + i) (s.al + j) := by
  unfold Shop.nT at hi
  unfold Shop.nA at hj
  unfold Shop.InT
  omega
theorem InT_ex {s : Shop} (hs : s.chk = true) : s.InT s.tl s.al := by
  have h := hs
  simp only [Shop.chk, Shop.head, isPot, isSpan, within, Bool.and_eq_true, decide_eq_true_eq] at h
  unfold Shop.InT; omega
def Shop.farN (s : Shop) : Nat → Int
  | 0 => (s.th - s.tl + 1) * (s.ah - s.al + 1)
  | i + 1 => Shop.farN s i * ((nth s.pigs (i : Int)).many + 1)
def Shop.far (s : Shop) : Bool := hugeS s || (s.chk && decide (2000 < s.farN s.pigs.length))
theorem farN_bnd {s : Shop} (hs : s.chk = true) : ∀ i : Nat, i ≤ s.pigs.length → 0 ≤ s.farN i ∧ s.farN i ≤ 160801 * 6 ^ i
  | 0, _ => by
    have := tl_bnd hs
    have h1 := mulb (a := s.th - s.tl + 1) (A := 401) (b := s.ah - s.al + 1) (B := 401) (by omega) (by omega) (by omega) (by omega)
    simp only [Shop.farN]; omega
  | i + 1, hi => by
    have h1 := farN_bnd hs i (by omega)
    have h2 := Pig.bnds ((Shop.pigsOK hs).at (show i < s.pigs.length by omega))
    have h3 : (0 : Int) ≤ 160801 * 6 ^ i := by omega
    have h4 := Int.mul_nonneg h1.1 (show (0 : Int) ≤ (nth s.pigs (i : Int)).many + 1 by omega)
    have h5 := Int.mul_le_mul h1.2 (show (nth s.pigs (i : Int)).many + 1 ≤ 6 by omega) (by omega) h3
    simp only [Shop.farN]
    rw [Int.pow_succ, ← Int.mul_assoc]
    exact ⟨h4, h5⟩
theorem six_le {i : Nat} (h : i ≤ 4) : (160801 : Int) * 6 ^ i ≤ 300000000 := by
  have : i = 0 ∨ i = 1 ∨ i = 2 ∨ i = 3 ∨ i = 4 := by omega
  rcases this with rfl | rfl | rfl | rfl | rfl <;> decide
end Go.Flong
namespace Go.Flong
open Go Go.Eng Go.Proofs
theorem w30 {s : Shop} : ∀ x ∈ ([.e (.g [ai (s.pounds), ai (s.tl), ai (s.th), ai (s.al), ai (s.ah), ai (s.room), ai (s.tpl), ai (s.tph), ai (s.apl), ai (s.aph), .q 0])] : List SV), x.res (keys (α := Pred) [(0, PL EPig (s.pigs))]) := by simp [SV.res, El.res, At.res, keys]
theorem r30 {s : Shop} : SV.res (keys (α := Pred) []) (.b (s.far)) := by simp [SV.res, El.res, At.res, keys]
set_option maxHeartbeats 4000000 in
theorem c30 (s : Shop)  : Sig Try.prog 30 [.e (.g [ai (s.pounds), ai (s.tl), ai (s.th), ai (s.al), ai (s.ah), ai (s.room), ai (s.tpl), ai (s.tph), ai (s.apl), ai (s.aph), .q 0])] [(0, PL EPig (s.pigs))] (.b (s.far)) [] := by
  refine Sig.intro Try.func30 rfl 1 [(0, .e (.g [ai (s.pounds), ai (s.tl), ai (s.th), ai (s.al), ai (s.ah), ai (s.room), ai (s.tpl), ai (s.tph), ai (s.apl), ai (s.aph), .q 0]))] rfl w30 rfl rfl fun I w => ?_
  refine WP.seq ?_
  refine WP.region ?_
  refine WPl.l 1 2 rfl rfl rfl (o_boxg rfl) ?_
  refine WPl.v rfl (o_assign rfl) ?_
  refine WPl.nil ?_
  refine EX.then ?_
  refine WP.seq ?_
  refine WP.seq ?_
  refine WP.region ?_
  refine WPl.v rfl (o_ldpa G28 rfl rfl rfl) ?_
  refine WPl.cs 2 rfl rfl rfl rfl (o_sig 2 (ren [(0, 0)]) (c35 s) e35 rfl rfl rfl w35 ⟨(lx rfl), trivial⟩ r35) ?_
  refine WPl.nil ?_
  refine EX.then ?_
  refine WP.cond rfl (fun hc1 => ?_) (fun hc1 => ?_)
  · try simp only [decide_eq_true_eq, decide_eq_false_iff_not, Bool.and_eq_true, Bool.or_eq_true, Bool.and_eq_false_iff, Bool.or_eq_false_iff, Bool.not_eq_true', Bool.not_eq_false', ne_eq, Decidable.not_not] at hc1
    refine WP.seq ?_
    refine WP.region ?_
    refine WPl.v rfl (o_assign rfl) ?_
    refine WPl.nil ?_
    refine EX.then ?_
    refine WP.ret ?_
    refine EX.ret_then ?_
    rw [show s.far = true from by unfold Shop.far; rw [hc1]; rfl]
    exact EX.fin id (.inl rfl) rfl (.tmp rfl .nil) rfl (by simp [SV.res, El.res, At.res, keys]) trivial (by simp) (by simp)
  · try simp only [decide_eq_true_eq, decide_eq_false_iff_not, Bool.and_eq_true, Bool.or_eq_true, Bool.and_eq_false_iff, Bool.or_eq_false_iff, Bool.not_eq_true', Bool.not_eq_false', ne_eq, Decidable.not_not] at hc1
    have hh : hugeS s = false := by simpa using hc1
    refine WP.skip ?_
    refine EX.then ?_
    refine WP.seq ?_
    refine WP.seq ?_
    refine WP.region ?_
    refine WPl.v rfl (o_ldpa G28 rfl rfl rfl) ?_
    refine WPl.cs 2 rfl rfl rfl rfl (o_sig 2 (ren [(0, 0)]) (c39 s) e39 rfl rfl rfl w39 ⟨(lx rfl), trivial⟩ r39) ?_
    refine WPl.v rfl (o_neq rfl rfl) ?_
    refine WPl.nil ?_
    refine EX.then ?_
    refine WP.cond rfl (fun hc2 => ?_) (fun hc2 => ?_)
    · try simp only [decide_eq_true_eq, decide_eq_false_iff_not, Bool.and_eq_true, Bool.or_eq_true, Bool.and_eq_false_iff, Bool.or_eq_false_iff, Bool.not_eq_true', Bool.not_eq_false', ne_eq, Decidable.not_not] at hc2
      refine WP.seq ?_
      refine WP.region ?_
      refine WPl.v rfl (o_assign rfl) ?_
      refine WPl.nil ?_
      refine EX.then ?_
      refine WP.ret ?_
      refine EX.ret_then ?_
      rw [show s.far = false from by unfold Shop.far; rw [hh, show s.chk = false from errM_ne.1 (by simpa using hc2)]; rfl]
      exact EX.fin id (.inl rfl) rfl (.tmp rfl .nil) rfl (by simp [SV.res, El.res, At.res, keys]) trivial (by simp) (by simp)
    · try simp only [decide_eq_true_eq, decide_eq_false_iff_not, Bool.and_eq_true, Bool.or_eq_true, Bool.and_eq_false_iff, Bool.or_eq_false_iff, Bool.not_eq_true', Bool.not_eq_false', ne_eq, Decidable.not_not] at hc2
      have hs : s.chk = true := errM_eq.1 (by simpa using hc2)
      have hpg := Shop.pigsOK hs
      have hl4 := hpg.2
      have htb := tl_bnd hs
      have hfm := mulb (a := s.th - s.tl + 1) (A := 401) (b := s.ah - s.al + 1) (B := 401) (by omega) (by omega) (by omega) (by omega)
      refine WP.skip ?_
      refine EX.then ?_
      refine WP.seq ?_
      refine WP.region ?_
      refine WPl.v rfl (o_fldp F28_0 rfl) ?_
      refine WPl.v rfl (o_fldp F25_1 rfl) ?_
      refine WPl.v rfl (o_fldp F23_1 rfl) ?_
      refine WPl.v rfl (o_ldp S3 rfl rfl rfl) ?_
      refine WPl.v rfl (o_fldp F28_0 rfl) ?_
      refine WPl.v rfl (o_fldp F25_1 rfl) ?_
      refine WPl.v rfl (o_fldp F23_0 rfl) ?_
      refine WPl.v rfl (o_ldp S3 rfl rfl rfl) ?_
      refine WPl.v rfl (o_sub rfl rfl (by first | omega | (simp; omega)) (by first | omega | (simp; omega))) ?_
      refine WPl.v rfl (o_add rfl rfl (by first | omega | (simp; omega)) (by first | omega | (simp; omega))) ?_
      refine WPl.v rfl (o_fldp F28_0 rfl) ?_
      refine WPl.v rfl (o_fldp F25_2 rfl) ?_
      refine WPl.v rfl (o_fldp F23_1 rfl) ?_
      refine WPl.v rfl (o_ldp S3 rfl rfl rfl) ?_
      refine WPl.v rfl (o_fldp F28_0 rfl) ?_
      refine WPl.v rfl (o_fldp F25_2 rfl) ?_
      refine WPl.v rfl (o_fldp F23_0 rfl) ?_
      refine WPl.v rfl (o_ldp S3 rfl rfl rfl) ?_
      refine WPl.v rfl (o_sub rfl rfl (by first | omega | (simp; omega)) (by first | omega | (simp; omega))) ?_
      refine WPl.v rfl (o_add rfl rfl (by first | omega | (simp; omega)) (by first | omega | (simp; omega))) ?_
      refine WPl.v rfl (o_mul rfl rfl (by first | omega | (simp; omega)) (by first | omega | (simp; omega))) ?_
      refine WPl.v rfl (o_assign rfl) ?_
      refine WPl.nil ?_
      refine EX.then ?_
      refine WP.seq ?_
      refine WP.seq ?_
      refine WP.region ?_
      refine WPl.v rfl (o_assign rfl) ?_
      refine WPl.nil ?_
      refine EX.then ?_
      refine WP.block ?_
      refine WP.loop (Gh := Nat) (fun i => ⟨2, [(1, .e (.a (.p 1 (0)))), (2, .b (false)), (3, .i (s.farN i)), (4, .i ((i : Int)))], [(0, PL EPig (s.pigs))], [(1, .blk [ai (s.pounds), ai (s.tl), ai (s.th), ai (s.al), ai (s.ah), ai (s.room), ai (s.tpl), ai (s.tph), ai (s.apl), ai (s.aph), .q 0] 28)], [], []⟩) (fun i => i ≤ s.pigs.length) (fun i => s.pigs.length - i) (0) id ?_ (LeR.of ⟨rfl, rfl, rfl, rfl, trivial⟩ ⟨(lx rfl), trivial⟩ ⟨rfl, trivial⟩ rfl rfl rfl rfl rfl) ?_
      · first | trivial | omega | (constructor <;> omega) | simp
      intro i hφ
      have hi : i ≤ s.pigs.length := hφ
      have hfb := farN_bnd hs i (by omega)
      have hf6 := six_le (show i ≤ 4 by have := hpg.2; omega)
      refine WP.seq ?_
      refine WP.seq ?_
      refine WP.region ?_
      refine WPl.v rfl (o_move rfl) ?_
      refine WPl.v rfl (o_fldp F28_4 rfl) ?_
      refine WPl.v rfl (o_ldp S26 rfl rfl rfl) ?_
      refine WPl.v rfl (o_lenq L26 rfl (lx rfl)) ?_
      refine WPl.v rfl (o_lss rfl rfl) ?_
      refine WPl.nil ?_
      refine EX.then ?_
      refine WP.cond rfl (fun hc3 => ?_) (fun hc3 => ?_)
      · try simp only [decide_eq_true_eq, decide_eq_false_iff_not, Bool.and_eq_true, Bool.or_eq_true, Bool.and_eq_false_iff, Bool.or_eq_false_iff, Bool.not_eq_true', Bool.not_eq_false', ne_eq, Decidable.not_not] at hc3
        refine WP.skip ?_
        refine EX.then ?_
        refine WP.seq ?_
        refine WP.block ?_
        refine WP.region ?_
        refine WPl.v rfl (o_move rfl) ?_
        refine WPl.v rfl (o_fldp F28_4 rfl) ?_
        refine WPl.v rfl (o_ldp S26 rfl rfl rfl) ?_
        refine WPl.v rfl (o_move rfl) ?_
        refine WPl.x 2 3 rfl rfl rfl (o_idx L26 rfl (lx rfl) rfl (by first | omega | (simp; omega)) (by first | omega | (simp; omega))) ?_
        refine WPl.v rfl (o_fldq F49_4 rfl (lx rfl)) ?_
        have hpb := Pig.bnds (hpg.at (show i < s.pigs.length by omega))
        have hfm2 := mulb (a := s.farN i) (A := 300000000) (b := (nth s.pigs (i : Int)).many + 1) (B := 6) (by omega) (by omega) (by omega) (by omega)
        refine WPl.v rfl (o_lde S3 rfl (lx rfl) (strI rfl)) ?_
        refine WPl.v rfl (o_add rfl rfl (by first | omega | (simp; omega)) (by first | omega | (simp; omega))) ?_
        refine WPl.v rfl (o_mul rfl rfl (by first | omega | (simp; omega)) (by first | omega | (simp; omega))) ?_
        refine WPl.v rfl (o_assign rfl) ?_
        refine WPl.nil ?_
        refine EX.blk ?_
        refine EX.then ?_
        refine WP.region ?_
        refine WPl.v rfl (o_move rfl) ?_
        refine WPl.v rfl (o_add rfl rfl (by first | omega | (simp; omega)) (by first | omega | (simp; omega))) ?_
        refine WPl.v rfl (o_assign rfl) ?_
        refine WPl.nil ?_
        refine EX.again (i + 1) id (by first | omega | (constructor <;> omega)) (by omega) (LeR.of ⟨rfl, rfl, rfl, rfl, trivial⟩ ⟨(lx rfl), trivial⟩ ⟨rfl, trivial⟩ rfl rfl rfl rfl rfl)
      · try simp only [decide_eq_true_eq, decide_eq_false_iff_not, Bool.and_eq_true, Bool.or_eq_true, Bool.and_eq_false_iff, Bool.or_eq_false_iff, Bool.not_eq_true', Bool.not_eq_false', ne_eq, Decidable.not_not] at hc3
        refine WP.exit ?_
        refine EX.exit_then ?_
        refine EX.exit_then ?_
        refine EX.exit_blk ?_
        refine EX.then ?_
        refine WP.seq ?_
        refine WP.region ?_
        refine WPl.v rfl (o_move rfl) ?_
        refine WPl.v rfl (o_gtr rfl rfl) ?_
        refine WPl.v rfl (o_assign rfl) ?_
        refine WPl.nil ?_
        refine EX.then ?_
        refine WP.ret ?_
        rw [show s.far = decide (2000 < s.farN i) from by unfold Shop.far; rw [hh, hs, show i = s.pigs.length by omega]; rfl]
        exact EX.fin id (.inl rfl) rfl (.tmp rfl .nil) rfl (by simp [SV.res, El.res, At.res, keys]) trivial (by simp) (by simp)
theorem w34 {s : Shop} {t a : Int} : ∀ x ∈ ([.e (.g [ai (s.pounds), ai (s.tl), ai (s.th), ai (s.al), ai (s.ah), ai (s.room), ai (s.tpl), ai (s.tph), ai (s.apl), ai (s.aph), .q 0]), .i (t), .i (a)] : List SV), x.res (keys (α := Pred) [(0, PL EPig (s.pigs))]) := by simp [SV.res, El.res, At.res, keys]
theorem r34 {s : Shop} {t a : Int} : SV.res (keys (α := Pred) [(0, PL EPig ((s.inTr t a).pigs))]) (.e (.g [ai ((s.inTr t a).pounds), ai ((s.inTr t a).tl), ai ((s.inTr t a).th), ai ((s.inTr t a).al), ai ((s.inTr t a).ah), ai ((s.inTr t a).room), ai ((s.inTr t a).tpl), ai ((s.inTr t a).tph), ai ((s.inTr t a).apl), ai ((s.inTr t a).aph), .q 0])) := by simp [SV.res, El.res, At.res, keys]
set_option maxHeartbeats 4000000 in
theorem c34 (s : Shop) (t a : Int) (hl : s.pigs.length ≤ 40) : Sig Try.prog 34 [.e (.g [ai (s.pounds), ai (s.tl), ai (s.th), ai (s.al), ai (s.ah), ai (s.room), ai (s.tpl), ai (s.tph), ai (s.apl), ai (s.aph), .q 0]), .i (t), .i (a)] [(0, PL EPig (s.pigs))] (.e (.g [ai ((s.inTr t a).pounds), ai ((s.inTr t a).tl), ai ((s.inTr t a).th), ai ((s.inTr t a).al), ai ((s.inTr t a).ah), ai ((s.inTr t a).room), ai ((s.inTr t a).tpl), ai ((s.inTr t a).tph), ai ((s.inTr t a).apl), ai ((s.inTr t a).aph), .q 0])) [(0, PL EPig ((s.inTr t a).pigs))] := by
  refine Sig.intro Try.func34 rfl 1 [(0, .e (.g [ai (s.pounds), ai (s.tl), ai (s.th), ai (s.al), ai (s.ah), ai (s.room), ai (s.tpl), ai (s.tph), ai (s.apl), ai (s.aph), .q 0])), (1, .i (t)), (2, .i (a))] rfl w34 rfl rfl fun I w => ?_
  refine WP.seq ?_
  refine WP.region ?_
  refine WPl.l 1 2 rfl rfl rfl (o_boxg rfl) ?_
  refine WPl.l 2 3 rfl rfl rfl (o_alloc Z28) ?_
  refine WPl.nil ?_
  refine EX.then ?_
  refine WP.seq ?_
  refine WP.region ?_
  refine WPl.v rfl (o_ldpa G28 rfl rfl rfl) ?_
  refine WPl.cs 4 rfl rfl rfl rfl (o_sig 3 (ren [(0, 0)]) (c18 s (by omega)) e18 rfl rfl rfl w18 ⟨(lx rfl), trivial⟩ r18) ?_
  refine WPl.l 4 5 rfl rfl rfl (o_alloc Z28) ?_
  refine WPl.s1 (o_stag G28 rfl rfl rfl ⟨rfl, rfl, rfl, rfl, rfl, rfl, rfl, rfl, rfl, rfl, (.inl ⟨_, (lx rfl), PL.one⟩), trivial⟩ rfl rfl) ?_
  refine WPl.nil ?_
  refine EX.then ?_
  refine WP.seq ?_
  refine WP.region ?_
  refine WPl.v rfl (o_move rfl) ?_
  refine WPl.v rfl (o_move rfl) ?_
  refine WPl.v rfl (o_build B23 rfl ⟨rfl, rfl, trivial⟩ rfl rfl) ?_
  refine WPl.v rfl (o_fldp F28_0 rfl) ?_
  refine WPl.v rfl (o_fldp F25_1 rfl) ?_
  refine WPl.s1 (o_stag G23 rfl rfl rfl ⟨rfl, rfl, trivial⟩ rfl rfl) ?_
  refine WPl.nil ?_
  refine EX.then ?_
  refine WP.seq ?_
  refine WP.region ?_
  refine WPl.v rfl (o_move rfl) ?_
  refine WPl.v rfl (o_move rfl) ?_
  refine WPl.v rfl (o_build B23 rfl ⟨rfl, rfl, trivial⟩ rfl rfl) ?_
  refine WPl.v rfl (o_fldp F28_0 rfl) ?_
  refine WPl.v rfl (o_fldp F25_2 rfl) ?_
  refine WPl.s1 (o_stag G23 rfl rfl rfl ⟨rfl, rfl, trivial⟩ rfl rfl) ?_
  refine WPl.nil ?_
  refine EX.then ?_
  refine WP.seq ?_
  refine WP.region ?_
  refine WPl.v rfl (o_ldpa G28 rfl rfl rfl) ?_
  refine WPl.s1 (o_stag G28 rfl rfl rfl ⟨rfl, rfl, rfl, rfl, rfl, rfl, rfl, rfl, rfl, rfl, (.inl ⟨_, (lx rfl), PL.one⟩), trivial⟩ rfl rfl) ?_
  refine WPl.nil ?_
  refine EX.then ?_
  refine WP.ret ?_
  exact EX.fin (ren [(0, 3)]) (.inl rfl) rfl (.cellg G28 rfl rfl rfl (.nil)) rfl r34 ⟨(lx rfl), trivial⟩ (by simp) (by simp)
end Go.Flong
