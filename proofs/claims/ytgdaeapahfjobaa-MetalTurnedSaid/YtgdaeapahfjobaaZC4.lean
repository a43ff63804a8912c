/- Part 4 of the texts behind the claim: KM3 MR1 KR1 KSO KM4 KM5 Base7 Base8 KL1 MB7 KLM1 Base10 KO1 LawA LawB LawM1 LawM2 MB8 MB9 EngZe KLM4 MB10. -/
import Derived.Test.YtgdaeapahfjobaaZC3
set_option linter.unusedSimpArgs false
set_option linter.unusedVariables false
namespace Go.Flong
open Go Go.Eng Go.Proofs
theorem e70 : Enters' Try.prog 70 := Try.call70
theorem e75 : Enters' Try.prog 75 := Try.call75
theorem w22 {s : Shop} {add : List Int} : ∀ x ∈ ([.e (.g [ai (s.pounds), ai (s.tl), ai (s.th), ai (s.al), ai (s.ah), ai (s.room), ai (s.tpl), ai (s.tph), ai (s.apl), ai (s.aph), .q 0]), .e (.a (.q 1))] : List SV), x.res (keys (α := Pred) [(0, PL EPig (s.pigs)), (1, PL EP.int (add))]) := by simp [SV.res, El.res, At.res, keys]
theorem r22 {s : Shop} {add : List Int} : SV.res (keys (α := Pred) [(0, PL EP.int (s.mFails add))]) (.t [.a (.q 0), .a (ai (opE s (isAdd s add)))]) := by simp [SV.res, El.res, At.res, keys]
set_option maxHeartbeats 4000000 in
theorem c22 (s : Shop) (add : List Int) (hl : s.pigs.length ≤ 40) : Sig Try.prog 22 [.e (.g [ai (s.pounds), ai (s.tl), ai (s.th), ai (s.al), ai (s.ah), ai (s.room), ai (s.tpl), ai (s.tph), ai (s.apl), ai (s.aph), .q 0]), .e (.a (.q 1))] [(0, PL EPig (s.pigs)), (1, PL EP.int (add))] (.t [.a (.q 0), .a (ai (opE s (isAdd s add)))]) [(0, PL EP.int (s.mFails add))] := by
  rcases Bool.eq_false_or_eq_true s.chk with hf | hf
  · skip
    refine Sig.intro Try.func22 rfl 2 [(0, .e (.g [ai (s.pounds), ai (s.tl), ai (s.th), ai (s.al), ai (s.ah), ai (s.room), ai (s.tpl), ai (s.tph), ai (s.apl), ai (s.aph), .q 0])), (1, .e (.a (.q 1)))] rfl w22 rfl rfl fun I w => ?_
    refine WP.seq ?_
    refine WP.region ?_
    refine WPl.l 2 3 rfl rfl rfl (o_boxg rfl) ?_
    refine WPl.l 3 4 rfl rfl rfl (o_boxa rfl (.inl ⟨_, (lx rfl), PL.one⟩)) ?_
    refine WPl.v rfl (o_assign rfl) ?_
    refine WPl.v rfl (o_assign rfl) ?_
    refine WPl.nil ?_
    refine EX.then ?_
    refine WP.seq ?_
    refine WP.region ?_
    refine WPl.v rfl (o_ldpa G28 rfl rfl rfl) ?_
    refine WPl.imp (Imp.frzb (E := EP.box (PL EP.int (add))) (y := ()) 3 4 5 rfl rfl (bok_box (lx rfl)) rfl rfl rfl) ?_
    refine WPl.x 5 6 rfl rfl rfl (o_mkfv (svs := [.e (.g [ai (s.pounds), ai (s.tl), ai (s.th), ai (s.al), ai (s.ah), ai (s.room), ai (s.tpl), ai (s.tph), ai (s.apl), ai (s.aph), .q 0])]) (X0 := [(0, PL EPig (s.pigs))]) (sv := .b ((isAdd s add))) (X := []) (cs := [.e (.a (.q 1))]) (Xc := [(1, PP (EP.box (PL EP.int (add))) ())]) 5 (ren [(1, 4)]) (c70 s add hf) e70 rfl rfl SvsOK.rf (by simp [SV.res, El.res, At.res, keys]) (by simp [SV.res, El.res, At.res, keys]) ⟨(lx rfl), trivial⟩) ?_
    refine WPl.cs 7 rfl rfl rfl rfl (o_sig 6 (ren [(0, 0), (1, 5)]) (c69C s (isAdd s add) hf) e69 rfl rfl rfl w69C ⟨(lx rfl), (lx rfl), trivial⟩ r69C) ?_
    refine WPl.v rfl (o_move rfl) ?_
    refine WPl.v rfl (o_extract rfl rfl) ?_
    refine WPl.v rfl (o_extract rfl rfl) ?_
    refine WPl.l 7 8 rfl rfl rfl (o_alloc Z78) ?_
    refine WPl.s1 (o_stag G78 rfl rfl rfl ⟨rfl, rfl, rfl, rfl, rfl, rfl, rfl, rfl, rfl, rfl, (.inl ⟨_, (lx rfl), PL.one⟩), trivial⟩ rfl rfl) ?_
    refine WPl.v rfl (o_assign rfl) ?_
    refine WPl.nil ?_
    refine EX.then ?_
    refine WP.seq ?_
    refine WP.seq ?_
    refine WP.region ?_
    refine WPl.v rfl (o_move rfl) ?_
    refine WPl.v rfl (o_neq rfl rfl) ?_
    refine WPl.nil ?_
    refine EX.then ?_
    refine WP.cond rfl (fun hc1 => ?_) (fun hc1 => ?_)
    · try simp only [decide_eq_true_eq, decide_eq_false_iff_not, Bool.and_eq_true, Bool.or_eq_true, Bool.and_eq_false_iff, Bool.or_eq_false_iff, Bool.not_eq_true', Bool.not_eq_false', ne_eq, Decidable.not_not] at hc1
      refine WP.seq ?_
      refine WP.region ?_
      refine WPl.v rfl (o_move rfl) ?_
      refine WPl.v rfl (o_assign rfl) ?_
      refine WPl.v rfl (o_assign rfl) ?_
      refine WPl.nil ?_
      refine EX.then ?_
      refine WP.ret ?_
      refine EX.ret_then ?_
      refine EX.imp (Imp.nam 8 9 (.slice none 0 0) (R := PN EP.int) pn_ok rfl rfl) ?_
      refine EX.imp (Imp.swF 4 8 rfl (lxr rfl)) ?_
      have hE : opE s (isAdd s add) = opV (isAdd s add) := opE_t hf _
      have hv : isAdd s add = false := opV_ne.1 (by simpa using hc1)
      rw [hE, show s.mFails add = [] from by unfold Shop.mFails; rw [hE, hv]; rfl]
      exact EX.fin (ren [(0, 8)]) (.inl rfl) rfl (.tmp rfl (.tmp rfl .nil)) rfl (by simp [SV.res, El.res, At.res, keys]) ⟨lxl rfl, trivial⟩ (by simp) (by simp)
    · try simp only [decide_eq_true_eq, decide_eq_false_iff_not, Bool.and_eq_true, Bool.or_eq_true, Bool.and_eq_false_iff, Bool.or_eq_false_iff, Bool.not_eq_true', Bool.not_eq_false', ne_eq, Decidable.not_not] at hc1
      have hE : opE s (isAdd s add) = 0 := (opE_t hf _).trans (by simpa using hc1)
      have hv : isAdd s add = true := opV_eq.1 (by simpa using hc1)
      have hpg := Shop.pigsOK hf
      have had := isAddB hpg hv
      have hab := aft_bnd hf (by omega) had.2.2
      refine WP.skip ?_
      refine EX.then ?_
      refine WP.seq ?_
      refine WP.region ?_
      refine WPl.l 8 9 rfl rfl rfl (o_alloc Z29) ?_
      refine WPl.nil ?_
      refine EX.then ?_
      refine WP.seq ?_
      refine WP.block ?_
      refine WP.leR (S' := ⟨9, [(3, .e (.a (.q 4))), (4, .e (.a (.v (.slice none 0 0)))), (5, .i (0)), (6, .e (.a (.p 7 (0)))), (8, .e (.a (.p 8 (0))))], [(4, PP (EP.box (PL EP.int (add))) ()), (6, PL EPig (s.pigs))], [(7, .blk [ai (s.pounds), ai (s.tl), ai (s.th), ai (s.al), ai (s.ah), ai (s.room), ai (s.tpl), ai (s.tph), ai (s.apl), ai (s.aph), .q 6] 78), (8, .blk [.v (.slice none 0 0)] 29)], [], []⟩) id (LeR.of ⟨rfl, rfl, rfl, rfl, rfl, trivial⟩ ⟨(lx rfl), (lx rfl), trivial⟩ ⟨rfl, rfl, trivial⟩ rfl rfl rfl rfl rfl) ?_
      refine WP.imp (Imp.namo EP.int 9 10 3 rfl rfl) ?_
      refine WP.imp (Imp.swL 8 0 9 rfl rfl (lx rfl)) ?_
      refine WP.rangeV 13 0 (4) (fun g => ⟨[.i ((g : Int) + 1)], [], []⟩) (fun g => ⟨13, [(3, .e (.a (.q 4))), (4, .e (.a (.v (.slice none 0 0)))), (5, .i (0)), (6, .e (.a (.p 7 (0)))), (8, .e (.a (.p 8 (0))))], [(4, PP (EP.box (PL EP.int (add))) ()), (6, PL EPig (s.pigs)), (9, Pred.is (.slice none 0 0))], [(7, .blk [ai (s.pounds), ai (s.tl), ai (s.th), ai (s.al), ai (s.ah), ai (s.room), ai (s.tpl), ai (s.tph), ai (s.apl), ai (s.aph), .q 6] 78), (8, .blk [.q 12] 29), (10, .ob (.deferred (some []))), (12, .own 3 EP.int.size (s.mFailsTo add g).length (RP EP.int (s.mFailsTo add g)))], [10], []⟩) (fun _ _ => False) rfl (fv := .e (.a (.f 72 [])))  rfl (SigI.hit c72 e72) (rfl) (fun _ => RSt.of rfl rfl rfl rfl rfl rfl) (fun _ _ h => h.elim) rfl rfl rfl (fun _ _ => ItemOK.of rfl) rfl rfl (ren [(12, 9)]) (LeR.of ⟨rfl, rfl, rfl, rfl, rfl, trivial⟩ ⟨(lx rfl), (lx rfl), (lx rfl), trivial⟩ ⟨rfl, rfl, rfl, rfl, trivial⟩ rfl rfl rfl rfl rfl) ?_ ?_ ?_
      · intro g hg w1 E1 I1 R1 pβ1 pν1 us1
        refine WP.region ?_
        refine WPl.v rfl (o_assign rfl) ?_
        refine WPl.nil ?_
        refine EX.beg rfl ?_
        refine WP.block ?_
        refine WP.seq ?_
        refine WP.draw (nf := 14) [⟨[21, 22, 23, 24], [13], [], [], []⟩, ⟨[20, 22, 24], [13], [], [], []⟩, ⟨[20, 21, 24], [], [13], [13], []⟩, ⟨[20, 24], [], [], [], [1, 2]⟩, ⟨[20, 21, 22, 23], [13], [], [], []⟩, ⟨[], [], [], [], [0, 1, 2, 3, 4]⟩] (by kernel_rfl) (by kernel_rfl) ?_
        refine DRQ.v rfl rfl rfl (o_ldpa G78 rfl rfl rfl) ?_
        refine DRQ.v rfl rfl rfl (o_ldpa G78 rfl rfl rfl) ?_
        refine DRQ.x 13 rfl rfl rfl rfl (o_ldqx S29 rfl (lx rfl) boxx) ?_
        refine DRQ.cs rfl rfl rfl rfl (o_sig 14 (ren [(0, 6), (1, 13)]) (c74 s add hf (by omega) had.2.2) e74 rfl rfl rfl w74 ⟨(lx rfl), (lx rfl), trivial⟩ r74) ?_
        refine DRQ.v rfl rfl rfl (o_move rfl) ?_
        refine DRQ.cs rfl rfl rfl rfl (o_sig 14 (ren [(0, 6)]) (c73 s (s.aft add) ((g : Int) + 1) hf hab) e73 rfl rfl rfl w73 ⟨(lx rfl), trivial⟩ r73) ?_
        refine DRQ.nil' ?_
        refine EX.then ?_
        refine WP.cond rfl (fun hc2 => ?_) (fun hc2 => ?_)
        · try simp only [decide_eq_true_eq, decide_eq_false_iff_not, Bool.and_eq_true, Bool.or_eq_true, Bool.and_eq_false_iff, Bool.or_eq_false_iff, Bool.not_eq_true', Bool.not_eq_false', ne_eq, Decidable.not_not] at hc2
          refine WP.region ?_
          refine WPl.v rfl (o_ldp S29 rfl rfl rfl) ?_
          refine WPl.v rfl (o_move rfl) ?_
          refine WPl.u1 (k := 14) (m := 15) rfl rfl rfl (OpG.newer0 (o_bsl (E := EP.int) (l := [(g : Int) + 1]) R29 rfl rfl (.cons (rfl) rfl (eok_int) (.nil)) rfl rfl)) ?_
          have hwg := mFailsTo_len s add g
          refine WPl.u1 (k := 15) (m := 16) rfl rfl rfl (o_appo R29 EP.int_one rfl rfl rfl rfl (by first | omega | (simp; omega) | (simp at *; omega)) (by first | omega | (simp; omega) | (simp at *; omega))) ?_
          refine WPl.s1 (o_sta S29 rfl rfl rfl (.inr ⟨_, _, _, _, rfl⟩) rfl) ?_
          refine WPl.nil ?_
          refine EX.blk ?_
          exact EX.next (ren [(12, 15)]) (LeR.of trivial ⟨(lx rfl), (lx rfl), (lx rfl), trivial⟩ ⟨rfl, rfl, rfl, rfl, (congrArg (fun z => some (Ent.own 3 EP.int.size (List.length z) (RP EP.int z))) (show ((s.mFailsTo add g) ++ [(g : Int) + 1]) = ((fun g => s.mFailsTo add g) (g + 1)) from by simp [Shop.mFailsTo, hc2])), trivial⟩ rfl rfl rfl rfl rfl)
        · try simp only [decide_eq_true_eq, decide_eq_false_iff_not, Bool.and_eq_true, Bool.or_eq_true, Bool.and_eq_false_iff, Bool.or_eq_false_iff, Bool.not_eq_true', Bool.not_eq_false', ne_eq, Decidable.not_not] at hc2
          refine WP.skip ?_
          refine EX.blk ?_
          exact EX.next id (LeR.of trivial ⟨(lx rfl), (lx rfl), (lx rfl), trivial⟩ ⟨rfl, rfl, rfl, rfl, (congrArg (fun z => some (Ent.own 3 EP.int.size (List.length z) (RP EP.int z))) (show (s.mFailsTo add g) = ((fun g => s.mFailsTo add g) (g + 1)) from by simp [Shop.mFailsTo, hc2])), trivial⟩ rfl rfl rfl rfl rfl)
      · exact fun _ _ h => h.elim
      · skip
        refine EX.blk ?_
        refine EX.then ?_
        refine WP.seq ?_
        refine WP.region ?_
        refine WPl.v rfl (o_ldp S29 rfl rfl rfl) ?_
        refine WPl.v rfl (o_assign rfl) ?_
        refine WPl.v rfl (o_assign rfl) ?_
        refine WPl.nil ?_
        refine EX.then ?_
        refine WP.ret ?_
        refine EX.imp (Imp.frz (E := EP.int) (l := s.mFailsTo add 4) 12 rfl rfl) ?_
        rw [hE, show s.mFails add = s.mFailsTo add 4 from by unfold Shop.mFails; rw [hE]; rfl]
        exact EX.fin (ren [(0, 12)]) (.inl rfl) rfl (.tmp rfl (.tmp rfl .nil)) rfl (by simp [SV.res, El.res, At.res, keys]) ⟨(lx rfl), trivial⟩ (marks rfl) (by simp)
  · skip
    refine Sig.intro Try.func22 rfl 2 [(0, .e (.g [ai (s.pounds), ai (s.tl), ai (s.th), ai (s.al), ai (s.ah), ai (s.room), ai (s.tpl), ai (s.tph), ai (s.apl), ai (s.aph), .q 0])), (1, .e (.a (.q 1)))] rfl w22 rfl rfl fun I w => ?_
    refine WP.seq ?_
    refine WP.region ?_
    refine WPl.l 2 3 rfl rfl rfl (o_boxg rfl) ?_
    refine WPl.l 3 4 rfl rfl rfl (o_boxa rfl (.inl ⟨_, (lx rfl), PL.one⟩)) ?_
    refine WPl.v rfl (o_assign rfl) ?_
    refine WPl.v rfl (o_assign rfl) ?_
    refine WPl.nil ?_
    refine EX.then ?_
    refine WP.seq ?_
    refine WP.region ?_
    refine WPl.v rfl (o_ldpa G28 rfl rfl rfl) ?_
    refine WPl.imp (Imp.frzb (E := EP.box (PL EP.int (add))) (y := ()) 3 4 5 rfl rfl (bok_box (lx rfl)) rfl rfl rfl) ?_
    refine WPl.x 5 6 rfl rfl rfl (o_mkfn0 5 rfl) ?_
    refine WPl.cs 7 rfl rfl rfl rfl (o_sig 6 (ren [(0, 0), (1, 5)]) (c69CE s hf hl) e69 rfl rfl rfl w69CE ⟨(lx rfl), (lx rfl), trivial⟩ r69CE) ?_
    refine WPl.v rfl (o_move rfl) ?_
    refine WPl.v rfl (o_extract rfl rfl) ?_
    refine WPl.v rfl (o_extract rfl rfl) ?_
    refine WPl.l 7 8 rfl rfl rfl (o_alloc Z78) ?_
    refine WPl.s1 (o_stag G78 rfl rfl rfl ⟨rfl, rfl, rfl, rfl, rfl, rfl, rfl, rfl, rfl, rfl, (.inl ⟨_, (lx rfl), PL.one⟩), trivial⟩ rfl rfl) ?_
    refine WPl.v rfl (o_assign rfl) ?_
    refine WPl.nil ?_
    refine EX.then ?_
    refine WP.seq ?_
    refine WP.seq ?_
    refine WP.region ?_
    refine WPl.v rfl (o_move rfl) ?_
    refine WPl.v rfl (o_neq rfl rfl) ?_
    refine WPl.nil ?_
    refine EX.then ?_
    refine WP.cond rfl (fun hc1 => ?_) (fun hc1 => ?_)
    · try simp only [decide_eq_true_eq, decide_eq_false_iff_not, Bool.and_eq_true, Bool.or_eq_true, Bool.and_eq_false_iff, Bool.or_eq_false_iff, Bool.not_eq_true', Bool.not_eq_false', ne_eq, Decidable.not_not] at hc1
      refine WP.seq ?_
      refine WP.region ?_
      refine WPl.v rfl (o_move rfl) ?_
      refine WPl.v rfl (o_assign rfl) ?_
      refine WPl.v rfl (o_assign rfl) ?_
      refine WPl.nil ?_
      refine EX.then ?_
      refine WP.ret ?_
      refine EX.ret_then ?_
      refine EX.imp (Imp.nam 8 9 (.slice none 0 0) (R := PN EP.int) pn_ok rfl rfl) ?_
      refine EX.imp (Imp.swF 4 8 rfl (lxr rfl)) ?_
      have hE : opE s (isAdd s add) = 10 := opE_f hf _
      rw [hE, show s.mFails add = [] from by unfold Shop.mFails; rw [hE]; rfl]
      exact EX.fin (ren [(0, 8)]) (.inl rfl) rfl (.tmp rfl (.tmp rfl .nil)) rfl (by simp [SV.res, El.res, At.res, keys]) ⟨lxl rfl, trivial⟩ (by simp) (by simp)
    · try simp only [decide_eq_true_eq, decide_eq_false_iff_not, Bool.and_eq_true, Bool.or_eq_true, Bool.and_eq_false_iff, Bool.or_eq_false_iff, Bool.not_eq_true', Bool.not_eq_false', ne_eq, Decidable.not_not] at hc1
      simp at hc1
theorem w27 {s : Shop} {add : List Int} : ∀ x ∈ ([.e (.g [ai (s.pounds), ai (s.tl), ai (s.th), ai (s.al), ai (s.ah), ai (s.room), ai (s.tpl), ai (s.tph), ai (s.apl), ai (s.aph), .q 0]), .e (.a (.q 1))] : List SV), x.res (keys (α := Pred) [(0, PL EPig (s.pigs)), (1, PL EP.int (add))]) := by simp [SV.res, El.res, At.res, keys]
theorem r27 {s : Shop} {add : List Int} : SV.res (keys (α := Pred) []) (.t [.g [ai ((s.mLead add).1), ai ((s.mLead add).2)], .a (ai (s.leadE add))]) := by simp [SV.res, El.res, At.res, keys]
set_option maxHeartbeats 4000000 in
theorem c27 (s : Shop) (add : List Int) (hl : s.pigs.length ≤ 40) : Sig Try.prog 27 [.e (.g [ai (s.pounds), ai (s.tl), ai (s.th), ai (s.al), ai (s.ah), ai (s.room), ai (s.tpl), ai (s.tph), ai (s.apl), ai (s.aph), .q 0]), .e (.a (.q 1))] [(0, PL EPig (s.pigs)), (1, PL EP.int (add))] (.t [.g [ai ((s.mLead add).1), ai ((s.mLead add).2)], .a (ai (s.leadE add))]) [] := by
  rcases Bool.eq_false_or_eq_true s.chk with hf | hf
  · skip
    refine Sig.intro Try.func27 rfl 2 [(0, .e (.g [ai (s.pounds), ai (s.tl), ai (s.th), ai (s.al), ai (s.ah), ai (s.room), ai (s.tpl), ai (s.tph), ai (s.apl), ai (s.aph), .q 0])), (1, .e (.a (.q 1)))] rfl w27 rfl rfl fun I w => ?_
    refine WP.seq ?_
    refine WP.region ?_
    refine WPl.l 2 3 rfl rfl rfl (o_boxg rfl) ?_
    refine WPl.l 3 4 rfl rfl rfl (o_boxa rfl (.inl ⟨_, (lx rfl), PL.one⟩)) ?_
    refine WPl.l 4 5 rfl rfl rfl (o_alloc Z23) ?_
    refine WPl.v rfl (o_assign rfl) ?_
    refine WPl.nil ?_
    refine EX.then ?_
    refine WP.seq ?_
    refine WP.region ?_
    refine WPl.v rfl (o_ldpa G28 rfl rfl rfl) ?_
    refine WPl.imp (Imp.frzb (E := EP.box (PL EP.int (add))) (y := ()) 3 5 6 rfl rfl (bok_box (lx rfl)) rfl rfl rfl) ?_
    refine WPl.x 6 7 rfl rfl rfl (o_mkfv (svs := [.e (.g [ai (s.pounds), ai (s.tl), ai (s.th), ai (s.al), ai (s.ah), ai (s.room), ai (s.tpl), ai (s.tph), ai (s.apl), ai (s.aph), .q 0])]) (X0 := [(0, PL EPig (s.pigs))]) (sv := .b ((isAdd s add))) (X := []) (cs := [.e (.a (.q 1))]) (Xc := [(1, PP (EP.box (PL EP.int (add))) ())]) 6 (ren [(1, 5)]) (c75 s add hf) e75 rfl rfl SvsOK.rf (by simp [SV.res, El.res, At.res, keys]) (by simp [SV.res, El.res, At.res, keys]) ⟨(lx rfl), trivial⟩) ?_
    refine WPl.cs 8 rfl rfl rfl rfl (o_sig 7 (ren [(0, 0), (1, 6)]) (c69C s (isAdd s add) hf) e69 rfl rfl rfl w69C ⟨(lx rfl), (lx rfl), trivial⟩ r69C) ?_
    refine WPl.v rfl (o_move rfl) ?_
    refine WPl.v rfl (o_extract rfl rfl) ?_
    refine WPl.v rfl (o_extract rfl rfl) ?_
    refine WPl.l 8 9 rfl rfl rfl (o_alloc Z78) ?_
    refine WPl.s1 (o_stag G78 rfl rfl rfl ⟨rfl, rfl, rfl, rfl, rfl, rfl, rfl, rfl, rfl, rfl, (.inl ⟨_, (lx rfl), PL.one⟩), trivial⟩ rfl rfl) ?_
    refine WPl.v rfl (o_assign rfl) ?_
    refine WPl.nil ?_
    refine EX.then ?_
    refine WP.seq ?_
    refine WP.seq ?_
    refine WP.region ?_
    refine WPl.v rfl (o_move rfl) ?_
    refine WPl.v rfl (o_neq rfl rfl) ?_
    refine WPl.nil ?_
    refine EX.then ?_
    refine WP.cond rfl (fun hc1 => ?_) (fun hc1 => ?_)
    · try simp only [decide_eq_true_eq, decide_eq_false_iff_not, Bool.and_eq_true, Bool.or_eq_true, Bool.and_eq_false_iff, Bool.or_eq_false_iff, Bool.not_eq_true', Bool.not_eq_false', ne_eq, Decidable.not_not] at hc1
      refine WP.seq ?_
      refine WP.region ?_
      refine WPl.v rfl (o_build B23 rfl trivial rfl rfl) ?_
      refine WPl.v rfl (o_move rfl) ?_
      refine WPl.s1 (o_stag G23 rfl rfl rfl ⟨rfl, rfl, trivial⟩ rfl rfl) ?_
      refine WPl.v rfl (o_assign rfl) ?_
      refine WPl.nil ?_
      refine EX.then ?_
      refine WP.ret ?_
      refine EX.ret_then ?_
      have hE : opE s (isAdd s add) = opV (isAdd s add) := opE_t hf _
      have hv : isAdd s add = false := opV_ne.1 (by simpa using hc1)
      have hLE : s.leadE add = opV (isAdd s add) := by unfold Shop.leadE; rw [hE, hv]; rfl
      rw [hLE, show s.mLead add = (0, 0) from by unfold Shop.mLead; rw [hLE, hv]; rfl]
      exact EX.fin id (.inl rfl) rfl (.cellg G23 rfl rfl rfl (.tmp rfl .nil)) rfl (by simp [SV.res, El.res, At.res, keys]) trivial (by simp) (by simp)
    · try simp only [decide_eq_true_eq, decide_eq_false_iff_not, Bool.and_eq_true, Bool.or_eq_true, Bool.and_eq_false_iff, Bool.or_eq_false_iff, Bool.not_eq_true', Bool.not_eq_false', ne_eq, Decidable.not_not] at hc1
      have hE : opE s (isAdd s add) = 0 := (opE_t hf _).trans (by simpa using hc1)
      have hv : isAdd s add = true := opV_eq.1 (by simpa using hc1)
      have hpg := Shop.pigsOK hf
      have had := isAddB hpg hv
      have hab := aft_bnd hf (by omega) had.2.2
      have hab2 := hab
      unfold PoB at hab2
      have htb := tl_bnd hf
      have hN : s.leadN (s.aft add) = (s.room - (s.aft add).pounds + 1).toNat := rfl
      have hrm : (s.aft add).pounds ≤ s.room := isAdd_room hv
      refine WP.skip ?_
      refine EX.then ?_
      refine WP.seq ?_
      refine WP.region ?_
      refine WPl.v rfl (o_build B23 rfl ⟨rfl, trivial⟩ rfl rfl) ?_
      refine WPl.l 9 10 rfl rfl rfl (o_alloc Z23) ?_
      refine WPl.s1 (o_stag G23 rfl rfl rfl ⟨rfl, rfl, trivial⟩ rfl rfl) ?_
      refine WPl.nil ?_
      refine EX.then ?_
      refine WP.seq ?_
      refine WP.seq ?_
      refine WP.region ?_
      refine WPl.v rfl (o_ldpa G78 rfl rfl rfl) ?_
      refine WPl.x 10 11 rfl rfl rfl (o_ldqx S29 rfl (lx rfl) boxx) ?_
      refine WPl.cs 11 rfl rfl rfl rfl (o_sig 11 (ren [(0, 7), (1, 10)]) (c74 s add hf (by omega) had.2.2) e74 rfl rfl rfl w74 ⟨(lx rfl), (lx rfl), trivial⟩ r74) ?_
      refine WPl.l 11 12 rfl rfl rfl (o_alloc Z25) ?_
      refine WPl.s1 (o_stag G25 rfl rfl rfl ⟨rfl, rfl, rfl, rfl, rfl, trivial⟩ rfl rfl) ?_
      refine WPl.nil ?_
      refine EX.then ?_
      refine WP.block ?_
      refine WP.loop (Gh := Nat) (fun i => ⟨12, [(3, .e (.a (.q 5))), (4, .e (.a (.p 4 (0)))), (5, .i (0)), (6, .e (.a (.p 8 (0)))), (8, .e (.a (.p 9 (0)))), (9, .e (.a (.p 11 (0))))], [(5, PP (EP.box (PL EP.int (add))) ()), (7, PL EPig (s.pigs))], [(4, .blk [ai (0), ai (0)] 23), (8, .blk [ai (s.pounds), ai (s.tl), ai (s.th), ai (s.al), ai (s.ah), ai (s.room), ai (s.tpl), ai (s.tph), ai (s.apl), ai (s.aph), .q 7] 78), (9, .blk [ai ((s.leadTo (s.aft add) i).1), ai ((s.leadTo (s.aft add) i).2)] 23), (11, .blk [ai (((s.aft add).lead (i : Int)).pounds), ai (((s.aft add).lead (i : Int)).tl), ai (((s.aft add).lead (i : Int)).th), ai (((s.aft add).lead (i : Int)).al), ai (((s.aft add).lead (i : Int)).ah)] 25)], [], []⟩) (fun i => i ≤ s.leadN (s.aft add)) (fun i => s.leadN (s.aft add) - i) (0) id ?_ (LeR.of ⟨rfl, rfl, rfl, rfl, rfl, rfl, trivial⟩ ⟨(lx rfl), (lx rfl), trivial⟩ ⟨rfl, rfl, rfl, (congrArg (fun z => some (Ent.blk z 25)) (List.cons_eq_cons.2 ⟨(congrArg (fun z => ai z) (show ((s.aft add).pounds) = ((fun i => ((s.aft add).lead (i : Int)).pounds) 0) from by simp [Po.lead])), (List.cons_eq_cons.2 ⟨(Eq.refl (ai ((s.aft add).tl))), (List.cons_eq_cons.2 ⟨(Eq.refl (ai ((s.aft add).th))), (List.cons_eq_cons.2 ⟨(Eq.refl (ai ((s.aft add).al))), (List.cons_eq_cons.2 ⟨(Eq.refl (ai ((s.aft add).ah))), (Eq.refl [])⟩)⟩)⟩)⟩)⟩)), trivial⟩ rfl rfl rfl rfl rfl) ?_
      · exact Nat.zero_le _
      intro i hφ
      have hiN : i ≤ s.leadN (s.aft add) := hφ
      have hlb := leadTo_bnd s (s.aft add) i
      have hpl : ((s.aft add).lead (i : Int)).pounds = (s.aft add).pounds + i := rfl
      refine WP.seq ?_
      refine WP.seq ?_
      refine WP.region ?_
      refine WPl.v rfl (o_fldp F25_0 rfl) ?_
      refine WPl.v rfl (o_ldp S3 rfl rfl rfl) ?_
      refine WPl.v rfl (o_fldp F78_0 rfl) ?_
      refine WPl.v rfl (o_fldp F28_1 rfl) ?_
      refine WPl.v rfl (o_ldp S3 rfl rfl rfl) ?_
      refine WPl.v rfl (o_leq rfl rfl) ?_
      refine WPl.nil ?_
      refine EX.then ?_
      refine WP.cond rfl (fun hc2 => ?_) (fun hc2 => ?_)
      · try simp only [decide_eq_true_eq, decide_eq_false_iff_not, Bool.and_eq_true, Bool.or_eq_true, Bool.and_eq_false_iff, Bool.or_eq_false_iff, Bool.not_eq_true', Bool.not_eq_false', ne_eq, Decidable.not_not] at hc2
        refine WP.skip ?_
        refine EX.then ?_
        refine WP.seq ?_
        refine WP.block ?_
        refine WP.seq ?_
        refine WP.draw (nf := 13) [⟨[37, 38, 39, 40], [12], [], [], []⟩, ⟨[37, 38, 39, 40], [12], [], [], [0]⟩, ⟨[35, 36, 38], [12], [], [], []⟩, ⟨[35, 36, 37], [], [12], [12], []⟩, ⟨[35, 36], [], [], [], [2, 3]⟩, ⟨[35, 36], [], [], [], [2, 3, 4]⟩, ⟨[], [], [], [], [0, 1, 2, 3, 4, 5]⟩, ⟨[], [], [], [], [0, 1, 2, 3, 4, 5, 6]⟩] (by kernel_rfl) (by kernel_rfl) ?_
        refine DRQ.v rfl rfl rfl (o_fldp F25_0 rfl) ?_
        refine DRQ.v rfl rfl rfl (o_ldp S3 rfl rfl rfl) ?_
        refine DRQ.v rfl rfl rfl (o_ldpa G78 rfl rfl rfl) ?_
        refine DRQ.x 12 rfl rfl rfl rfl (o_ldqx S29 rfl (lx rfl) boxx) ?_
        refine DRQ.cs rfl rfl rfl rfl (o_sig 13 (ren [(0, 7), (1, 12)]) (c74 s add hf (by omega) had.2.2) e74 rfl rfl rfl w74 ⟨(lx rfl), (lx rfl), trivial⟩ r74) ?_
        refine DRQ.v rfl rfl rfl (o_field Try.underlying25 rfl S3 rfl rfl) ?_
        refine DRQ.v rfl rfl rfl (o_sub rfl rfl (by first | omega | (simp; omega)) (by first | omega | (simp; omega))) ?_
        refine DRQ.v rfl rfl rfl (o_assign rfl) ?_
        refine DRQ.nil' ?_
        refine EX.then ?_
        refine WP.seq ?_
        refine WP.region ?_
        refine WPl.v rfl (o_ldpa G78 rfl rfl rfl) ?_
        refine WPl.v rfl (o_ldpa G25 rfl rfl rfl) ?_
        refine WPl.cs 13 rfl rfl rfl rfl (o_sig 13 (ren [(0, 7)]) (c76 s ((s.aft add).lead (i : Int)) hf (by unfold PoB Po.lead; simp only []; omega)) e76 rfl rfl rfl w76 ⟨(lx rfl), trivial⟩ r76) ?_
        refine WPl.nil ?_
        refine EX.then ?_
        refine WP.cond rfl (fun hc3 => ?_) (fun hc3 => ?_)
        · try simp only [decide_eq_true_eq, decide_eq_false_iff_not, Bool.and_eq_true, Bool.or_eq_true, Bool.and_eq_false_iff, Bool.or_eq_false_iff, Bool.not_eq_true', Bool.not_eq_false', ne_eq, Decidable.not_not] at hc3
          refine WP.seq ?_
          refine WP.seq ?_
          refine WP.region ?_
          refine WPl.v rfl (o_fldp F23_0 rfl) ?_
          refine WPl.v rfl (o_ldp S3 rfl rfl rfl) ?_
          refine WPl.v rfl (o_lss rfl rfl) ?_
          refine WPl.nil ?_
          refine EX.then ?_
          refine WP.cond rfl (fun hc4 => ?_) (fun hc4 => ?_)
          · try simp only [decide_eq_true_eq, decide_eq_false_iff_not, Bool.and_eq_true, Bool.or_eq_true, Bool.and_eq_false_iff, Bool.or_eq_false_iff, Bool.not_eq_true', Bool.not_eq_false', ne_eq, Decidable.not_not] at hc4
            refine WP.region ?_
            refine WPl.v rfl (o_move rfl) ?_
            refine WPl.v rfl (o_fldp F23_0 rfl) ?_
            refine WPl.s1 (o_sta S3 rfl rfl rfl rfl rfl) ?_
            refine WPl.nil ?_
            refine EX.then ?_
            refine WP.region ?_
            refine WPl.v rfl (o_move rfl) ?_
            refine WPl.v rfl (o_fldp F23_1 rfl) ?_
            refine WPl.s1 (o_sta S3 rfl rfl rfl rfl rfl) ?_
            refine WPl.nil ?_
            refine EX.blk ?_
            refine EX.then ?_
            refine WP.seq ?_
            refine WP.seq ?_
            refine WP.region ?_
            refine WPl.v rfl (o_ldpa G25 rfl rfl rfl) ?_
            refine WPl.nil ?_
            refine EX.then ?_
            refine WP.region ?_
            refine WPl.l 13 14 rfl rfl rfl (o_alloc Z25) ?_
            refine WPl.s1 (o_stag G25 rfl rfl rfl ⟨rfl, rfl, rfl, rfl, rfl, trivial⟩ rfl rfl) ?_
            refine WPl.nil ?_
            refine EX.then ?_
            refine WP.region ?_
            refine WPl.v rfl (o_fldp F25_0 rfl) ?_
            refine WPl.v rfl (o_ldp S3 rfl rfl rfl) ?_
            refine WPl.v rfl (o_add rfl rfl (by first | omega | (simp; omega)) (by first | omega | (simp; omega))) ?_
            refine WPl.v rfl (o_fldp F25_0 rfl) ?_
            refine WPl.s1 (o_sta S3 rfl rfl rfl rfl rfl) ?_
            refine WPl.nil ?_
            refine EX.again (i + 1) (ren [(11, 13)]) (by omega) (by omega) (LeR.of ⟨rfl, rfl, rfl, rfl, rfl, rfl, trivial⟩ ⟨(lx rfl), (lx rfl), trivial⟩ ⟨rfl, rfl, (congrArg (fun z => some (Ent.blk z 23)) (List.cons_eq_cons.2 ⟨(congrArg (fun z => ai z) (show ((((s.aft add).lead (i : Int)).pounds) - ((s.aft add).pounds)) = ((fun i => (s.leadTo (s.aft add) i).1) (i + 1)) from by first | (simp only [Shop.leadTo]; rw [if_pos hc3, if_pos hc4]; dsimp only; omega) | (simp only [Shop.leadTo]; rw [if_pos hc3, if_neg hc4]; done) | (simp only [Shop.leadTo]; rw [if_neg (by rw [hc3]; simp)]))), (List.cons_eq_cons.2 ⟨(congrArg (fun z => ai z) (show ((((s.aft add).lead (i : Int)).pounds) - ((s.aft add).pounds)) = ((fun i => (s.leadTo (s.aft add) i).2) (i + 1)) from by first | (simp only [Shop.leadTo]; rw [if_pos hc3]; dsimp only; omega) | (simp only [Shop.leadTo]; rw [if_neg (by rw [hc3]; simp)]))), (Eq.refl [])⟩)⟩)), (congrArg (fun z => some (Ent.blk z 25)) (List.cons_eq_cons.2 ⟨(congrArg (fun z => ai z) (show ((((s.aft add).lead (i : Int)).pounds) + 1) = ((fun i => ((s.aft add).lead (i : Int)).pounds) (i + 1)) from by simp only [Po.lead]; omega)), (List.cons_eq_cons.2 ⟨(Eq.refl (ai (((s.aft add).lead (i : Int)).tl))), (List.cons_eq_cons.2 ⟨(Eq.refl (ai (((s.aft add).lead (i : Int)).th))), (List.cons_eq_cons.2 ⟨(Eq.refl (ai (((s.aft add).lead (i : Int)).al))), (List.cons_eq_cons.2 ⟨(Eq.refl (ai (((s.aft add).lead (i : Int)).ah))), (Eq.refl [])⟩)⟩)⟩)⟩)⟩)), trivial⟩ rfl rfl rfl rfl rfl)
          · try simp only [decide_eq_true_eq, decide_eq_false_iff_not, Bool.and_eq_true, Bool.or_eq_true, Bool.and_eq_false_iff, Bool.or_eq_false_iff, Bool.not_eq_true', Bool.not_eq_false', ne_eq, Decidable.not_not] at hc4
            refine WP.skip ?_
            refine EX.then ?_
            refine WP.region ?_
            refine WPl.v rfl (o_move rfl) ?_
            refine WPl.v rfl (o_fldp F23_1 rfl) ?_
            refine WPl.s1 (o_sta S3 rfl rfl rfl rfl rfl) ?_
            refine WPl.nil ?_
            refine EX.blk ?_
            refine EX.then ?_
            refine WP.seq ?_
            refine WP.seq ?_
            refine WP.region ?_
            refine WPl.v rfl (o_ldpa G25 rfl rfl rfl) ?_
            refine WPl.nil ?_
            refine EX.then ?_
            refine WP.region ?_
            refine WPl.l 13 14 rfl rfl rfl (o_alloc Z25) ?_
            refine WPl.s1 (o_stag G25 rfl rfl rfl ⟨rfl, rfl, rfl, rfl, rfl, trivial⟩ rfl rfl) ?_
            refine WPl.nil ?_
            refine EX.then ?_
            refine WP.region ?_
            refine WPl.v rfl (o_fldp F25_0 rfl) ?_
            refine WPl.v rfl (o_ldp S3 rfl rfl rfl) ?_
            refine WPl.v rfl (o_add rfl rfl (by first | omega | (simp; omega)) (by first | omega | (simp; omega))) ?_
            refine WPl.v rfl (o_fldp F25_0 rfl) ?_
            refine WPl.s1 (o_sta S3 rfl rfl rfl rfl rfl) ?_
            refine WPl.nil ?_
            refine EX.again (i + 1) (ren [(11, 13)]) (by omega) (by omega) (LeR.of ⟨rfl, rfl, rfl, rfl, rfl, rfl, trivial⟩ ⟨(lx rfl), (lx rfl), trivial⟩ ⟨rfl, rfl, (congrArg (fun z => some (Ent.blk z 23)) (List.cons_eq_cons.2 ⟨(congrArg (fun z => ai z) (show ((s.leadTo (s.aft add) i).1) = ((fun i => (s.leadTo (s.aft add) i).1) (i + 1)) from by first | (simp only [Shop.leadTo]; rw [if_pos hc3, if_pos hc4]; dsimp only; omega) | (simp only [Shop.leadTo]; rw [if_pos hc3, if_neg hc4]; done) | (simp only [Shop.leadTo]; rw [if_neg (by rw [hc3]; simp)]))), (List.cons_eq_cons.2 ⟨(congrArg (fun z => ai z) (show ((((s.aft add).lead (i : Int)).pounds) - ((s.aft add).pounds)) = ((fun i => (s.leadTo (s.aft add) i).2) (i + 1)) from by first | (simp only [Shop.leadTo]; rw [if_pos hc3]; dsimp only; omega) | (simp only [Shop.leadTo]; rw [if_neg (by rw [hc3]; simp)]))), (Eq.refl [])⟩)⟩)), (congrArg (fun z => some (Ent.blk z 25)) (List.cons_eq_cons.2 ⟨(congrArg (fun z => ai z) (show ((((s.aft add).lead (i : Int)).pounds) + 1) = ((fun i => ((s.aft add).lead (i : Int)).pounds) (i + 1)) from by simp only [Po.lead]; omega)), (List.cons_eq_cons.2 ⟨(Eq.refl (ai (((s.aft add).lead (i : Int)).tl))), (List.cons_eq_cons.2 ⟨(Eq.refl (ai (((s.aft add).lead (i : Int)).th))), (List.cons_eq_cons.2 ⟨(Eq.refl (ai (((s.aft add).lead (i : Int)).al))), (List.cons_eq_cons.2 ⟨(Eq.refl (ai (((s.aft add).lead (i : Int)).ah))), (Eq.refl [])⟩)⟩)⟩)⟩)⟩)), trivial⟩ rfl rfl rfl rfl rfl)
        · try simp only [decide_eq_true_eq, decide_eq_false_iff_not, Bool.and_eq_true, Bool.or_eq_true, Bool.and_eq_false_iff, Bool.or_eq_false_iff, Bool.not_eq_true', Bool.not_eq_false', ne_eq, Decidable.not_not] at hc3
          refine WP.skip ?_
          refine EX.blk ?_
          refine EX.then ?_
          refine WP.seq ?_
          refine WP.seq ?_
          refine WP.region ?_
          refine WPl.v rfl (o_ldpa G25 rfl rfl rfl) ?_
          refine WPl.nil ?_
          refine EX.then ?_
          refine WP.region ?_
          refine WPl.l 13 14 rfl rfl rfl (o_alloc Z25) ?_
          refine WPl.s1 (o_stag G25 rfl rfl rfl ⟨rfl, rfl, rfl, rfl, rfl, trivial⟩ rfl rfl) ?_
          refine WPl.nil ?_
          refine EX.then ?_
          refine WP.region ?_
          refine WPl.v rfl (o_fldp F25_0 rfl) ?_
          refine WPl.v rfl (o_ldp S3 rfl rfl rfl) ?_
          refine WPl.v rfl (o_add rfl rfl (by first | omega | (simp; omega)) (by first | omega | (simp; omega))) ?_
          refine WPl.v rfl (o_fldp F25_0 rfl) ?_
          refine WPl.s1 (o_sta S3 rfl rfl rfl rfl rfl) ?_
          refine WPl.nil ?_
          refine EX.again (i + 1) (ren [(11, 13)]) (by omega) (by omega) (LeR.of ⟨rfl, rfl, rfl, rfl, rfl, rfl, trivial⟩ ⟨(lx rfl), (lx rfl), trivial⟩ ⟨rfl, rfl, (congrArg (fun z => some (Ent.blk z 23)) (List.cons_eq_cons.2 ⟨(congrArg (fun z => ai z) (show ((s.leadTo (s.aft add) i).1) = ((fun i => (s.leadTo (s.aft add) i).1) (i + 1)) from by first | (simp only [Shop.leadTo]; rw [if_pos hc3, if_pos hc4]; dsimp only; omega) | (simp only [Shop.leadTo]; rw [if_pos hc3, if_neg hc4]; done) | (simp only [Shop.leadTo]; rw [if_neg (by rw [hc3]; simp)]))), (List.cons_eq_cons.2 ⟨(congrArg (fun z => ai z) (show ((s.leadTo (s.aft add) i).2) = ((fun i => (s.leadTo (s.aft add) i).2) (i + 1)) from by first | (simp only [Shop.leadTo]; rw [if_pos hc3]; dsimp only; omega) | (simp only [Shop.leadTo]; rw [if_neg (by rw [hc3]; simp)]))), (Eq.refl [])⟩)⟩)), (congrArg (fun z => some (Ent.blk z 25)) (List.cons_eq_cons.2 ⟨(congrArg (fun z => ai z) (show ((((s.aft add).lead (i : Int)).pounds) + 1) = ((fun i => ((s.aft add).lead (i : Int)).pounds) (i + 1)) from by simp only [Po.lead]; omega)), (List.cons_eq_cons.2 ⟨(Eq.refl (ai (((s.aft add).lead (i : Int)).tl))), (List.cons_eq_cons.2 ⟨(Eq.refl (ai (((s.aft add).lead (i : Int)).th))), (List.cons_eq_cons.2 ⟨(Eq.refl (ai (((s.aft add).lead (i : Int)).al))), (List.cons_eq_cons.2 ⟨(Eq.refl (ai (((s.aft add).lead (i : Int)).ah))), (Eq.refl [])⟩)⟩)⟩)⟩)⟩)), trivial⟩ rfl rfl rfl rfl rfl)
      · try simp only [decide_eq_true_eq, decide_eq_false_iff_not, Bool.and_eq_true, Bool.or_eq_true, Bool.and_eq_false_iff, Bool.or_eq_false_iff, Bool.not_eq_true', Bool.not_eq_false', ne_eq, Decidable.not_not] at hc2
        refine WP.exit ?_
        refine EX.exit_then ?_
        refine EX.exit_then ?_
        refine EX.exit_blk ?_
        refine EX.then ?_
        refine WP.seq ?_
        refine WP.seq ?_
        refine WP.region ?_
        refine WPl.v rfl (o_fldp F23_0 rfl) ?_
        refine WPl.v rfl (o_ldp S3 rfl rfl rfl) ?_
        refine WPl.v rfl (o_lss rfl rfl) ?_
        refine WPl.nil ?_
        refine EX.then ?_
        refine WP.cond rfl (fun hc5 => ?_) (fun hc5 => ?_)
        · try simp only [decide_eq_true_eq, decide_eq_false_iff_not, Bool.and_eq_true, Bool.or_eq_true, Bool.and_eq_false_iff, Bool.or_eq_false_iff, Bool.not_eq_true', Bool.not_eq_false', ne_eq, Decidable.not_not] at hc5
          refine WP.seq ?_
          refine WP.region ?_
          refine WPl.v rfl (o_build B23 rfl trivial rfl rfl) ?_
          refine WPl.s1 (o_stag G23 rfl rfl rfl ⟨rfl, rfl, trivial⟩ rfl rfl) ?_
          refine WPl.v rfl (o_assign rfl) ?_
          refine WPl.nil ?_
          refine EX.then ?_
          refine WP.ret ?_
          refine EX.ret_then ?_
          have hend : i = s.leadN (s.aft add) := by omega
          subst hend
          have hLE : s.leadE add = 3 := by unfold Shop.leadE; rw [hE, if_pos rfl]; exact if_pos (by simpa using hc5)
          rw [hLE, show s.mLead add = (0, 0) from by unfold Shop.mLead; rw [hLE]; rfl]
          exact EX.fin id (.inl rfl) rfl (.cellg G23 rfl rfl rfl (.tmp rfl .nil)) rfl (by simp [SV.res, El.res, At.res, keys]) trivial (by simp) (by simp)
        · try simp only [decide_eq_true_eq, decide_eq_false_iff_not, Bool.and_eq_true, Bool.or_eq_true, Bool.and_eq_false_iff, Bool.or_eq_false_iff, Bool.not_eq_true', Bool.not_eq_false', ne_eq, Decidable.not_not] at hc5
          refine WP.skip ?_
          refine EX.then ?_
          refine WP.seq ?_
          refine WP.region ?_
          refine WPl.v rfl (o_ldpa G23 rfl rfl rfl) ?_
          refine WPl.s1 (o_stag G23 rfl rfl rfl ⟨rfl, rfl, trivial⟩ rfl rfl) ?_
          refine WPl.v rfl (o_assign rfl) ?_
          refine WPl.nil ?_
          refine EX.then ?_
          refine WP.ret ?_
          have hend : i = s.leadN (s.aft add) := by omega
          subst hend
          have hLE : s.leadE add = 0 := by unfold Shop.leadE; rw [hE, if_pos rfl]; exact if_neg (by simpa using hc5)
          rw [hLE, show s.mLead add = s.leadTo (s.aft add) (s.leadN (s.aft add)) from by unfold Shop.mLead; rw [hLE]; rfl]
          exact EX.fin id (.inl rfl) rfl (.cellg G23 rfl rfl rfl (.tmp rfl .nil)) rfl (by simp [SV.res, El.res, At.res, keys]) trivial (by simp) (by simp)
  · skip
    refine Sig.intro Try.func27 rfl 2 [(0, .e (.g [ai (s.pounds), ai (s.tl), ai (s.th), ai (s.al), ai (s.ah), ai (s.room), ai (s.tpl), ai (s.tph), ai (s.apl), ai (s.aph), .q 0])), (1, .e (.a (.q 1)))] rfl w27 rfl rfl fun I w => ?_
    refine WP.seq ?_
    refine WP.region ?_
    refine WPl.l 2 3 rfl rfl rfl (o_boxg rfl) ?_
    refine WPl.l 3 4 rfl rfl rfl (o_boxa rfl (.inl ⟨_, (lx rfl), PL.one⟩)) ?_
    refine WPl.l 4 5 rfl rfl rfl (o_alloc Z23) ?_
    refine WPl.v rfl (o_assign rfl) ?_
    refine WPl.nil ?_
    refine EX.then ?_
    refine WP.seq ?_
    refine WP.region ?_
    refine WPl.v rfl (o_ldpa G28 rfl rfl rfl) ?_
    refine WPl.imp (Imp.frzb (E := EP.box (PL EP.int (add))) (y := ()) 3 5 6 rfl rfl (bok_box (lx rfl)) rfl rfl rfl) ?_
    refine WPl.x 6 7 rfl rfl rfl (o_mkfn0 6 rfl) ?_
    refine WPl.cs 8 rfl rfl rfl rfl (o_sig 7 (ren [(0, 0), (1, 6)]) (c69CE s hf hl) e69 rfl rfl rfl w69CE ⟨(lx rfl), (lx rfl), trivial⟩ r69CE) ?_
    refine WPl.v rfl (o_move rfl) ?_
    refine WPl.v rfl (o_extract rfl rfl) ?_
    refine WPl.v rfl (o_extract rfl rfl) ?_
    refine WPl.l 8 9 rfl rfl rfl (o_alloc Z78) ?_
    refine WPl.s1 (o_stag G78 rfl rfl rfl ⟨rfl, rfl, rfl, rfl, rfl, rfl, rfl, rfl, rfl, rfl, (.inl ⟨_, (lx rfl), PL.one⟩), trivial⟩ rfl rfl) ?_
    refine WPl.v rfl (o_assign rfl) ?_
    refine WPl.nil ?_
    refine EX.then ?_
    refine WP.seq ?_
    refine WP.seq ?_
    refine WP.region ?_
    refine WPl.v rfl (o_move rfl) ?_
    refine WPl.v rfl (o_neq rfl rfl) ?_
    refine WPl.nil ?_
    refine EX.then ?_
    refine WP.cond rfl (fun hc1 => ?_) (fun hc1 => ?_)
    · try simp only [decide_eq_true_eq, decide_eq_false_iff_not, Bool.and_eq_true, Bool.or_eq_true, Bool.and_eq_false_iff, Bool.or_eq_false_iff, Bool.not_eq_true', Bool.not_eq_false', ne_eq, Decidable.not_not] at hc1
      refine WP.seq ?_
      refine WP.region ?_
      refine WPl.v rfl (o_build B23 rfl trivial rfl rfl) ?_
      refine WPl.v rfl (o_move rfl) ?_
      refine WPl.s1 (o_stag G23 rfl rfl rfl ⟨rfl, rfl, trivial⟩ rfl rfl) ?_
      refine WPl.v rfl (o_assign rfl) ?_
      refine WPl.nil ?_
      refine EX.then ?_
      refine WP.ret ?_
      refine EX.ret_then ?_
      have hE : opE s (isAdd s add) = 10 := opE_f hf _
      have hLE : s.leadE add = 10 := by unfold Shop.leadE; rw [hE]; rfl
      rw [hLE, show s.mLead add = (0, 0) from by unfold Shop.mLead; rw [hLE]; rfl]
      exact EX.fin id (.inl rfl) rfl (.cellg G23 rfl rfl rfl (.tmp rfl .nil)) rfl (by simp [SV.res, El.res, At.res, keys]) trivial (by simp) (by simp)
    · try simp only [decide_eq_true_eq, decide_eq_false_iff_not, Bool.and_eq_true, Bool.or_eq_true, Bool.and_eq_false_iff, Bool.or_eq_false_iff, Bool.not_eq_true', Bool.not_eq_false', ne_eq, Decidable.not_not] at hc1
      simp at hc1
end Go.Flong
namespace Go.Flong
open Go Go.Eng
theorem safeP_keeps (s : Shop) (p : Po) : s.safeP p = (keeps1 s 1 p.pounds p.tl 0 && keeps1 s 2 p.pounds p.th 0 && keeps1 s 3 p.pounds 0 p.al && keeps1 s 4 p.pounds 0 p.ah) := by
  rw [Bool.eq_iff_iff]
  simp [Shop.safeP, allI, Shop.failsP, keeps1]
end Go.Flong
namespace Go.Flong
open Go Go.Eng Go.Proofs
theorem e48 : Enters' Try.prog 48 := Try.call48
theorem e77 : Enters' Try.prog 77 := Try.call77
theorem e49 : Enters' Try.prog 49 := Try.call49
theorem e50 : Enters' Try.prog 50 := Try.call50
theorem w77 {a b n : Int} : ∀ x ∈ ([.e (.g [ai (a), ai (b)]), .i (n)] : List SV), x.res (keys (α := Pred) []) := by simp [SV.res, El.res, At.res, keys]
theorem r77 {a b n : Int} : SV.res (keys (α := Pred) []) (.e (.g [ai (a + n), ai (b + n)])) := by simp [SV.res, El.res, At.res, keys]
set_option maxHeartbeats 4000000 in
theorem c77 (a b n : Int) (h1 : -1000000000 ≤ a ∧ a ≤ 1000000000) (h2 : -1000000000 ≤ b ∧ b ≤ 1000000000) (h3 : -1000000000 ≤ n ∧ n ≤ 1000000000) : Sig Try.prog 77 [.e (.g [ai (a), ai (b)]), .i (n)] [] (.e (.g [ai (a + n), ai (b + n)])) [] := by
  refine Sig.intro Try.func77 rfl 0 [(0, .e (.g [ai (a), ai (b)])), (1, .i (n))] rfl w77 rfl rfl fun I w => ?_
  refine WP.seq ?_
  refine WP.region ?_
  refine WPl.l 0 1 rfl rfl rfl (o_boxg rfl) ?_
  refine WPl.l 1 2 rfl rfl rfl (o_alloc Z23) ?_
  refine WPl.nil ?_
  refine EX.then ?_
  refine WP.seq ?_
  refine WP.region ?_
  refine WPl.v rfl (o_fldp F23_0 rfl) ?_
  refine WPl.v rfl (o_ldp S3 rfl rfl rfl) ?_
  refine WPl.v rfl (o_move rfl) ?_
  refine WPl.v rfl (o_add rfl rfl (by first | omega | (simp; omega)) (by first | omega | (simp; omega))) ?_
  refine WPl.v rfl (o_fldp F23_1 rfl) ?_
  refine WPl.v rfl (o_ldp S3 rfl rfl rfl) ?_
  refine WPl.v rfl (o_move rfl) ?_
  refine WPl.v rfl (o_add rfl rfl (by first | omega | (simp; omega)) (by first | omega | (simp; omega))) ?_
  refine WPl.v rfl (o_build B23 rfl ⟨rfl, rfl, trivial⟩ rfl rfl) ?_
  refine WPl.s1 (o_stag G23 rfl rfl rfl ⟨rfl, rfl, trivial⟩ rfl rfl) ?_
  refine WPl.nil ?_
  refine EX.then ?_
  refine WP.ret ?_
  exact EX.fin id (.inl rfl) rfl (.cellg G23 rfl rfl rfl (.nil)) rfl r77 trivial (by simp) (by simp)
theorem w28 {s : Shop} {add : List Int} : ∀ x ∈ ([.e (.g [ai (s.pounds), ai (s.tl), ai (s.th), ai (s.al), ai (s.ah), ai (s.room), ai (s.tpl), ai (s.tph), ai (s.apl), ai (s.aph), .q 0]), .e (.a (.q 1))] : List SV), x.res (keys (α := Pred) [(0, PL EPig (s.pigs)), (1, PL EP.int (add))]) := by simp [SV.res, El.res, At.res, keys]
theorem r28 {s : Shop} {add : List Int} : SV.res (keys (α := Pred) []) (.e (.g [ai ((s.aft add).pounds), ai ((s.aft add).tl), ai ((s.aft add).th), ai ((s.aft add).al), ai ((s.aft add).ah)])) := by simp [SV.res, El.res, At.res, keys]
set_option maxHeartbeats 4000000 in
theorem c28 (s : Shop) (add : List Int) (hs : s.chk = true) (hl : add.length ≤ s.pigs.length) (hb : bnd add 1000) : Sig Try.prog 28 [.e (.g [ai (s.pounds), ai (s.tl), ai (s.th), ai (s.al), ai (s.ah), ai (s.room), ai (s.tpl), ai (s.tph), ai (s.apl), ai (s.aph), .q 0]), .e (.a (.q 1))] [(0, PL EPig (s.pigs)), (1, PL EP.int (add))] (.e (.g [ai ((s.aft add).pounds), ai ((s.aft add).tl), ai ((s.aft add).th), ai ((s.aft add).al), ai ((s.aft add).ah)])) [] := by
  have hpg := Shop.pigsOK hs
  have htb := tl_bnd hs
  have hs0 := sumOf_bnd (f := Pig.pounds) hpg hl hb (fun p h => by have := Pig.bnds h; omega)
  have hs1 := sumOf_bnd (f := Pig.tin) hpg hl hb (fun p h => by have := Pig.bnds h; omega)
  have hs2 := sumOf_bnd (f := Pig.ant) hpg hl hb (fun p h => by have := Pig.bnds h; omega)
  refine Sig.intro Try.func28 rfl 2 [(0, .e (.g [ai (s.pounds), ai (s.tl), ai (s.th), ai (s.al), ai (s.ah), ai (s.room), ai (s.tpl), ai (s.tph), ai (s.apl), ai (s.aph), .q 0])), (1, .e (.a (.q 1)))] rfl w28 rfl rfl fun I w => ?_
  refine WP.seq ?_
  refine WP.region ?_
  refine WPl.l 2 3 rfl rfl rfl (o_boxg rfl) ?_
  refine WPl.l 3 4 rfl rfl rfl (o_alloc Z25) ?_
  refine WPl.nil ?_
  refine EX.then ?_
  refine WP.seq ?_
  refine WP.draw (nf := 4) [⟨[8, 9, 10, 12, 13, 14, 15, 16, 17, 18, 19, 20, 21, 22, 23, 24, 25], [], [], [], []⟩, ⟨[8, 9, 10, 12, 13, 14, 15, 16, 17, 18, 19, 20, 21, 22, 23, 24, 25], [], [], [], [0]⟩, ⟨[8, 9, 10, 12, 13, 14, 15, 16, 17, 18, 19, 20, 21, 22, 23, 24, 25], [], [], [], [0, 1]⟩, ⟨[5, 6, 7, 9, 12, 13, 14, 15, 16, 19, 20, 21, 22, 23], [], [], [], []⟩, ⟨[5, 6, 7, 8, 12, 13, 14, 15, 16, 19, 20, 21, 22, 23], [], [], [], []⟩, ⟨[5, 6, 7, 12, 13, 14, 15, 16, 19, 20, 21, 22, 23], [], [], [], [3, 4]⟩, ⟨[12, 13, 14, 15, 16, 17, 18, 19, 20, 21, 22, 23, 24, 25], [], [], [], [0, 1, 2, 3, 4, 5]⟩, ⟨[5, 6, 7, 8, 9, 10, 11, 15, 16, 17, 19, 20, 21, 22, 23], [], [], [], []⟩, ⟨[5, 6, 7, 8, 9, 10, 11, 15, 16, 17, 19, 20, 21, 22, 23], [], [], [], [7]⟩, ⟨[5, 6, 7, 8, 9, 10, 11, 15, 16, 17, 19, 20, 21, 22, 23], [], [], [], [7, 8]⟩, ⟨[5, 6, 7, 8, 9, 10, 11, 12, 13, 14, 16, 19, 20, 21, 22, 23], [], [], [], []⟩, ⟨[5, 6, 7, 8, 9, 10, 11, 12, 13, 14, 15, 19, 20, 21, 22, 23], [], [], [], []⟩, ⟨[5, 6, 7, 11, 12, 13, 14, 19, 20, 21, 22, 23], [], [], [], [3, 4, 5, 10, 11]⟩, ⟨[5, 6, 7, 11, 19, 20, 21, 22, 23], [], [], [], [3, 4, 5, 7, 8, 9, 10, 11, 12]⟩, ⟨[5, 6, 7, 8, 9, 10, 11, 12, 13, 14, 15, 16, 17, 18, 22, 23, 24], [], [], [], []⟩, ⟨[5, 6, 7, 8, 9, 10, 11, 12, 13, 14, 15, 16, 17, 18, 22, 23, 24], [], [], [], [14]⟩, ⟨[5, 6, 7, 8, 9, 10, 11, 12, 13, 14, 15, 16, 17, 18, 22, 23, 24], [], [], [], [14, 15]⟩, ⟨[5, 6, 7, 8, 9, 10, 11, 12, 13, 14, 15, 16, 17, 18, 19, 20, 21, 23], [], [], [], []⟩, ⟨[5, 6, 7, 8, 9, 10, 11, 12, 13, 14, 15, 16, 17, 18, 19, 20, 21, 22], [], [], [], []⟩, ⟨[5, 6, 7, 11, 19, 20, 21], [], [], [], [3, 4, 5, 7, 8, 9, 10, 11, 12, 13, 17, 18]⟩, ⟨[5, 6, 7, 11], [], [], [], [3, 4, 5, 7, 8, 9, 10, 11, 12, 13, 14, 15, 16, 17, 18, 19]⟩, ⟨[], [], [], [], [0, 1, 2, 3, 4, 5, 6, 7, 8, 9, 10, 11, 12, 13, 14, 15, 16, 17, 18, 19, 20]⟩, ⟨[], [], [], [3], [0, 1, 2, 3, 4, 5, 6, 7, 8, 9, 10, 11, 12, 13, 14, 15, 16, 17, 18, 19, 20, 21]⟩] (by kernel_rfl) (by kernel_rfl) ?_
  refine DRQ.v rfl rfl rfl (o_fldp F28_0 rfl) ?_
  refine DRQ.v rfl rfl rfl (o_fldp F25_0 rfl) ?_
  refine DRQ.v rfl rfl rfl (o_ldp S3 rfl rfl rfl) ?_
  refine DRQ.v rfl rfl rfl (o_ldpa G28 rfl rfl rfl) ?_
  refine DRQ.v rfl rfl rfl (o_move rfl) ?_
  refine DRQ.cs rfl rfl rfl rfl (o_sig 4 (ren [(0, 0), (1, 1)]) (c47 s add hpg hb hl) e47 rfl rfl rfl w47 ⟨(lx rfl), (lx rfl), trivial⟩ r47) ?_
  refine DRQ.v rfl rfl rfl (o_add rfl rfl (by first | omega | (simp; omega)) (by first | omega | (simp; omega))) ?_
  refine DRQ.v rfl rfl rfl (o_fldp F28_0 rfl) ?_
  refine DRQ.v rfl rfl rfl (o_fldp F25_1 rfl) ?_
  refine DRQ.v rfl rfl rfl (o_ldpg G23 rfl rfl rfl) ?_
  refine DRQ.v rfl rfl rfl (o_ldpa G28 rfl rfl rfl) ?_
  refine DRQ.v rfl rfl rfl (o_move rfl) ?_
  refine DRQ.cs rfl rfl rfl rfl (o_sig 4 (ren [(0, 0), (1, 1)]) (c48 s add hpg hb hl) e48 rfl rfl rfl w48 ⟨(lx rfl), (lx rfl), trivial⟩ r48) ?_
  refine DRQ.cs rfl rfl rfl rfl (o_sig 4 id (c77 s.tl s.th (sumOf Pig.tin s.pigs add) (by omega) (by omega) (by omega)) e77 rfl rfl rfl w77 trivial r77) ?_
  refine DRQ.v rfl rfl rfl (o_fldp F28_0 rfl) ?_
  refine DRQ.v rfl rfl rfl (o_fldp F25_2 rfl) ?_
  refine DRQ.v rfl rfl rfl (o_ldpg G23 rfl rfl rfl) ?_
  refine DRQ.v rfl rfl rfl (o_ldpa G28 rfl rfl rfl) ?_
  refine DRQ.v rfl rfl rfl (o_move rfl) ?_
  refine DRQ.cs rfl rfl rfl rfl (o_sig 4 (ren [(0, 0), (1, 1)]) (c49 s add hpg hb hl) e49 rfl rfl rfl w49 ⟨(lx rfl), (lx rfl), trivial⟩ r49) ?_
  refine DRQ.cs rfl rfl rfl rfl (o_sig 4 id (c77 s.al s.ah (sumOf Pig.ant s.pigs add) (by omega) (by omega) (by omega)) e77 rfl rfl rfl w77 trivial r77) ?_
  refine DRQ.v rfl rfl rfl (o_build B25 rfl ⟨rfl, trivial⟩ rfl rfl) ?_
  refine DRQ.s 3 rfl rfl rfl (o_stag G25 rfl rfl rfl ⟨rfl, rfl, rfl, rfl, rfl, trivial⟩ rfl rfl) ?_
  refine DRQ.nil' ?_
  refine EX.then ?_
  refine WP.ret ?_
  exact EX.fin id (.inl rfl) rfl (.cellg G25 rfl rfl rfl (.nil)) rfl r28 trivial (by simp) (by simp)
theorem w29 {s : Shop} {p : Po} : ∀ x ∈ ([.e (.g [ai (s.pounds), ai (s.tl), ai (s.th), ai (s.al), ai (s.ah), ai (s.room), ai (s.tpl), ai (s.tph), ai (s.apl), ai (s.aph), .q 0]), .e (.g [ai (p.pounds), ai (p.tl), ai (p.th), ai (p.al), ai (p.ah)])] : List SV), x.res (keys (α := Pred) [(0, PL EPig (s.pigs))]) := by simp [SV.res, El.res, At.res, keys]
theorem r29 {s : Shop} {p : Po} : SV.res (keys (α := Pred) []) (.b (s.safeP p)) := by simp [SV.res, El.res, At.res, keys]
set_option maxHeartbeats 4000000 in
theorem c29 (s : Shop) (p : Po) (hs : s.chk = true) (hp : PoB p) : Sig Try.prog 29 [.e (.g [ai (s.pounds), ai (s.tl), ai (s.th), ai (s.al), ai (s.ah), ai (s.room), ai (s.tpl), ai (s.tph), ai (s.apl), ai (s.aph), .q 0]), .e (.g [ai (p.pounds), ai (p.tl), ai (p.th), ai (p.al), ai (p.ah)])] [(0, PL EPig (s.pigs))] (.b (s.safeP p)) [] := by
  have hpb := hp
  unfold PoB at hpb
  refine Sig.intro Try.func29 rfl 1 [(0, .e (.g [ai (s.pounds), ai (s.tl), ai (s.th), ai (s.al), ai (s.ah), ai (s.room), ai (s.tpl), ai (s.tph), ai (s.apl), ai (s.aph), .q 0])), (1, .e (.g [ai (p.pounds), ai (p.tl), ai (p.th), ai (p.al), ai (p.ah)]))] rfl w29 rfl rfl fun I w => ?_
  refine WP.seq ?_
  refine WP.region ?_
  refine WPl.l 1 2 rfl rfl rfl (o_boxg rfl) ?_
  refine WPl.l 2 3 rfl rfl rfl (o_boxg rfl) ?_
  refine WPl.v rfl (o_assign rfl) ?_
  refine WPl.nil ?_
  refine EX.then ?_
  refine WP.seq ?_
  refine WP.region ?_
  refine WPl.v rfl (o_ldpa G28 rfl rfl rfl) ?_
  refine WPl.v rfl (o_fldp F25_0 rfl) ?_
  refine WPl.v rfl (o_ldp S3 rfl rfl rfl) ?_
  refine WPl.v rfl (o_fldp F25_1 rfl) ?_
  refine WPl.v rfl (o_fldp F23_0 rfl) ?_
  refine WPl.v rfl (o_ldp S3 rfl rfl rfl) ?_
  refine WPl.cs 3 rfl rfl rfl rfl (o_sig 3 (ren [(0, 0)]) (c50 s 1 p.pounds p.tl 0 hs (by omega) (by omega) (by omega)) e50 rfl rfl rfl w50 ⟨(lx rfl), trivial⟩ r50) ?_
  refine WPl.v rfl (o_move rfl) ?_
  refine WPl.bit 3 4 (keeps1 s 1 p.pounds p.tl 0) rfl rfl ?_
  refine WPl.gv 3 rfl rfl (.plain rfl Iff.rfl rfl) (fun hb => o_ldpa G28 rfl rfl rfl) ?_
  refine WPl.gv 3 rfl rfl (.plain rfl Iff.rfl rfl) (fun hb => o_fldp F25_0 rfl) ?_
  refine WPl.gv 3 rfl rfl (.plain rfl Iff.rfl rfl) (fun hb => o_ldp S3 rfl rfl rfl) ?_
  refine WPl.gv 3 rfl rfl (.plain rfl Iff.rfl rfl) (fun hb => o_fldp F25_1 rfl) ?_
  refine WPl.gv 3 rfl rfl (.plain rfl Iff.rfl rfl) (fun hb => o_fldp F23_1 rfl) ?_
  refine WPl.gv 3 rfl rfl (.plain rfl Iff.rfl rfl) (fun hb => o_ldp S3 rfl rfl rfl) ?_
  refine WPl.gc0 3 rfl rfl (.plain rfl Iff.rfl rfl) (fun hb => o_sig 4 (ren [(0, 0)]) (c50 s 2 p.pounds p.th 0 hs (by omega) (by omega) (by omega)) e50 rfl rfl rfl w50 ⟨(lx rfl), trivial⟩ r50) ?_
  refine WPl.v rfl (o_and rfl rfl rfl id) ?_
  refine WPl.v rfl (o_move rfl) ?_
  refine WPl.bit 4 5 ((keeps1 s 1 p.pounds p.tl 0) && (keeps1 s 2 p.pounds p.th 0)) rfl rfl ?_
  refine WPl.gv 4 rfl rfl (.plain rfl Iff.rfl rfl) (fun hb => o_ldpa G28 rfl rfl rfl) ?_
  refine WPl.gv 4 rfl rfl (.plain rfl Iff.rfl rfl) (fun hb => o_fldp F25_0 rfl) ?_
  refine WPl.gv 4 rfl rfl (.plain rfl Iff.rfl rfl) (fun hb => o_ldp S3 rfl rfl rfl) ?_
  refine WPl.gv 4 rfl rfl (.plain rfl Iff.rfl rfl) (fun hb => o_fldp F25_2 rfl) ?_
  refine WPl.gv 4 rfl rfl (.plain rfl Iff.rfl rfl) (fun hb => o_fldp F23_0 rfl) ?_
  refine WPl.gv 4 rfl rfl (.plain rfl Iff.rfl rfl) (fun hb => o_ldp S3 rfl rfl rfl) ?_
  refine WPl.gc0 4 rfl rfl (.plain rfl Iff.rfl rfl) (fun hb => o_sig 5 (ren [(0, 0)]) (c50 s 3 p.pounds 0 p.al hs (by omega) (by omega) (by omega)) e50 rfl rfl rfl w50 ⟨(lx rfl), trivial⟩ r50) ?_
  refine WPl.v rfl (o_and rfl rfl rfl id) ?_
  refine WPl.v rfl (o_move rfl) ?_
  refine WPl.bit 5 6 (((keeps1 s 1 p.pounds p.tl 0) && (keeps1 s 2 p.pounds p.th 0)) && (keeps1 s 3 p.pounds 0 p.al)) rfl rfl ?_
  refine WPl.gv 5 rfl rfl (.plain rfl Iff.rfl rfl) (fun hb => o_ldpa G28 rfl rfl rfl) ?_
  refine WPl.gv 5 rfl rfl (.plain rfl Iff.rfl rfl) (fun hb => o_fldp F25_0 rfl) ?_
  refine WPl.gv 5 rfl rfl (.plain rfl Iff.rfl rfl) (fun hb => o_ldp S3 rfl rfl rfl) ?_
  refine WPl.gv 5 rfl rfl (.plain rfl Iff.rfl rfl) (fun hb => o_fldp F25_2 rfl) ?_
  refine WPl.gv 5 rfl rfl (.plain rfl Iff.rfl rfl) (fun hb => o_fldp F23_1 rfl) ?_
  refine WPl.gv 5 rfl rfl (.plain rfl Iff.rfl rfl) (fun hb => o_ldp S3 rfl rfl rfl) ?_
  refine WPl.gc0 5 rfl rfl (.plain rfl Iff.rfl rfl) (fun hb => o_sig 6 (ren [(0, 0)]) (c50 s 4 p.pounds 0 p.ah hs (by omega) (by omega) (by omega)) e50 rfl rfl rfl w50 ⟨(lx rfl), trivial⟩ r50) ?_
  refine WPl.v rfl (o_and rfl rfl rfl id) ?_
  refine WPl.v rfl (o_assign rfl) ?_
  refine WPl.nil ?_
  refine EX.then ?_
  refine WP.ret ?_
  rw [safeP_keeps]
  exact EX.fin id (.inl rfl) rfl (.tmp rfl .nil) rfl (by simp [SV.res, El.res, At.res, keys]) trivial (by simp) (by simp)
end Go.Flong
namespace Go.Flong
open Go Go.Eng Go.Proofs
end Go.Flong
namespace Go.Proofs
open Go.Shelf Go.RowKit Go.Lib Go.Sort Go.Flong
def Try.sortOf_ren : Go.Shelf.Ren := ⟨fun | 6 => 107 | 15 => 114 | 14 => 113 | 28 => 124 | 29 => 125 | 20 => 116 | 21 => 117 | 22 => 118 | 23 => 119 | 24 => 120 | 25 => 121 | 26 => 122 | 27 => 123 | 46 => 126 | 47 => 127 | 48 => 128 | 49 => 129 | 50 => 130 | 57 => 131 | n => n, fun | 22 => 87 | 24 => 91 | 25 => 111 | 3 => 3 | 39 => 117 | 0 => 0 | 53 => 126 | 55 => 128 | 4 => 4 | 46 => 120 | 45 => 119 | 50 => 36 | 5 => 5 | 9 => 9 | 66 => 129 | 70 => 133 | 76 => 135 | 77 => 136 | n => n, fun | n => n⟩
theorem Try.sortOf : Go.Proofs.SlLaysF0.n6 Try.prog Try.sortOf_ren := {
  mixed := by kernel_rfl,
  f6 := ⟨Try.f107.name, by decide, Try.func107.trans (congrArg some (by kernel_rfl))⟩,
  f14 := ⟨Try.f113.name, by decide, Try.func113.trans (congrArg some (by kernel_rfl))⟩,
  f15 := Try.func114.trans (congrArg some (by kernel_rfl)),
  f20 := ⟨Try.f116.name, by decide, Try.func116.trans (congrArg some (by kernel_rfl))⟩,
  f21 := ⟨Try.f117.name, by decide, Try.func117.trans (congrArg some (by kernel_rfl))⟩,
  f22 := ⟨Try.f118.name, by decide, Try.func118.trans (congrArg some (by kernel_rfl))⟩,
  f23 := ⟨Try.f119.name, by decide, Try.func119.trans (congrArg some (by kernel_rfl))⟩,
  f24 := ⟨Try.f120.name, by decide, Try.func120.trans (congrArg some (by kernel_rfl))⟩,
  f25 := ⟨Try.f121.name, by decide, Try.func121.trans (congrArg some (by kernel_rfl))⟩,
  f26 := ⟨Try.f122.name, by decide, Try.func122.trans (congrArg some (by kernel_rfl))⟩,
  f27 := ⟨Try.f123.name, by decide, Try.func123.trans (congrArg some (by kernel_rfl))⟩,
  f28 := Try.func124.trans (congrArg some (by kernel_rfl)),
  f29 := Try.func125.trans (congrArg some (by kernel_rfl)),
  f46 := ⟨Try.f126.name, by decide, Try.func126.trans (congrArg some (by kernel_rfl))⟩,
  f47 := Try.func127.trans (congrArg some (by kernel_rfl)),
  f48 := Try.func128.trans (congrArg some (by kernel_rfl)),
  f49 := ⟨Try.f129.name, by decide, Try.func129.trans (congrArg some (by kernel_rfl))⟩,
  f50 := ⟨Try.f130.name, by decide, Try.func130.trans (congrArg some (by kernel_rfl))⟩,
  f57 := ⟨Try.f131.name, by decide, Try.func131.trans (congrArg some (by kernel_rfl))⟩,
  t0 := Try.underlying0,
  a0 := Try.isAgg0,
  z0 := Try.sizeOf0,
  v0 := Try.zeroValue0,
  t3 := Try.underlying3,
  a3 := Try.isAgg3,
  z3 := Try.sizeOf3,
  v3 := Try.zeroValue3,
  t4 := Try.underlying4,
  a4 := Try.isAgg4,
  z4 := Try.sizeOf4,
  v4 := Try.zeroValue4,
  t5 := Try.underlying5,
  a5 := Try.isAgg5,
  z5 := Try.sizeOf5,
  v5 := Try.zeroValue5,
  t9 := Try.underlying9,
  a9 := Try.isAgg9,
  z9 := Try.sizeOf9,
  v9 := Try.zeroValue9,
  t22 := Try.underlying87,
  a22 := Try.isAgg87,
  z22 := Try.sizeOf87,
  v22 := Try.zeroValue87,
  t25 := Try.underlying111,
  a25 := Try.isAgg111,
  z25 := Try.sizeOf111,
  v25 := Try.zeroValue111,
  t39 := Try.underlying117,
  a39 := Try.isAgg117,
  z39 := Try.sizeOf117,
  v39 := Try.zeroValue117,
  t45 := Try.underlying119,
  a45 := Try.isAgg119,
  z45 := Try.sizeOf119,
  v45 := Try.zeroValue119,
  t46 := Try.underlying120,
  a46 := Try.isAgg120,
  z46 := Try.sizeOf120,
  v46 := Try.zeroValue120,
  t50 := Try.underlying36,
  a50 := Try.isAgg36,
  z50 := Try.sizeOf36,
  v50 := Try.zeroValue36,
  t53 := Try.underlying126,
  a53 := Try.isAgg126,
  z53 := Try.sizeOf126,
  v53 := Try.zeroValue126,
  t55 := Try.underlying128,
  a55 := Try.isAgg128,
  z55 := Try.sizeOf128,
  v55 := Try.zeroValue128,
  t66 := Try.underlying129,
  a66 := Try.isAgg129,
  z66 := Try.sizeOf129,
  v66 := Try.zeroValue129,
  t70 := Try.underlying133,
  a70 := Try.isAgg133,
  z70 := Try.sizeOf133,
  v70 := Try.zeroValue133,
  t76 := Try.underlying135,
  a76 := Try.isAgg135,
  z76 := Try.sizeOf135,
  v76 := Try.zeroValue135,
  t77 := Try.underlying136,
  a77 := Try.isAgg136,
  z77 := Try.sizeOf136,
  v77 := Try.zeroValue136 }
def Try.cmpOf_ren : Go.Shelf.Ren := ⟨fun | 5 => 109 | 7 => 115 | n => n, fun | 22 => 3 | 3 => 3 | 4 => 4 | n => n, fun | n => n⟩
theorem Try.cmpOf : Go.Proofs.SlLaysC2.n5 Try.prog Try.cmpOf_ren := {
  mixed := by kernel_rfl,
  f5 := ⟨Try.f109.name, by decide, Try.func109.trans (congrArg some (by kernel_rfl))⟩,
  f7 := ⟨Try.f115.name, by decide, Try.func115.trans (congrArg some (by kernel_rfl))⟩,
  t3 := Try.underlying3,
  a3 := Try.isAgg3,
  z3 := Try.sizeOf3,
  v3 := Try.zeroValue3,
  t4 := Try.underlying4,
  a4 := Try.isAgg4,
  z4 := Try.sizeOf4,
  v4 := Try.zeroValue4,
  t22 := Try.underlying3,
  a22 := Try.isAgg3,
  z22 := Try.sizeOf3,
  v22 := Try.zeroValue3 }
set_option maxHeartbeats 1000000 in
theorem Try.closureOf (x y : Offer) (W : World) : Calls Try.prog 108 #[.agg #[.int .i64 x.pence, .int .i64 x.tl, .int .i64 x.th, .int .i64 x.al, .int .i64 x.ah], .agg #[.int .i64 y.pence, .int .i64 y.tl, .int .i64 y.th, .int .i64 y.al, .int .i64 y.ah]] W fun e w' => e = .returned (.int .i64 (Lib.compareInt x.pence y.pence)) ∧ ∃ q os', w' = grow (W.drewN q) os' := by
  have hcon := fun W' => AnyG.cmp_Compare_int Try.cmpOf x.pence y.pence W'
  change ∀ W', Calls Try.prog 109 _ _ _ at hcon
  generalize Lib.compareInt x.pence y.pence = r at hcon ⊢
  go_enter Try.func108, Try.ntmps108
  go_wp2_with (go_at_call 109; refine (hcon _).mono ?_; rintro e w' ⟨rfl, rfl⟩)
  go_ret
  exact ⟨rfl, 0, _, by rw [alloc_eq_grow, alloc_eq_grow, grow_grow]; rfl⟩
theorem Try.cmpLaysOf (blk off size : Nat) (w : World) : CmpLays Try.prog 108 #[] encOf 5 offCf blk off size w := fun _ _ _ _ x y => Try.closureOf x y _
end Go.Proofs
namespace Go.Flong
open Go Go.Eng Go.Proofs
theorem c107 {l : List Offer} (hl : l.length < 4611686018427387904) : SigR Try.prog 107 (.func (.func 108) #[] #[]) EOf 91 l (sortL offCf l) :=
  sortSig Try.sortOf Try.isAgg91 Try.sizeOf91 (fun _ => rfl) (fun x v hv => by simp [encOf] at hv; rcases hv with rfl | rfl | rfl | rfl | rfl <;> rfl) offSwo Try.call108 Try.cmpLaysOf encOf_iff rfl hl
end Go.Flong
namespace Go.Flong
open Go Go.Eng Go.Proofs
theorem Z87 : Zero Try.prog 87 [.v (.slice none 0 0)] := .mk Try.zeroValue87 rfl rfl
theorem S87 : TyS Try.prog 87 := ⟨Try.isAgg87, Try.sizeOf87⟩
theorem B91 : BldT Try.prog 91 [(0, 1), (1, 2), (3, 2)] [.int .i64 0, .int .i64 0, .int .i64 0, .int .i64 0, .int .i64 0] := BldT.mk (ns := [1, 2, 2]) Try.underlying91 ⟨Try.sizeOf3, Try.sizeOf23, Try.sizeOf23, trivial⟩ rfl Try.zeroValue91 rfl
theorem R87 : RowT Try.prog 87 91 5 40 [.int .i64 0, .int .i64 0, .int .i64 0, .int .i64 0, .int .i64 0] := ⟨Try.underlying87, ⟨Try.t91, _, by kernel_rfl, rfl, rfl, rfl, rfl⟩, rfl, by decide⟩
theorem e107 : Enters' Try.prog 107 := Try.call107
theorem L87 : IsSl Try.prog 87 91 5 := ⟨Try.underlying87, Try.sizeOf91⟩
theorem G91 : TyG Try.prog 91 5 := ⟨Try.isAgg91, Try.sizeOf91⟩
abbrev HitQ (h : Offer → Bool) : Pred := Pred.all fun (o : Offer) => FvP Try.prog [.e (.g [ai (o.pence), ai (o.tl), ai (o.th), ai (o.al), ai (o.ah)])] [] (.b (h o)) []
theorem F91_1 : Fld Try.prog 91 1 1 := .mk Try.underlying91 rfl rfl rfl Try.sizeOf23 rfl
theorem F91_2 : Fld Try.prog 91 2 3 := .mk Try.underlying91 rfl rfl rfl Try.sizeOf23 rfl
theorem e78 : Enters' Try.prog 78 := Try.call78
theorem Z3 : Zero Try.prog 3 [ai (0)] := .mk Try.zeroValue3 rfl rfl
theorem e80 : Enters' Try.prog 80 := Try.call80
theorem e79 : Enters' Try.prog 79 := Try.call79
theorem F91_0 : Fld Try.prog 91 0 0 := .mk Try.underlying91 rfl rfl rfl Try.sizeOf3 rfl
theorem e58 : Enters' Try.prog 58 := Try.call58
theorem e31 : Enters' Try.prog 31 := Try.call31
theorem w78 {s : Shop} : ∀ x ∈ ([.e (.g [ai (s.pounds), ai (s.tl), ai (s.th), ai (s.al), ai (s.ah), ai (s.room), ai (s.tpl), ai (s.tph), ai (s.apl), ai (s.aph), .q 0])] : List SV), x.res (keys (α := Pred) [(0, PL EPig (s.pigs))]) := by simp [SV.res, El.res, At.res, keys]
theorem r78 {s : Shop} : SV.res (keys (α := Pred) [(0, PL EOf (s.offS))]) (.e (.a (.q 0))) := by simp [SV.res, El.res, At.res, keys]
set_option maxHeartbeats 4000000 in
theorem c78 (s : Shop) (hs : s.chk = true) : Sig Try.prog 78 [.e (.g [ai (s.pounds), ai (s.tl), ai (s.th), ai (s.al), ai (s.ah), ai (s.room), ai (s.tpl), ai (s.tph), ai (s.apl), ai (s.aph), .q 0])] [(0, PL EPig (s.pigs))] (.e (.a (.q 0))) [(0, PL EOf (s.offS))] := by
  have hpg := Shop.pigsOK hs
  have hp4 := hpg.2
  have htb := tl_bnd hs
  have hal := adL_len hpg
  refine Sig.intro Try.func78 rfl 1 [(0, .e (.g [ai (s.pounds), ai (s.tl), ai (s.th), ai (s.al), ai (s.ah), ai (s.room), ai (s.tpl), ai (s.tph), ai (s.apl), ai (s.aph), .q 0]))] rfl w78 rfl rfl fun I w => ?_
  refine WP.seq ?_
  refine WP.region ?_
  refine WPl.l 1 2 rfl rfl rfl (o_boxg rfl) ?_
  refine WPl.v rfl (o_assign rfl) ?_
  refine WPl.nil ?_
  refine EX.then ?_
  refine WP.seq ?_
  refine WP.region ?_
  refine WPl.l 2 3 rfl rfl rfl (o_alloc Z87) ?_
  refine WPl.nil ?_
  refine EX.then ?_
  refine WP.seq ?_
  refine WP.seq ?_
  refine WP.region ?_
  refine WPl.v rfl (o_ldpa G78 rfl rfl rfl) ?_
  refine WPl.x 3 4 rfl rfl rfl (o_mkbit 3 (ren [(0, 0)]) (c95 s hs) e95 rfl SvsOK.rf w95 ⟨(lx rfl), trivial⟩) ?_
  refine WPl.nil ?_
  refine EX.then ?_
  refine WP.block ?_
  refine WP.leR (S' := ⟨4, [(1, .e (.a (.p 1 (0)))), (2, .e (.a (.v (.slice none 0 0)))), (3, .e (.a (.p 2 (0)))), (7, .e (.a (.q 3)))], [(0, PL EPig (s.pigs)), (3, ItQ Try.prog s.adItems)], [(1, .blk [ai (s.pounds), ai (s.tl), ai (s.th), ai (s.al), ai (s.ah), ai (s.room), ai (s.tpl), ai (s.tph), ai (s.apl), ai (s.aph), .q 0] 78), (2, .blk [.v (.slice none 0 0)] 87)], [], []⟩) id (LeR.of ⟨rfl, rfl, rfl, rfl, trivial⟩ ⟨(lx rfl), (lx rfl), trivial⟩ ⟨rfl, rfl, trivial⟩ rfl rfl rfl rfl rfl) ?_
  refine WP.imp (Imp.namo EOf 4 5 91 rfl rfl) ?_
  refine WP.imp (Imp.swL 2 0 4 rfl rfl (lx rfl)) ?_
  refine WP.rangeV 8 1 (s.adL.length) (fun i => ⟨[.e (.a (.q 0))], [(0, PL EP.int ((nth s.adL (i : Int))))], []⟩) (fun i => ⟨8, [(1, .e (.a (.p 1 (0)))), (2, .e (.a (.v (.slice none 0 0)))), (3, .e (.a (.p 2 (0)))), (7, .e (.a (.q 3)))], [(0, PL EPig (s.pigs)), (3, ItQ Try.prog s.adItems), (4, Pred.is (.slice none 0 0))], [(1, .blk [ai (s.pounds), ai (s.tl), ai (s.th), ai (s.al), ai (s.ah), ai (s.room), ai (s.tpl), ai (s.tph), ai (s.apl), ai (s.aph), .q 0] 78), (2, .blk [.q 7] 87), (5, .ob (.deferred (some []))), (7, .own 91 EOf.size (s.offTo i).length (RP EOf (s.offTo i)))], [5], []⟩) (fun _ _ => False) rfl  rfl (ItQ.hit (lx rfl)) (rfl) (fun _ => RSt.of rfl rfl rfl rfl rfl rfl) (fun _ _ h => h.elim) rfl rfl rfl (fun _ _ => ItemOK.of rfl) rfl rfl (ren [(7, 4)]) (LeR.of ⟨rfl, rfl, rfl, rfl, trivial⟩ ⟨(lx rfl), (lx rfl), (lx rfl), trivial⟩ ⟨rfl, rfl, rfl, rfl, trivial⟩ rfl rfl rfl rfl rfl) ?_ ?_ ?_
  · intro i hi w1 E1 I1 R1 pβ1 pν1 us1
    have hx := isAddB hpg (adL_at hi)
    have hq0 := sumOf_bnd (f := Pig.pounds) hpg (by omega) hx.2.2 (fun p h => by have := Pig.bnds h; omega)
    have hq1 := sumOf_bnd (f := Pig.tin) hpg (by omega) hx.2.2 (fun p h => by have := Pig.bnds h; omega)
    have hq2 := sumOf_bnd (f := Pig.ant) hpg (by omega) hx.2.2 (fun p h => by have := Pig.bnds h; omega)
    have hj0 := justB (a := s.tpl) (n := s.pounds + sumOf Pig.pounds s.pigs (nth s.adL (i : Int))) (by omega) (by omega)
    have hj1 := justB (a := s.tph) (n := s.pounds + sumOf Pig.pounds s.pigs (nth s.adL (i : Int))) (by omega) (by omega)
    have hj2 := justB (a := s.apl) (n := s.pounds + sumOf Pig.pounds s.pigs (nth s.adL (i : Int))) (by omega) (by omega)
    have hj3 := justB (a := s.aph) (n := s.pounds + sumOf Pig.pounds s.pigs (nth s.adL (i : Int))) (by omega) (by omega)
    refine WP.region ?_
    refine WPl.v rfl (o_assign rfl) ?_
    refine WPl.nil ?_
    refine EX.beg rfl ?_
    refine WP.block ?_
    refine WP.seq ?_
    refine WP.imp (Imp.nam 9 10 (.func (.func 103) #[] #[]) (R := (PigQ Pig.pounds).and (Pred.is (.func (.func 103) #[] #[]))) (fun I => FvP.namea (fun (x : Pig) => (c103 x)) e103 (fun _ => (by simp [SV.res, El.res, At.res, keys])) I) rfl rfl) ?_
    refine WP.draw (nf := 10) [⟨[13, 14, 15], [], [], [], []⟩, ⟨[13, 14, 15], [], [], [], [0]⟩, ⟨[13, 14, 15], [], [], [], [0, 1]⟩, ⟨[13, 14, 15], [], [], [], [0, 1, 2]⟩, ⟨[9, 10, 11, 12, 14], [], [], [], []⟩, ⟨[9, 10, 11, 12, 13], [], [], [], []⟩, ⟨[9, 10, 11, 12], [], [], [], [4, 5]⟩, ⟨[], [], [], [], [0, 1, 2, 3, 4, 5, 6]⟩, ⟨[], [], [], [], [0, 1, 2, 3, 4, 5, 6, 7]⟩] (by kernel_rfl) (by kernel_rfl) ?_
    refine DRQ.v rfl rfl rfl (o_fldp F78_0 rfl) ?_
    refine DRQ.v rfl rfl rfl (o_fldp F28_0 rfl) ?_
    refine DRQ.v rfl rfl rfl (o_fldp F25_0 rfl) ?_
    refine DRQ.v rfl rfl rfl (o_ldp S3 rfl rfl rfl) ?_
    refine DRQ.v rfl rfl rfl (o_ldpa G78 rfl rfl rfl) ?_
    refine DRQ.v rfl rfl rfl (o_move rfl) ?_
    refine DRQ.cs rfl rfl rfl rfl (o_sigc 10 (ren [(0, 0), (1, 8), (2, 9)]) (c101 s (nth s.adL (i : Int)) Pig.pounds hpg hx.2.2 (by omega) (fun p h => by have := Pig.bnds h; (show 0 ≤ p.pounds ∧ p.pounds ≤ 99); omega)) e101 rfl rfl ⟨.inl rfl, .inl rfl, .inr ⟨_, _, rfl, fun _ => rfl, (lxr rfl)⟩, trivial⟩ w101 ⟨(lx rfl), (lx rfl), (lxl rfl), trivial⟩ r101) ?_
    refine DRQ.v rfl rfl rfl (o_add rfl rfl (by first | omega | (simp; omega)) (by first | omega | (simp; omega))) ?_
    refine DRQ.v rfl rfl rfl (o_assign rfl) ?_
    refine DRQ.nil' ?_
    refine EX.then ?_
    refine WP.imp (Imp.nam 10 11 (.func (.func 106) #[] #[]) (R := (PigQ Pig.pence).and (Pred.is (.func (.func 106) #[] #[]))) (fun I => FvP.namea (fun (x : Pig) => (c106 x)) e106 (fun _ => (by simp [SV.res, El.res, At.res, keys])) I) rfl rfl) ?_
    refine WP.imp (Imp.nam 11 12 (.func (.func 102) #[] #[]) (R := (PigQ Pig.tin).and (Pred.is (.func (.func 102) #[] #[]))) (fun I => FvP.namea (fun (x : Pig) => (c102 x)) e102 (fun _ => (by simp [SV.res, El.res, At.res, keys])) I) rfl rfl) ?_
    refine WP.imp (Imp.nam 12 13 (.func (.func 105) #[] #[]) (R := (PigQ Pig.ant).and (Pred.is (.func (.func 105) #[] #[]))) (fun I => FvP.namea (fun (x : Pig) => (c105 x)) e105 (fun _ => (by simp [SV.res, El.res, At.res, keys])) I) rfl rfl) ?_
    refine WP.draw (nf := 15) [⟨[18, 19, 20, 21, 22, 23, 24, 25, 26, 27, 28, 29, 30, 31, 32, 33, 34, 35, 36, 37, 38, 39, 40, 41, 42], [13], [], [], []⟩, ⟨[17, 19, 21, 22, 23, 24, 26, 27, 31, 32, 33, 34, 36, 37], [], [], [], []⟩, ⟨[17, 18, 21, 22, 23, 24, 26, 27, 31, 32, 33, 34, 36, 37], [], [], [], []⟩, ⟨[17, 21, 22, 23, 24, 26, 27, 31, 32, 33, 34, 36, 37], [], [], [], [1, 2]⟩, ⟨[17, 18, 19, 20, 24, 26, 27, 31, 32, 33, 34, 36, 37], [], [], [], []⟩, ⟨[17, 18, 19, 20, 24, 26, 27, 31, 32, 33, 34, 36, 37], [], [], [], [4]⟩, ⟨[17, 18, 19, 20, 24, 26, 27, 31, 32, 33, 34, 36, 37], [], [], [], [4, 5]⟩, ⟨[17, 18, 19, 20, 21, 22, 23, 26, 27, 31, 32, 33, 34, 36, 37], [], [], [], []⟩, ⟨[17, 26, 27, 31, 32, 33, 34, 36, 37], [], [], [], [1, 2, 3, 4, 5, 6, 7]⟩, ⟨[17, 18, 19, 20, 21, 22, 23, 24, 25, 27, 31, 32, 33, 34, 36, 37], [], [], [], []⟩, ⟨[17, 18, 19, 20, 21, 22, 23, 24, 25, 26, 31, 32, 33, 34, 36, 37], [], [], [], []⟩, ⟨[17, 31, 32, 33, 34, 36, 37], [], [], [], [1, 2, 3, 4, 5, 6, 7, 8, 9, 10]⟩, ⟨[17, 31, 32, 33, 34, 36, 37], [], [], [], [1, 2, 3, 4, 5, 6, 7, 8, 9, 10, 11]⟩, ⟨[17, 31, 32, 33, 34, 36, 37], [], [], [], [1, 2, 3, 4, 5, 6, 7, 8, 9, 10, 11, 12]⟩, ⟨[17, 18, 19, 20, 21, 22, 23, 24, 25, 26, 27, 28, 29, 30, 34, 36, 37], [], [], [], []⟩, ⟨[17, 18, 19, 20, 21, 22, 23, 24, 25, 26, 27, 28, 29, 30, 34, 36, 37], [], [], [], [14]⟩, ⟨[17, 18, 19, 20, 21, 22, 23, 24, 25, 26, 27, 28, 29, 30, 34, 36, 37], [], [], [], [14, 15]⟩, ⟨[17, 18, 19, 20, 21, 22, 23, 24, 25, 26, 27, 28, 29, 30, 31, 32, 33, 36, 37], [], [], [], []⟩, ⟨[17, 36, 37], [], [], [], [1, 2, 3, 4, 5, 6, 7, 8, 9, 10, 11, 12, 13, 14, 15, 16, 17]⟩, ⟨[17, 18, 19, 20, 21, 22, 23, 24, 25, 26, 27, 28, 29, 30, 31, 32, 33, 34, 35, 37], [], [], [], []⟩, ⟨[17, 18, 19, 20, 21, 22, 23, 24, 25, 26, 27, 28, 29, 30, 31, 32, 33, 34, 35, 36], [], [], [], []⟩, ⟨[17], [], [], [], [1, 2, 3, 4, 5, 6, 7, 8, 9, 10, 11, 12, 13, 14, 15, 16, 17, 18, 19, 20]⟩, ⟨[17], [], [], [], [1, 2, 3, 4, 5, 6, 7, 8, 9, 10, 11, 12, 13, 14, 15, 16, 17, 18, 19, 20, 21]⟩, ⟨[17], [], [], [], [1, 2, 3, 4, 5, 6, 7, 8, 9, 10, 11, 12, 13, 14, 15, 16, 17, 18, 19, 20, 21, 22]⟩, ⟨[17], [], [], [], [1, 2, 3, 4, 5, 6, 7, 8, 9, 10, 11, 12, 13, 14, 15, 16, 17, 18, 19, 20, 21, 22, 23]⟩, ⟨[17], [], [13], [13, 13], [1, 2, 3, 4, 5, 6, 7, 8, 9, 10, 11, 12, 13, 14, 15, 16, 17, 18, 19, 20, 21, 22, 23, 24]⟩, ⟨[], [], [14], [14, 7], [0, 1, 2, 3, 4, 5, 6, 7, 8, 9, 10, 11, 12, 13, 14, 15, 16, 17, 18, 19, 20, 21, 22, 23, 24, 25]⟩, ⟨[], [], [], [2], [0, 1, 2, 3, 4, 5, 6, 7, 8, 9, 10, 11, 12, 13, 14, 15, 16, 17, 18, 19, 20, 21, 22, 23, 24, 25, 26]⟩] (by kernel_rfl) (by kernel_rfl) ?_
    refine DRQ.v rfl rfl rfl (o_ldp S87 rfl rfl rfl) ?_
    refine DRQ.v rfl rfl rfl (o_ldpa G78 rfl rfl rfl) ?_
    refine DRQ.v rfl rfl rfl (o_move rfl) ?_
    refine DRQ.cs rfl rfl rfl rfl (o_sigc 13 (ren [(0, 0), (1, 8), (2, 10)]) (c101 s (nth s.adL (i : Int)) Pig.pence hpg hx.2.2 (by omega) (fun p h => by have := Pig.bnds h; (show 0 ≤ p.pence ∧ p.pence ≤ 99); omega)) e101 rfl rfl ⟨.inl rfl, .inl rfl, .inr ⟨_, _, rfl, fun _ => rfl, (lxr rfl)⟩, trivial⟩ w101 ⟨(lx rfl), (lx rfl), (lxl rfl), trivial⟩ r101) ?_
    refine DRQ.v rfl rfl rfl (o_fldp F78_0 rfl) ?_
    refine DRQ.v rfl rfl rfl (o_fldp F28_2 rfl) ?_
    refine DRQ.v rfl rfl rfl (o_ldpg G23 rfl rfl rfl) ?_
    refine DRQ.v rfl rfl rfl (o_move rfl) ?_
    refine DRQ.cs rfl rfl rfl rfl (o_sig 13 id (c90 s.tpl s.tph (s.pounds + (sumOf Pig.pounds s.pigs (nth s.adL (i : Int)))) (by omega) (by omega) (by omega)) e90 rfl rfl rfl w90 trivial r90) ?_
    refine DRQ.v rfl rfl rfl (o_ldpa G78 rfl rfl rfl) ?_
    refine DRQ.v rfl rfl rfl (o_move rfl) ?_
    refine DRQ.cs rfl rfl rfl rfl (o_sigc 13 (ren [(0, 0), (1, 8), (2, 11)]) (c101 s (nth s.adL (i : Int)) Pig.tin hpg hx.2.2 (by omega) (fun p h => by have := Pig.bnds h; (show 0 ≤ p.tin ∧ p.tin ≤ 99); omega)) e101 rfl rfl ⟨.inl rfl, .inl rfl, .inr ⟨_, _, rfl, fun _ => rfl, (lxr rfl)⟩, trivial⟩ w101 ⟨(lx rfl), (lx rfl), (lxl rfl), trivial⟩ r101) ?_
    refine DRQ.v rfl rfl rfl (o_neg rfl (by first | omega | (simp; omega)) (by first | omega | (simp; omega))) ?_
    refine DRQ.cs rfl rfl rfl rfl (o_sig 13 id (c104 (justL s.tpl (s.pounds + (sumOf Pig.pounds s.pigs (nth s.adL (i : Int))))) (justH s.tph (s.pounds + (sumOf Pig.pounds s.pigs (nth s.adL (i : Int))))) (-(sumOf Pig.tin s.pigs (nth s.adL (i : Int)))) (by omega) (by omega) (by omega)) e104 rfl rfl rfl w104 trivial r104) ?_
    refine DRQ.v rfl rfl rfl (o_fldp F78_0 rfl) ?_
    refine DRQ.v rfl rfl rfl (o_fldp F28_3 rfl) ?_
    refine DRQ.v rfl rfl rfl (o_ldpg G23 rfl rfl rfl) ?_
    refine DRQ.v rfl rfl rfl (o_move rfl) ?_
    refine DRQ.cs rfl rfl rfl rfl (o_sig 13 id (c90 s.apl s.aph (s.pounds + (sumOf Pig.pounds s.pigs (nth s.adL (i : Int)))) (by omega) (by omega) (by omega)) e90 rfl rfl rfl w90 trivial r90) ?_
    refine DRQ.v rfl rfl rfl (o_ldpa G78 rfl rfl rfl) ?_
    refine DRQ.v rfl rfl rfl (o_move rfl) ?_
    refine DRQ.cs rfl rfl rfl rfl (o_sigc 13 (ren [(0, 0), (1, 8), (2, 12)]) (c101 s (nth s.adL (i : Int)) Pig.ant hpg hx.2.2 (by omega) (fun p h => by have := Pig.bnds h; (show 0 ≤ p.ant ∧ p.ant ≤ 99); omega)) e101 rfl rfl ⟨.inl rfl, .inl rfl, .inr ⟨_, _, rfl, fun _ => rfl, (lxr rfl)⟩, trivial⟩ w101 ⟨(lx rfl), (lx rfl), (lxl rfl), trivial⟩ r101) ?_
    refine DRQ.v rfl rfl rfl (o_neg rfl (by first | omega | (simp; omega)) (by first | omega | (simp; omega))) ?_
    refine DRQ.cs rfl rfl rfl rfl (o_sig 13 id (c104 (justL s.apl (s.pounds + (sumOf Pig.pounds s.pigs (nth s.adL (i : Int))))) (justH s.aph (s.pounds + (sumOf Pig.pounds s.pigs (nth s.adL (i : Int))))) (-(sumOf Pig.ant s.pigs (nth s.adL (i : Int)))) (by omega) (by omega) (by omega)) e104 rfl rfl rfl w104 trivial r104) ?_
    refine DRQ.v rfl rfl rfl (o_build B91 rfl ⟨rfl, trivial⟩ rfl rfl) ?_
    refine DRQ.u1 13 rfl rfl rfl (OpG.newer0 (o_bsl (E := EOf) (l := [(s.offer (nth s.adL (i : Int)))]) R87 rfl rfl (.cons (⟨rfl, rfl, rfl, rfl, rfl, trivial⟩) rfl (eok_str ⟨rfl, rfl, rfl, rfl, rfl, trivial⟩) (.nil)) rfl rfl)) rfl ?_
    have hol := offTo_len s i
    refine DRQ.l2 14 7 rfl rfl rfl rfl (o_appo R87 EP.str_one rfl rfl rfl rfl (by first | omega | (simp; omega) | (simp at *; omega)) (by first | omega | (simp; omega) | (simp at *; omega))) ?_
    refine DRQ.s 2 rfl rfl rfl (o_sta S87 rfl rfl rfl (.inr ⟨_, _, _, _, rfl⟩) rfl) ?_
    refine DRQ.nil' ?_
    refine EX.blk ?_
    exact EX.next (ren [(7, 14)]) (LeR.of trivial ⟨(lx rfl), (lx rfl), (lx rfl), trivial⟩ ⟨rfl, rfl, rfl, rfl, rfl, trivial⟩ rfl rfl rfl rfl rfl)
  · exact fun _ _ h => h.elim
  · skip
    refine EX.blk ?_
    refine EX.then ?_
    refine WP.seq ?_
    refine WP.region ?_
    refine WPl.v rfl (o_ldp S87 rfl rfl rfl) ?_
    refine WPl.cL (X' := []) 8 rfl rfl rfl rfl rfl (o_sigr (E := EOf) (c107 (l := s.offTo s.adL.length) (by rw [offTo_len]; omega)) e107 rfl rfl rfl) ?_
    refine WPl.nil ?_
    refine EX.then ?_
    refine WP.seq ?_
    refine WP.region ?_
    refine WPl.v rfl (o_ldp S87 rfl rfl rfl) ?_
    refine WPl.v rfl (o_assign rfl) ?_
    refine WPl.nil ?_
    refine EX.then ?_
    refine WP.ret ?_
    refine EX.imp (Imp.frz (E := EOf) (l := sortL offCf (s.offTo s.adL.length)) 7 rfl rfl) ?_
    exact EX.fin (ren [(0, 7)]) (.inl rfl) rfl (.tmp rfl .nil) rfl r78 ⟨(lx rfl), trivial⟩ (marks rfl) (by simp)
theorem w79 {l : List Offer} {h : Offer → Bool} : ∀ x ∈ ([.e (.a (.q 0)), .e (.a (.q 1))] : List SV), x.res (keys (α := Pred) [(0, PL EOf (l)), (1, HitQ h)]) := by simp [SV.res, El.res, At.res, keys]
theorem r79 {l : List Offer} {h : Offer → Bool} : SV.res (keys (α := Pred) []) (.i (idxF h l)) := by simp [SV.res, El.res, At.res, keys]
set_option maxHeartbeats 4000000 in
theorem c79 (l : List Offer) (h : Offer → Bool) (hl : l.length ≤ 10000) : Sig Try.prog 79 [.e (.a (.q 0)), .e (.a (.q 1))] [(0, PL EOf (l)), (1, HitQ h)] (.i (idxF h l)) [] := by
  refine Sig.intro Try.func79 rfl 2 [(0, .e (.a (.q 0))), (1, .e (.a (.q 1)))] rfl w79 rfl rfl fun I w => ?_
  refine WP.seq ?_
  refine WP.region ?_
  refine WPl.v rfl (o_assign rfl) ?_
  refine WPl.nil ?_
  refine EX.then ?_
  refine WP.seq ?_
  refine WP.seq ?_
  refine WP.region ?_
  refine WPl.v rfl (o_move rfl) ?_
  refine WPl.v rfl (o_lenq L87 rfl (lx rfl)) ?_
  refine WPl.v rfl (o_move rfl) ?_
  refine WPl.nil ?_
  refine EX.then ?_
  refine WP.block ?_
  refine WP.loop (Gh := Nat) (fun i => ⟨2, [(0, .e (.a (.q 0))), (1, .e (.a (.q 1))), (4, .i (0)), (7, .i ((l.length : Int))), (8, .i ((i : Int)))], [(0, PL EOf (l)), (1, HitQ h)], [], [], []⟩) (fun i => i ≤ l.length ∧ allI (missF h l) i = true) (fun i => l.length - i) (0) id ?_ (LeR.of ⟨rfl, rfl, rfl, rfl, rfl, trivial⟩ ⟨(lx rfl), (lx rfl), trivial⟩ trivial rfl rfl rfl rfl rfl) ?_
  · exact ⟨by omega, rfl⟩
  intro i hφ
  have hi : i ≤ l.length := hφ.1
  have hall := hφ.2
  refine WP.seq ?_
  refine WP.region ?_
  refine WPl.v rfl (o_lss rfl rfl) ?_
  refine WPl.nil ?_
  refine EX.then ?_
  refine WP.seq ?_
  refine WP.cond rfl (fun hc1 => ?_) (fun hc1 => ?_)
  · try simp only [decide_eq_true_eq, decide_eq_false_iff_not, Bool.and_eq_true, Bool.or_eq_true, Bool.and_eq_false_iff, Bool.or_eq_false_iff, Bool.not_eq_true', Bool.not_eq_false', ne_eq, Decidable.not_not] at hc1
    refine WP.skip ?_
    refine EX.then ?_
    refine WP.seq ?_
    refine WP.block ?_
    refine WP.seq ?_
    refine WP.region ?_
    refine WPl.v rfl (o_move rfl) ?_
    refine WPl.v rfl (o_assign rfl) ?_
    refine WPl.nil ?_
    refine EX.then ?_
    refine WP.seq ?_
    refine WP.region ?_
    refine WPl.v rfl (o_move rfl) ?_
    refine WPl.v rfl (o_move rfl) ?_
    refine WPl.v rfl (o_move rfl) ?_
    refine WPl.x 2 3 rfl rfl rfl (o_idx L87 rfl (lx rfl) rfl (by first | omega | (simp; omega)) (by first | omega | (simp; omega))) ?_
    refine WPl.v rfl (o_ldqg G91 rfl (lx rfl) (strG rfl) rfl rfl) ?_
    refine WPl.cs 3 rfl rfl rfl rfl (o_callfv (svs := [.e (.g [ai ((nth l (i : Int)).pence), ai ((nth l (i : Int)).tl), ai ((nth l (i : Int)).th), ai ((nth l (i : Int)).al), ai ((nth l (i : Int)).ah)])]) 3 id rfl (Has.of (lx rfl) fun _ _ h => h ((nth l (i : Int)))) rfl rfl SvsOK.rf (by simp [SV.res, El.res, At.res, keys]) trivial (by simp [SV.res, El.res, At.res, keys])) ?_
    refine WPl.nil ?_
    refine EX.then ?_
    refine WP.cond rfl (fun hc2 => ?_) (fun hc2 => ?_)
    · try simp only [decide_eq_true_eq, decide_eq_false_iff_not, Bool.and_eq_true, Bool.or_eq_true, Bool.and_eq_false_iff, Bool.or_eq_false_iff, Bool.not_eq_true', Bool.not_eq_false', ne_eq, Decidable.not_not] at hc2
      refine WP.seq ?_
      refine WP.region ?_
      refine WPl.v rfl (o_move rfl) ?_
      refine WPl.v rfl (o_assign rfl) ?_
      refine WPl.nil ?_
      refine EX.then ?_
      refine WP.ret ?_
      refine EX.ret_blk ?_
      refine EX.ret_then ?_
      refine EX.ret_then ?_
      refine EX.ret_blk ?_
      refine EX.ret_then ?_
      rw [show idxF h l = (i : Int) from idxF_at (by omega) hall hc2]
      exact EX.fin id (.inl rfl) rfl (.tmp rfl .nil) rfl (by simp [SV.res, El.res, At.res, keys]) trivial (by simp) (by simp)
    · try simp only [decide_eq_true_eq, decide_eq_false_iff_not, Bool.and_eq_true, Bool.or_eq_true, Bool.and_eq_false_iff, Bool.or_eq_false_iff, Bool.not_eq_true', Bool.not_eq_false', ne_eq, Decidable.not_not] at hc2
      refine WP.skip ?_
      refine EX.blk ?_
      refine EX.then ?_
      refine WP.region ?_
      refine WPl.v rfl (o_add rfl rfl (by first | omega | (simp; omega)) (by first | omega | (simp; omega))) ?_
      refine WPl.v rfl (o_move rfl) ?_
      refine WPl.nil ?_
      refine EX.again (i + 1) id (by exact ⟨by omega, by simp only [allI, hall, Bool.true_and, missF]; rw [hc2]; rfl⟩) (by omega) (LeR.of ⟨rfl, rfl, rfl, rfl, rfl, trivial⟩ ⟨(lx rfl), (lx rfl), trivial⟩ trivial rfl rfl rfl rfl rfl)
  · try simp only [decide_eq_true_eq, decide_eq_false_iff_not, Bool.and_eq_true, Bool.or_eq_true, Bool.and_eq_false_iff, Bool.or_eq_false_iff, Bool.not_eq_true', Bool.not_eq_false', ne_eq, Decidable.not_not] at hc1
    refine WP.exit ?_
    refine EX.exit_then ?_
    refine EX.exit_then ?_
    refine EX.exit_blk ?_
    refine EX.then ?_
    refine WP.seq ?_
    refine WP.region ?_
    refine WPl.v rfl (o_assign rfl) ?_
    refine WPl.nil ?_
    refine EX.then ?_
    refine WP.ret ?_
    rw [show idxF h l = -1 from idxF_none (by rw [show l.length = i by omega]; exact hall)]
    exact EX.fin id (.inl rfl) rfl (.tmp rfl .nil) rfl (by simp [SV.res, El.res, At.res, keys]) trivial (by simp) (by simp)
theorem w80 {o : Offer} {t a : Int} : ∀ x ∈ ([.e (.g [ai (o.pence), ai (o.tl), ai (o.th), ai (o.al), ai (o.ah)]), .e (.a (.q 0)), .e (.a (.q 1))] : List SV), x.res (keys (α := Pred) [(0, PP EP.int (t)), (1, PP EP.int (a))]) := by simp [SV.res, El.res, At.res, keys]
theorem r80 {o : Offer} {t a : Int} : SV.res (keys (α := Pred) []) (.b (o.hit t a)) := by simp [SV.res, El.res, At.res, keys]
set_option maxHeartbeats 4000000 in
theorem c80 (o : Offer) (t a : Int)  : Sig Try.prog 80 [.e (.g [ai (o.pence), ai (o.tl), ai (o.th), ai (o.al), ai (o.ah)]), .e (.a (.q 0)), .e (.a (.q 1))] [(0, PP EP.int (t)), (1, PP EP.int (a))] (.b (o.hit t a)) [] := by
  refine Sig.intro Try.func80 rfl 2 [(0, .e (.g [ai (o.pence), ai (o.tl), ai (o.th), ai (o.al), ai (o.ah)])), (1, .e (.a (.q 0))), (2, .e (.a (.q 1)))] rfl w80 rfl rfl fun I w => ?_
  refine WP.seq ?_
  refine WP.region ?_
  refine WPl.l 2 3 rfl rfl rfl (o_boxg rfl) ?_
  refine WPl.v rfl (o_assign rfl) ?_
  refine WPl.nil ?_
  refine EX.then ?_
  refine WP.seq ?_
  refine WP.region ?_
  refine WPl.v rfl (o_ldq S3 rfl (lx rfl) intc) ?_
  refine WPl.v rfl (o_fldp F91_1 rfl) ?_
  refine WPl.v rfl (o_fldp F23_0 rfl) ?_
  refine WPl.v rfl (o_ldp S3 rfl rfl rfl) ?_
  refine WPl.v rfl (o_fldp F91_1 rfl) ?_
  refine WPl.v rfl (o_fldp F23_1 rfl) ?_
  refine WPl.v rfl (o_ldp S3 rfl rfl rfl) ?_
  refine WPl.cs 3 rfl rfl rfl rfl (o_sig 3 id (c81 t o.tl o.th) e81 rfl rfl rfl w81 trivial r81) ?_
  refine WPl.v rfl (o_move rfl) ?_
  refine WPl.bit 3 4 (within t o.tl o.th) rfl rfl ?_
  refine WPl.gv 3 rfl rfl (.plain rfl Iff.rfl rfl) (fun hb => o_ldq S3 rfl (lx rfl) intc) ?_
  refine WPl.gv 3 rfl rfl (.plain rfl Iff.rfl rfl) (fun hb => o_fldp F91_2 rfl) ?_
  refine WPl.gv 3 rfl rfl (.plain rfl Iff.rfl rfl) (fun hb => o_fldp F23_0 rfl) ?_
  refine WPl.gv 3 rfl rfl (.plain rfl Iff.rfl rfl) (fun hb => o_ldp S3 rfl rfl rfl) ?_
  refine WPl.gv 3 rfl rfl (.plain rfl Iff.rfl rfl) (fun hb => o_fldp F91_2 rfl) ?_
  refine WPl.gv 3 rfl rfl (.plain rfl Iff.rfl rfl) (fun hb => o_fldp F23_1 rfl) ?_
  refine WPl.gv 3 rfl rfl (.plain rfl Iff.rfl rfl) (fun hb => o_ldp S3 rfl rfl rfl) ?_
  refine WPl.gc0 3 rfl rfl (.plain rfl Iff.rfl rfl) (fun hb => o_sig 4 id (c81 a o.al o.ah) e81 rfl rfl rfl w81 trivial r81) ?_
  refine WPl.v rfl (o_and rfl rfl rfl id) ?_
  refine WPl.v rfl (o_assign rfl) ?_
  refine WPl.nil ?_
  refine EX.then ?_
  refine WP.ret ?_
  exact EX.fin id (.inl rfl) rfl (.tmp rfl .nil) rfl r80 trivial (by simp) (by simp)
theorem w31 {s : Shop} : ∀ x ∈ ([.e (.g [ai (s.pounds), ai (s.tl), ai (s.th), ai (s.al), ai (s.ah), ai (s.room), ai (s.tpl), ai (s.tph), ai (s.apl), ai (s.aph), .q 0])] : List SV), x.res (keys (α := Pred) [(0, PL EPig (s.pigs))]) := by simp [SV.res, El.res, At.res, keys]
theorem r31 {s : Shop} : SV.res (keys (α := Pred) []) (.t [.g [ai (s.mKnown.1), ai (s.mKnown.2)], .a (ai (s.kE))]) := by simp [SV.res, El.res, At.res, keys]
set_option maxHeartbeats 4000000 in
theorem c31 (s : Shop) (hl : s.pigs.length ≤ 40) : Sig Try.prog 31 [.e (.g [ai (s.pounds), ai (s.tl), ai (s.th), ai (s.al), ai (s.ah), ai (s.room), ai (s.tpl), ai (s.tph), ai (s.apl), ai (s.aph), .q 0])] [(0, PL EPig (s.pigs))] (.t [.g [ai (s.mKnown.1), ai (s.mKnown.2)], .a (ai (s.kE))]) [] := by
  refine Sig.intro Try.func31 rfl 1 [(0, .e (.g [ai (s.pounds), ai (s.tl), ai (s.th), ai (s.al), ai (s.ah), ai (s.room), ai (s.tpl), ai (s.tph), ai (s.apl), ai (s.aph), .q 0]))] rfl w31 rfl rfl fun I w => ?_
  refine WP.seq ?_
  refine WP.region ?_
  refine WPl.l 1 2 rfl rfl rfl (o_boxg rfl) ?_
  refine WPl.l 2 3 rfl rfl rfl (o_alloc Z23) ?_
  refine WPl.v rfl (o_assign rfl) ?_
  refine WPl.nil ?_
  refine EX.then ?_
  refine WP.seq ?_
  refine WP.region ?_
  refine WPl.v rfl (o_ldpa G28 rfl rfl rfl) ?_
  refine WPl.cs 4 rfl rfl rfl rfl (o_sig 3 (ren [(0, 0)]) (c69N s hl) e69 rfl rfl rfl w69N ⟨(lx rfl), trivial⟩ r69N) ?_
  refine WPl.v rfl (o_move rfl) ?_
  refine WPl.v rfl (o_extract rfl rfl) ?_
  refine WPl.v rfl (o_extract rfl rfl) ?_
  refine WPl.l 4 5 rfl rfl rfl (o_alloc Z78) ?_
  refine WPl.s1 (o_stag G78 rfl rfl rfl ⟨rfl, rfl, rfl, rfl, rfl, rfl, rfl, rfl, rfl, rfl, (.inl ⟨_, (lx rfl), PL.one⟩), trivial⟩ rfl rfl) ?_
  refine WPl.v rfl (o_assign rfl) ?_
  refine WPl.nil ?_
  refine EX.then ?_
  refine WP.seq ?_
  refine WP.seq ?_
  refine WP.region ?_
  refine WPl.v rfl (o_move rfl) ?_
  refine WPl.v rfl (o_neq rfl rfl) ?_
  refine WPl.nil ?_
  refine EX.then ?_
  refine WP.cond rfl (fun hc1 => ?_) (fun hc1 => ?_)
  · try simp only [decide_eq_true_eq, decide_eq_false_iff_not, Bool.and_eq_true, Bool.or_eq_true, Bool.and_eq_false_iff, Bool.or_eq_false_iff, Bool.not_eq_true', Bool.not_eq_false', ne_eq, Decidable.not_not] at hc1
    have hs : s.chk = false := errM_ne.1 (by simpa using hc1)
    refine WP.seq ?_
    refine WP.region ?_
    refine WPl.v rfl (o_build B23 rfl trivial rfl rfl) ?_
    refine WPl.v rfl (o_move rfl) ?_
    refine WPl.s1 (o_stag G23 rfl rfl rfl ⟨rfl, rfl, trivial⟩ rfl rfl) ?_
    refine WPl.v rfl (o_assign rfl) ?_
    refine WPl.nil ?_
    refine EX.then ?_
    refine WP.ret ?_
    refine EX.ret_then ?_
    have hE : s.kE = errM s.chk := by unfold Shop.kE; rw [hs]; rfl
    rw [hE, show s.mKnown = (0, 0) from by unfold Shop.mKnown; rw [hE, hs]; rfl]
    exact EX.fin id (.inl rfl) rfl (.cellg G23 rfl rfl rfl (.tmp rfl .nil)) rfl (by simp [SV.res, El.res, At.res, keys]) trivial (by simp) (by simp)
  · try simp only [decide_eq_true_eq, decide_eq_false_iff_not, Bool.and_eq_true, Bool.or_eq_true, Bool.and_eq_false_iff, Bool.or_eq_false_iff, Bool.not_eq_true', Bool.not_eq_false', ne_eq, Decidable.not_not] at hc1
    have hs : s.chk = true := errM_eq.1 (by simpa using hc1)
    have hpg := Shop.pigsOK hs
    have htb := tl_bnd hs
    have hal := adL_len hpg
    have hnT : s.nT = (s.th - s.tl + 1).toNat := rfl
    have hnA : s.nA = (s.ah - s.al + 1).toNat := rfl
    refine WP.skip ?_
    refine EX.then ?_
    refine WP.seq ?_
    refine WP.region ?_
    refine WPl.v rfl (o_ldpa G78 rfl rfl rfl) ?_
    refine WPl.cs 6 rfl rfl rfl rfl (o_sig 5 (ren [(0, 3)]) (c78 s hs) e78 rfl rfl rfl w78 ⟨(lx rfl), trivial⟩ r78) ?_
    refine WPl.v rfl (o_assign rfl) ?_
    refine WPl.nil ?_
    refine EX.then ?_
    refine WP.seq ?_
    refine WP.region ?_
    refine WPl.v rfl (o_build B23 rfl ⟨rfl, trivial⟩ rfl rfl) ?_
    refine WPl.l 6 7 rfl rfl rfl (o_alloc Z23) ?_
    refine WPl.s1 (o_stag G23 rfl rfl rfl ⟨rfl, rfl, trivial⟩ rfl rfl) ?_
    refine WPl.nil ?_
    refine EX.then ?_
    refine WP.seq ?_
    refine WP.seq ?_
    refine WP.region ?_
    refine WPl.v rfl (o_fldp F78_0 rfl) ?_
    refine WPl.v rfl (o_fldp F28_0 rfl) ?_
    refine WPl.v rfl (o_fldp F25_1 rfl) ?_
    refine WPl.v rfl (o_fldp F23_0 rfl) ?_
    refine WPl.v rfl (o_ldp S3 rfl rfl rfl) ?_
    refine WPl.l 7 8 rfl rfl rfl (o_alloc Z3) ?_
    refine WPl.s1 (o_sta S3 rfl rfl rfl rfl rfl) ?_
    refine WPl.nil ?_
    refine EX.then ?_
    refine WP.block ?_
    refine WP.loop (Gh := Nat) (fun i => ⟨8, [(2, .e (.a (.p 2 (0)))), (3, .i (0)), (4, .e (.a (.p 4 (0)))), (6, .e (.a (.q 5))), (7, .e (.a (.p 6 (0)))), (8, .e (.a (.p 7 (0))))], [(3, PL EPig (s.pigs)), (5, PL EOf (s.offS))], [(2, .blk [ai (0), ai (0)] 23), (4, .blk [ai (s.pounds), ai (s.tl), ai (s.th), ai (s.al), ai (s.ah), ai (s.room), ai (s.tpl), ai (s.tph), ai (s.apl), ai (s.aph), .q 3] 78), (6, .blk [ai ((s.knOut i).1), ai ((s.knOut i).2)] 23), (7, .blk [ai ((s.tl + (i : Int)))] 3)], [], []⟩) (fun i => i ≤ s.nT ∧ allI s.knRow i = true) (fun i => s.nT - i) (0) id ?_ (LeR.of ⟨rfl, rfl, rfl, rfl, rfl, rfl, trivial⟩ ⟨(lx rfl), (lx rfl), trivial⟩ ⟨rfl, rfl, rfl, (congrArg (fun z => some (Ent.blk z 3)) (List.cons_eq_cons.2 ⟨(congrArg (fun z => ai z) (show (s.tl) = ((fun i => (s.tl + (i : Int))) 0) from by simp)), (Eq.refl [])⟩)), trivial⟩ rfl rfl rfl rfl rfl) ?_
    · exact ⟨Nat.zero_le _, rfl⟩
    intro i hφ
    obtain ⟨hiN, hall⟩ : i ≤ s.nT ∧ allI s.knRow i = true := hφ
    have hkb := knOut_bnd hs hall
    refine WP.seq ?_
    refine WP.seq ?_
    refine WP.region ?_
    refine WPl.v rfl (o_ldp S3 rfl rfl rfl) ?_
    refine WPl.v rfl (o_fldp F78_0 rfl) ?_
    refine WPl.v rfl (o_fldp F28_0 rfl) ?_
    refine WPl.v rfl (o_fldp F25_1 rfl) ?_
    refine WPl.v rfl (o_fldp F23_1 rfl) ?_
    refine WPl.v rfl (o_ldp S3 rfl rfl rfl) ?_
    refine WPl.v rfl (o_leq rfl rfl) ?_
    refine WPl.nil ?_
    refine EX.then ?_
    refine WP.cond rfl (fun hc2 => ?_) (fun hc2 => ?_)
    · try simp only [decide_eq_true_eq, decide_eq_false_iff_not, Bool.and_eq_true, Bool.or_eq_true, Bool.and_eq_false_iff, Bool.or_eq_false_iff, Bool.not_eq_true', Bool.not_eq_false', ne_eq, Decidable.not_not] at hc2
      refine WP.skip ?_
      refine EX.then ?_
      refine WP.seq ?_
      refine WP.block ?_
      refine WP.seq ?_
      refine WP.region ?_
      refine WPl.v rfl (o_fldp F78_0 rfl) ?_
      refine WPl.v rfl (o_fldp F28_0 rfl) ?_
      refine WPl.v rfl (o_fldp F25_2 rfl) ?_
      refine WPl.v rfl (o_fldp F23_0 rfl) ?_
      refine WPl.imp (Imp.frzb (E := EP.int) (y := (s.tl + (i : Int))) 7 8 9 rfl rfl (bok_int) rfl rfl rfl) ?_
      refine WPl.v rfl (o_ldp S3 rfl rfl rfl) ?_
      refine WPl.l 9 10 rfl rfl rfl (o_alloc Z3) ?_
      refine WPl.s1 (o_sta S3 rfl rfl rfl rfl rfl) ?_
      refine WPl.nil ?_
      refine EX.then ?_
      refine WP.block ?_
      refine WP.loop (Gh := Nat) (fun j => ⟨10, [(2, .e (.a (.p 2 (0)))), (3, .i (0)), (4, .e (.a (.p 4 (0)))), (6, .e (.a (.q 5))), (7, .e (.a (.p 6 (0)))), (8, .e (.a (.q 8))), (29, .i ((s.tl + (i : Int)))), (30, .e (.a (.p 4 (0)))), (31, .e (.a (.p 4 (0)))), (32, .e (.a (.p 4 (1)))), (33, .e (.a (.p 4 (2)))), (34, .i (s.th)), (35, .b (decide ((s.tl + (i : Int)) ≤ s.th))), (38, .e (.a (.p 4 (0)))), (39, .e (.a (.p 4 (0)))), (40, .e (.a (.p 4 (3)))), (41, .e (.a (.p 4 (3)))), (42, .i (s.al)), (9, .e (.a (.p 9 (0))))], [(3, PL EPig (s.pigs)), (5, PL EOf (s.offS)), (8, PP EP.int ((s.tl + (i : Int))))], [(2, .blk [ai (0), ai (0)] 23), (4, .blk [ai (s.pounds), ai (s.tl), ai (s.th), ai (s.al), ai (s.ah), ai (s.room), ai (s.tpl), ai (s.tph), ai (s.apl), ai (s.aph), .q 3] 78), (6, .blk [ai ((s.knIn i (s.knOut i) j).1), ai ((s.knIn i (s.knOut i) j).2)] 23), (9, .blk [ai ((s.al + (j : Int)))] 3)], [], []⟩) (fun j => j ≤ s.nA ∧ allI (s.hitAt i) j = true) (fun j => s.nA - j) (0) id ?_ (LeR.of ⟨rfl, rfl, rfl, rfl, rfl, rfl, rfl, rfl, rfl, rfl, rfl, rfl, rfl, rfl, rfl, rfl, rfl, rfl, rfl, trivial⟩ ⟨(lx rfl), (lx rfl), (lx rfl), trivial⟩ ⟨rfl, rfl, rfl, (congrArg (fun z => some (Ent.blk z 3)) (List.cons_eq_cons.2 ⟨(congrArg (fun z => ai z) (show (s.al) = ((fun j => (s.al + (j : Int))) 0) from by simp)), (Eq.refl [])⟩)), trivial⟩ rfl rfl rfl rfl rfl) ?_
      · exact ⟨Nat.zero_le _, rfl⟩
      intro j hφ
      obtain ⟨hjN, hrow⟩ : j ≤ s.nA ∧ allI (s.hitAt i) j = true := hφ
      have hkb2 := knIn_bnd hs hkb hrow
      refine WP.seq ?_
      refine WP.seq ?_
      refine WP.region ?_
      refine WPl.v rfl (o_ldp S3 rfl rfl rfl) ?_
      refine WPl.v rfl (o_fldp F78_0 rfl) ?_
      refine WPl.v rfl (o_fldp F28_0 rfl) ?_
      refine WPl.v rfl (o_fldp F25_2 rfl) ?_
      refine WPl.v rfl (o_fldp F23_1 rfl) ?_
      refine WPl.v rfl (o_ldp S3 rfl rfl rfl) ?_
      refine WPl.v rfl (o_leq rfl rfl) ?_
      refine WPl.nil ?_
      refine EX.then ?_
      refine WP.cond rfl (fun hc3 => ?_) (fun hc3 => ?_)
      · try simp only [decide_eq_true_eq, decide_eq_false_iff_not, Bool.and_eq_true, Bool.or_eq_true, Bool.and_eq_false_iff, Bool.or_eq_false_iff, Bool.not_eq_true', Bool.not_eq_false', ne_eq, Decidable.not_not] at hc3
        refine WP.skip ?_
        refine EX.then ?_
        refine WP.seq ?_
        refine WP.block ?_
        refine WP.seq ?_
        refine WP.region ?_
        refine WPl.v rfl (o_move rfl) ?_
        refine WPl.imp (Imp.frzb (E := EP.int) (y := (s.al + (j : Int))) 9 10 11 rfl rfl (bok_int) rfl rfl rfl) ?_
        refine WPl.x 11 12 rfl rfl rfl (o_mkfva (svs := fun (o : Offer) => [.e (.g [ai (o.pence), ai (o.tl), ai (o.th), ai (o.al), ai (o.ah)])]) (X0 := fun (o : Offer) => []) (sv := fun (o : Offer) => .b ((fun o => o.hit (s.tl + (i : Int)) (s.al + (j : Int))) o)) (X := fun (o : Offer) => []) (cs := [.e (.a (.q 0)), .e (.a (.q 1))]) (Xc := [(0, PP EP.int ((s.tl + (i : Int)))), (1, PP EP.int ((s.al + (j : Int))))]) 11 (ren [(0, 8), (1, 10)]) (fun (o : Offer) => (c80 o (s.tl + (i : Int)) (s.al + (j : Int)))) e80 (fun _ => rfl) rfl SvsOK.rf (fun _ => (by simp [SV.res, El.res, At.res, keys])) (by simp [SV.res, El.res, At.res, keys]) ⟨(lx rfl), (lx rfl), trivial⟩) ?_
        refine WPl.cs 12 rfl rfl rfl rfl (o_sig 12 (ren [(0, 5), (1, 11)]) (c79 s.offS (fun o => o.hit (s.tl + (i : Int)) (s.al + (j : Int))) (by rw [offS_len]; omega)) e79 rfl rfl rfl w79 ⟨(lx rfl), (lx rfl), trivial⟩ r79) ?_
        refine WPl.v rfl (o_assign rfl) ?_
        refine WPl.nil ?_
        refine EX.then ?_
        refine WP.seq ?_
        refine WP.seq ?_
        refine WP.region ?_
        have hix := idxF_bnd (fun o => o.hit (s.tl + (i : Int)) (s.al + (j : Int))) s.offS
        refine WPl.v rfl (o_move rfl) ?_
        refine WPl.v rfl (o_lss rfl rfl) ?_
        refine WPl.nil ?_
        refine EX.then ?_
        refine WP.cond rfl (fun hc4 => ?_) (fun hc4 => ?_)
        · try simp only [decide_eq_true_eq, decide_eq_false_iff_not, Bool.and_eq_true, Bool.or_eq_true, Bool.and_eq_false_iff, Bool.or_eq_false_iff, Bool.not_eq_true', Bool.not_eq_false', ne_eq, Decidable.not_not] at hc4
          refine WP.seq ?_
          refine WP.region ?_
          refine WPl.v rfl (o_build B23 rfl trivial rfl rfl) ?_
          refine WPl.s1 (o_stag G23 rfl rfl rfl ⟨rfl, rfl, trivial⟩ rfl rfl) ?_
          refine WPl.v rfl (o_assign rfl) ?_
          refine WPl.nil ?_
          refine EX.then ?_
          refine WP.ret ?_
          refine EX.ret_then ?_
          refine EX.ret_blk ?_
          refine EX.ret_then ?_
          refine EX.ret_then ?_
          refine EX.ret_blk ?_
          refine EX.ret_blk ?_
          refine EX.ret_then ?_
          refine EX.ret_then ?_
          refine EX.ret_blk ?_
          refine EX.ret_then ?_
          have hno : allI s.knRow s.nT = false := not_allI (show i < s.nT by omega) (not_allI (show j < s.nA by omega) (decide_eq_false (show ¬ 0 ≤ s.idxAt i j by unfold Shop.idxAt; omega)))
          have hE : s.kE = 3 := by unfold Shop.kE; rw [hs, if_pos rfl]; exact if_neg (by rw [hno]; simp)
          rw [hE, show s.mKnown = (0, 0) from by unfold Shop.mKnown; rw [hE]; rfl]
          exact EX.fin id (.inl rfl) rfl (.cellg G23 rfl rfl rfl (.tmp rfl .nil)) rfl (by simp [SV.res, El.res, At.res, keys]) trivial (by simp) (by simp)
        · try simp only [decide_eq_true_eq, decide_eq_false_iff_not, Bool.and_eq_true, Bool.or_eq_true, Bool.and_eq_false_iff, Bool.or_eq_false_iff, Bool.not_eq_true', Bool.not_eq_false', ne_eq, Decidable.not_not] at hc4
          refine WP.skip ?_
          refine EX.then ?_
          refine WP.seq ?_
          refine WP.region ?_
          refine WPl.v rfl (o_move rfl) ?_
          refine WPl.v rfl (o_move rfl) ?_
          have hhit : s.hitAt i j = true := decide_eq_true (show 0 ≤ s.idxAt i j by unfold Shop.idxAt; omega)
          have hpb := penAt_bnd hs hhit
          refine WPl.x 12 13 rfl rfl rfl (o_idx L87 rfl (lx rfl) rfl (by first | omega | (simp; omega)) (by first | omega | (simp; omega))) ?_
          refine WPl.v rfl (o_fldq F91_0 rfl (lx rfl)) ?_
          refine WPl.v rfl (o_lde S3 rfl (lx rfl) (strI rfl)) ?_
          refine WPl.v rfl (o_assign rfl) ?_
          refine WPl.nil ?_
          refine EX.then ?_
          refine WP.seq ?_
          refine WP.region ?_
          refine WPl.v rfl (o_fldp F23_0 rfl) ?_
          refine WPl.v rfl (o_ldp S3 rfl rfl rfl) ?_
          refine WPl.v rfl (o_lss rfl rfl) ?_
          refine WPl.nil ?_
          refine EX.then ?_
          refine WP.cond rfl (fun hc5 => ?_) (fun hc5 => ?_)
          · try simp only [decide_eq_true_eq, decide_eq_false_iff_not, Bool.and_eq_true, Bool.or_eq_true, Bool.and_eq_false_iff, Bool.or_eq_false_iff, Bool.not_eq_true', Bool.not_eq_false', ne_eq, Decidable.not_not] at hc5
            refine WP.region ?_
            refine WPl.v rfl (o_move rfl) ?_
            refine WPl.v rfl (o_move rfl) ?_
            refine WPl.v rfl (o_build B23 rfl ⟨rfl, rfl, trivial⟩ rfl rfl) ?_
            refine WPl.s1 (o_stag G23 rfl rfl rfl ⟨rfl, rfl, trivial⟩ rfl rfl) ?_
            refine WPl.nil ?_
            refine EX.blk ?_
            refine EX.then ?_
            refine WP.seq ?_
            refine WP.seq ?_
            refine WP.region ?_
            refine WPl.v rfl (o_ldq S3 rfl (lx rfl) intc) ?_
            refine WPl.nil ?_
            refine EX.then ?_
            refine WP.region ?_
            refine WPl.l 13 14 rfl rfl rfl (o_alloc Z3) ?_
            refine WPl.s1 (o_sta S3 rfl rfl rfl rfl rfl) ?_
            refine WPl.nil ?_
            refine EX.then ?_
            refine WP.region ?_
            refine WPl.v rfl (o_ldp S3 rfl rfl rfl) ?_
            refine WPl.v rfl (o_add rfl rfl (by first | omega | (simp; omega)) (by first | omega | (simp; omega))) ?_
            refine WPl.s1 (o_sta S3 rfl rfl rfl rfl rfl) ?_
            refine WPl.nil ?_
            refine EX.again (j + 1) (ren [(9, 13)]) (by exact ⟨by omega, by simp only [allI, hrow, Bool.true_and]; exact hhit⟩) (by omega) (LeR.of ⟨rfl, rfl, rfl, rfl, rfl, rfl, rfl, rfl, rfl, rfl, rfl, rfl, rfl, rfl, rfl, rfl, rfl, rfl, rfl, trivial⟩ ⟨(lx rfl), (lx rfl), (lx rfl), trivial⟩ ⟨rfl, rfl, (congrArg (fun z => some (Ent.blk z 23)) (List.cons_eq_cons.2 ⟨(congrArg (fun z => ai z) (show ((nth s.offS (idxF (fun o => o.hit (s.tl + (i : Int)) (s.al + (j : Int))) s.offS)).pence) = ((fun j => (s.knIn i (s.knOut i) j).1) (j + 1)) from by simp only [Shop.knIn, stepK]; first | (rw [if_pos hc5]; done) | (rw [if_pos hc5]; rfl) | (rw [if_neg hc5]; done) | (rw [if_neg hc5]; rfl))), (List.cons_eq_cons.2 ⟨(congrArg (fun z => ai z) (show ((nth s.offS (idxF (fun o => o.hit (s.tl + (i : Int)) (s.al + (j : Int))) s.offS)).pence) = ((fun j => (s.knIn i (s.knOut i) j).2) (j + 1)) from by simp only [Shop.knIn, stepK]; first | (rw [if_pos hc5]; done) | (rw [if_pos hc5]; rfl) | (rw [if_neg hc5]; done) | (rw [if_neg hc5]; rfl))), (Eq.refl [])⟩)⟩)), (congrArg (fun z => some (Ent.blk z 3)) (List.cons_eq_cons.2 ⟨(congrArg (fun z => ai z) (show ((s.al + (j : Int)) + 1) = ((fun j => (s.al + (j : Int))) (j + 1)) from by show s.al + (j : Int) + 1 = s.al + ((j + 1 : Nat) : Int); omega)), (Eq.refl [])⟩)), trivial⟩ rfl rfl rfl rfl rfl)
          · try simp only [decide_eq_true_eq, decide_eq_false_iff_not, Bool.and_eq_true, Bool.or_eq_true, Bool.and_eq_false_iff, Bool.or_eq_false_iff, Bool.not_eq_true', Bool.not_eq_false', ne_eq, Decidable.not_not] at hc5
            refine WP.region ?_
            refine WPl.v rfl (o_fldp F23_0 rfl) ?_
            refine WPl.v rfl (o_ldp S3 rfl rfl rfl) ?_
            refine WPl.v rfl (o_move rfl) ?_
            refine WPl.v rfl (o_min rfl rfl) ?_
            refine WPl.v rfl (o_fldp F23_1 rfl) ?_
            refine WPl.v rfl (o_ldp S3 rfl rfl rfl) ?_
            refine WPl.v rfl (o_move rfl) ?_
            refine WPl.v rfl (o_max rfl rfl) ?_
            refine WPl.v rfl (o_build B23 rfl ⟨rfl, rfl, trivial⟩ rfl rfl) ?_
            refine WPl.s1 (o_stag G23 rfl rfl rfl ⟨rfl, rfl, trivial⟩ rfl rfl) ?_
            refine WPl.nil ?_
            refine EX.blk ?_
            refine EX.then ?_
            refine WP.seq ?_
            refine WP.seq ?_
            refine WP.region ?_
            refine WPl.v rfl (o_ldq S3 rfl (lx rfl) intc) ?_
            refine WPl.nil ?_
            refine EX.then ?_
            refine WP.region ?_
            refine WPl.l 13 14 rfl rfl rfl (o_alloc Z3) ?_
            refine WPl.s1 (o_sta S3 rfl rfl rfl rfl rfl) ?_
            refine WPl.nil ?_
            refine EX.then ?_
            refine WP.region ?_
            refine WPl.v rfl (o_ldp S3 rfl rfl rfl) ?_
            refine WPl.v rfl (o_add rfl rfl (by first | omega | (simp; omega)) (by first | omega | (simp; omega))) ?_
            refine WPl.s1 (o_sta S3 rfl rfl rfl rfl rfl) ?_
            refine WPl.nil ?_
            refine EX.again (j + 1) (ren [(9, 13)]) (by exact ⟨by omega, by simp only [allI, hrow, Bool.true_and]; exact hhit⟩) (by omega) (LeR.of ⟨rfl, rfl, rfl, rfl, rfl, rfl, rfl, rfl, rfl, rfl, rfl, rfl, rfl, rfl, rfl, rfl, rfl, rfl, rfl, trivial⟩ ⟨(lx rfl), (lx rfl), (lx rfl), trivial⟩ ⟨rfl, rfl, (congrArg (fun z => some (Ent.blk z 23)) (List.cons_eq_cons.2 ⟨(congrArg (fun z => ai z) (show (min ((s.knIn i (s.knOut i) j).1) ((nth s.offS (idxF (fun o => o.hit (s.tl + (i : Int)) (s.al + (j : Int))) s.offS)).pence)) = ((fun j => (s.knIn i (s.knOut i) j).1) (j + 1)) from by simp only [Shop.knIn, stepK]; first | (rw [if_pos hc5]; done) | (rw [if_pos hc5]; rfl) | (rw [if_neg hc5]; done) | (rw [if_neg hc5]; rfl))), (List.cons_eq_cons.2 ⟨(congrArg (fun z => ai z) (show (max ((s.knIn i (s.knOut i) j).2) ((nth s.offS (idxF (fun o => o.hit (s.tl + (i : Int)) (s.al + (j : Int))) s.offS)).pence)) = ((fun j => (s.knIn i (s.knOut i) j).2) (j + 1)) from by simp only [Shop.knIn, stepK]; first | (rw [if_pos hc5]; done) | (rw [if_pos hc5]; rfl) | (rw [if_neg hc5]; done) | (rw [if_neg hc5]; rfl))), (Eq.refl [])⟩)⟩)), (congrArg (fun z => some (Ent.blk z 3)) (List.cons_eq_cons.2 ⟨(congrArg (fun z => ai z) (show ((s.al + (j : Int)) + 1) = ((fun j => (s.al + (j : Int))) (j + 1)) from by show s.al + (j : Int) + 1 = s.al + ((j + 1 : Nat) : Int); omega)), (Eq.refl [])⟩)), trivial⟩ rfl rfl rfl rfl rfl)
      · try simp only [decide_eq_true_eq, decide_eq_false_iff_not, Bool.and_eq_true, Bool.or_eq_true, Bool.and_eq_false_iff, Bool.or_eq_false_iff, Bool.not_eq_true', Bool.not_eq_false', ne_eq, Decidable.not_not] at hc3
        refine WP.exit ?_
        refine EX.exit_then ?_
        refine EX.exit_then ?_
        refine EX.exit_blk ?_
        refine EX.blk ?_
        refine EX.then ?_
        refine WP.seq ?_
        refine WP.seq ?_
        refine WP.region ?_
        refine WPl.v rfl (o_ldq S3 rfl (lx rfl) intc) ?_
        refine WPl.nil ?_
        refine EX.then ?_
        refine WP.region ?_
        refine WPl.l 10 11 rfl rfl rfl (o_alloc Z3) ?_
        refine WPl.s1 (o_sta S3 rfl rfl rfl rfl rfl) ?_
        refine WPl.nil ?_
        refine EX.then ?_
        refine WP.region ?_
        refine WPl.v rfl (o_ldp S3 rfl rfl rfl) ?_
        refine WPl.v rfl (o_add rfl rfl (by first | omega | (simp; omega)) (by first | omega | (simp; omega))) ?_
        refine WPl.s1 (o_sta S3 rfl rfl rfl rfl rfl) ?_
        refine WPl.nil ?_
        have hje : j = s.nA := by omega
        subst hje
        refine EX.again (i + 1) (ren [(7, 10)]) (by exact ⟨by omega, by simp only [allI, hall, Bool.true_and]; exact hrow⟩) (by omega) (LeR.of ⟨rfl, rfl, rfl, rfl, rfl, rfl, trivial⟩ ⟨(lx rfl), (lx rfl), trivial⟩ ⟨rfl, rfl, rfl, (congrArg (fun z => some (Ent.blk z 3)) (List.cons_eq_cons.2 ⟨(congrArg (fun z => ai z) (show ((s.tl + (i : Int)) + 1) = ((fun i => (s.tl + (i : Int))) (i + 1)) from by show s.tl + (i : Int) + 1 = s.tl + ((i + 1 : Nat) : Int); omega)), (Eq.refl [])⟩)), trivial⟩ rfl rfl rfl rfl rfl)
    · try simp only [decide_eq_true_eq, decide_eq_false_iff_not, Bool.and_eq_true, Bool.or_eq_true, Bool.and_eq_false_iff, Bool.or_eq_false_iff, Bool.not_eq_true', Bool.not_eq_false', ne_eq, Decidable.not_not] at hc2
      refine WP.exit ?_
      refine EX.exit_then ?_
      refine EX.exit_then ?_
      refine EX.exit_blk ?_
      refine EX.then ?_
      refine WP.seq ?_
      refine WP.region ?_
      refine WPl.v rfl (o_ldpa G23 rfl rfl rfl) ?_
      refine WPl.s1 (o_stag G23 rfl rfl rfl ⟨rfl, rfl, trivial⟩ rfl rfl) ?_
      refine WPl.v rfl (o_assign rfl) ?_
      refine WPl.nil ?_
      refine EX.then ?_
      refine WP.ret ?_
      have hie : i = s.nT := by omega
      subst hie
      have hE : s.kE = 0 := by unfold Shop.kE; rw [hs, if_pos rfl]; exact if_pos hall
      rw [hE, show s.mKnown = s.knOut s.nT from by unfold Shop.mKnown; rw [hE]; rfl]
      exact EX.fin id (.inl rfl) rfl (.cellg G23 rfl rfl rfl (.tmp rfl .nil)) rfl (by simp [SV.res, El.res, At.res, keys]) trivial (by simp) (by simp)
theorem w32 {s : Shop} : ∀ x ∈ ([.e (.g [ai (s.pounds), ai (s.tl), ai (s.th), ai (s.al), ai (s.ah), ai (s.room), ai (s.tpl), ai (s.tph), ai (s.apl), ai (s.aph), .q 0])] : List SV), x.res (keys (α := Pred) [(0, PL EPig (s.pigs))]) := by simp [SV.res, El.res, At.res, keys]
theorem r32 {s : Shop} : SV.res (keys (α := Pred) []) (.t [.a (ai (s.mWorth)), .a (ai (s.wE))]) := by simp [SV.res, El.res, At.res, keys]
set_option maxHeartbeats 4000000 in
theorem c32 (s : Shop) (hl : s.pigs.length ≤ 40) : Sig Try.prog 32 [.e (.g [ai (s.pounds), ai (s.tl), ai (s.th), ai (s.al), ai (s.ah), ai (s.room), ai (s.tpl), ai (s.tph), ai (s.apl), ai (s.aph), .q 0])] [(0, PL EPig (s.pigs))] (.t [.a (ai (s.mWorth)), .a (ai (s.wE))]) [] := by
  have hcb := mCheap_bnd s
  have hkb := mKnown_bnd s
  refine Sig.intro Try.func32 rfl 1 [(0, .e (.g [ai (s.pounds), ai (s.tl), ai (s.th), ai (s.al), ai (s.ah), ai (s.room), ai (s.tpl), ai (s.tph), ai (s.apl), ai (s.aph), .q 0]))] rfl w32 rfl rfl fun I w => ?_
  refine WP.seq ?_
  refine WP.region ?_
  refine WPl.l 1 2 rfl rfl rfl (o_boxg rfl) ?_
  refine WPl.v rfl (o_assign rfl) ?_
  refine WPl.v rfl (o_assign rfl) ?_
  refine WPl.nil ?_
  refine EX.then ?_
  refine WP.seq ?_
  refine WP.region ?_
  refine WPl.v rfl (o_ldpa G28 rfl rfl rfl) ?_
  refine WPl.cs 2 rfl rfl rfl rfl (o_sig 2 (ren [(0, 0)]) (c58 s (by omega)) e58 rfl rfl rfl w58 ⟨(lx rfl), trivial⟩ r58) ?_
  refine WPl.v rfl (o_move rfl) ?_
  refine WPl.v rfl (o_extract rfl rfl) ?_
  refine WPl.v rfl (o_extract rfl rfl) ?_
  refine WPl.v rfl (o_assign rfl) ?_
  refine WPl.v rfl (o_assign rfl) ?_
  refine WPl.nil ?_
  refine EX.then ?_
  refine WP.seq ?_
  refine WP.seq ?_
  refine WP.region ?_
  refine WPl.v rfl (o_move rfl) ?_
  refine WPl.v rfl (o_neq rfl rfl) ?_
  refine WPl.nil ?_
  refine EX.then ?_
  refine WP.cond rfl (fun hc1 => ?_) (fun hc1 => ?_)
  · try simp only [decide_eq_true_eq, decide_eq_false_iff_not, Bool.and_eq_true, Bool.or_eq_true, Bool.and_eq_false_iff, Bool.or_eq_false_iff, Bool.not_eq_true', Bool.not_eq_false', ne_eq, Decidable.not_not] at hc1
    refine WP.seq ?_
    refine WP.region ?_
    refine WPl.v rfl (o_move rfl) ?_
    refine WPl.v rfl (o_assign rfl) ?_
    refine WPl.v rfl (o_assign rfl) ?_
    refine WPl.nil ?_
    refine EX.then ?_
    refine WP.ret ?_
    refine EX.ret_then ?_
    have hW : s.wE = s.mE (priceG s) := if_neg (by simpa using hc1)
    rw [hW, show s.mWorth = 0 from by unfold Shop.mWorth; rw [hW]; exact if_neg (by simpa using hc1)]
    exact EX.fin id (.inl rfl) rfl (.tmp rfl (.tmp rfl .nil)) rfl (by simp [SV.res, El.res, At.res, keys]) trivial (by simp) (by simp)
  · try simp only [decide_eq_true_eq, decide_eq_false_iff_not, Bool.and_eq_true, Bool.or_eq_true, Bool.and_eq_false_iff, Bool.or_eq_false_iff, Bool.not_eq_true', Bool.not_eq_false', ne_eq, Decidable.not_not] at hc1
    refine WP.skip ?_
    refine EX.then ?_
    refine WP.seq ?_
    refine WP.region ?_
    refine WPl.v rfl (o_ldpa G28 rfl rfl rfl) ?_
    refine WPl.cs 2 rfl rfl rfl rfl (o_sig 2 (ren [(0, 0)]) (c31 s (by omega)) e31 rfl rfl rfl w31 ⟨(lx rfl), trivial⟩ r31) ?_
    refine WPl.v rfl (o_move rfl) ?_
    refine WPl.v rfl (o_extract rfl rfl) ?_
    refine WPl.v rfl (o_extract rfl rfl) ?_
    refine WPl.l 2 3 rfl rfl rfl (o_alloc Z23) ?_
    refine WPl.s1 (o_stag G23 rfl rfl rfl ⟨rfl, rfl, trivial⟩ rfl rfl) ?_
    refine WPl.v rfl (o_assign rfl) ?_
    refine WPl.nil ?_
    refine EX.then ?_
    refine WP.seq ?_
    refine WP.seq ?_
    refine WP.region ?_
    refine WPl.v rfl (o_move rfl) ?_
    refine WPl.v rfl (o_neq rfl rfl) ?_
    refine WPl.nil ?_
    refine EX.then ?_
    refine WP.cond rfl (fun hc2 => ?_) (fun hc2 => ?_)
    · try simp only [decide_eq_true_eq, decide_eq_false_iff_not, Bool.and_eq_true, Bool.or_eq_true, Bool.and_eq_false_iff, Bool.or_eq_false_iff, Bool.not_eq_true', Bool.not_eq_false', ne_eq, Decidable.not_not] at hc2
      refine WP.seq ?_
      refine WP.region ?_
      refine WPl.v rfl (o_move rfl) ?_
      refine WPl.v rfl (o_assign rfl) ?_
      refine WPl.v rfl (o_assign rfl) ?_
      refine WPl.nil ?_
      refine EX.then ?_
      refine WP.ret ?_
      refine EX.ret_then ?_
      have hW : s.wE = s.kE := if_pos (by simpa using hc1)
      rw [hW, show s.mWorth = 0 from by unfold Shop.mWorth; rw [hW]; exact if_neg (by simpa using hc2)]
      exact EX.fin id (.inl rfl) rfl (.tmp rfl (.tmp rfl .nil)) rfl (by simp [SV.res, El.res, At.res, keys]) trivial (by simp) (by simp)
    · try simp only [decide_eq_true_eq, decide_eq_false_iff_not, Bool.and_eq_true, Bool.or_eq_true, Bool.and_eq_false_iff, Bool.or_eq_false_iff, Bool.not_eq_true', Bool.not_eq_false', ne_eq, Decidable.not_not] at hc2
      refine WP.skip ?_
      refine EX.then ?_
      refine WP.seq ?_
      refine WP.region ?_
      refine WPl.v rfl (o_move rfl) ?_
      refine WPl.v rfl (o_fldp F23_1 rfl) ?_
      refine WPl.v rfl (o_ldp S3 rfl rfl rfl) ?_
      refine WPl.v rfl (o_sub rfl rfl (by first | omega | (simp; omega)) (by first | omega | (simp; omega))) ?_
      refine WPl.v rfl (o_assign rfl) ?_
      refine WPl.v rfl (o_assign rfl) ?_
      refine WPl.nil ?_
      refine EX.then ?_
      refine WP.ret ?_
      have hW : s.wE = 0 := (if_pos (by simpa using hc1)).trans (by simpa using hc2)
      rw [hW, show s.mWorth = s.mCheap - s.mKnown.2 from if_pos hW]
      exact EX.fin id (.inl rfl) rfl (.tmp rfl (.tmp rfl .nil)) rfl (by simp [SV.res, El.res, At.res, keys]) trivial (by simp) (by simp)
end Go.Flong
namespace Go.Flong
open Go Go.Eng Go.Proofs
theorem Q3 : FlatT Try.prog 3 1 1 false := .int Try.underlying3 S3
theorem M99 : MapT Try.prog 99 1 1 false := .int Try.underlying99 Try.underlying3 S3 Try.zeroValue3
theorem Z99 : Zero Try.prog 99 [.v (.map none)] := .mk Try.zeroValue99 rfl rfl
theorem S99 : TyS Try.prog 99 := ⟨Try.isAgg99, Try.sizeOf99⟩
theorem w56 {s : Shop} : ∀ x ∈ ([.e (.g [ai (s.pounds), ai (s.tl), ai (s.th), ai (s.al), ai (s.ah), ai (s.room), ai (s.tpl), ai (s.tph), ai (s.apl), ai (s.aph), .q 0])] : List SV), x.res (keys (α := Pred) [(0, PL EPig (s.pigs))]) := by simp [SV.res, El.res, At.res, keys]
theorem r56 {s : Shop} : SV.res (keys (α := Pred) [(0, PL EP.int (s.mShort))]) (.t [.a (.q 0), .a (ai (errM s.chk))]) := by simp [SV.res, El.res, At.res, keys]
set_option maxHeartbeats 4000000 in
theorem c56 (s : Shop) (hl : s.pigs.length ≤ 40) : Sig Try.prog 56 [.e (.g [ai (s.pounds), ai (s.tl), ai (s.th), ai (s.al), ai (s.ah), ai (s.room), ai (s.tpl), ai (s.tph), ai (s.apl), ai (s.aph), .q 0])] [(0, PL EPig (s.pigs))] (.t [.a (.q 0), .a (ai (errM s.chk))]) [(0, PL EP.int (s.mShort))] := by
  refine Sig.intro Try.func56 rfl 1 [(0, .e (.g [ai (s.pounds), ai (s.tl), ai (s.th), ai (s.al), ai (s.ah), ai (s.room), ai (s.tpl), ai (s.tph), ai (s.apl), ai (s.aph), .q 0]))] rfl w56 rfl rfl fun I w => ?_
  refine WP.seq ?_
  refine WP.region ?_
  refine WPl.l 1 2 rfl rfl rfl (o_boxg rfl) ?_
  refine WPl.v rfl (o_assign rfl) ?_
  refine WPl.v rfl (o_assign rfl) ?_
  refine WPl.nil ?_
  refine EX.then ?_
  refine WP.seq ?_
  refine WP.region ?_
  refine WPl.v rfl (o_ldpa G28 rfl rfl rfl) ?_
  refine WPl.cs 3 rfl rfl rfl rfl (o_sig 2 (ren [(0, 0)]) (c69N s hl) e69 rfl rfl rfl w69N ⟨(lx rfl), trivial⟩ r69N) ?_
  refine WPl.v rfl (o_move rfl) ?_
  refine WPl.v rfl (o_extract rfl rfl) ?_
  refine WPl.v rfl (o_extract rfl rfl) ?_
  refine WPl.l 3 4 rfl rfl rfl (o_alloc Z78) ?_
  refine WPl.s1 (o_stag G78 rfl rfl rfl ⟨rfl, rfl, rfl, rfl, rfl, rfl, rfl, rfl, rfl, rfl, (.inl ⟨_, (lx rfl), PL.one⟩), trivial⟩ rfl rfl) ?_
  refine WPl.v rfl (o_assign rfl) ?_
  refine WPl.nil ?_
  refine EX.then ?_
  refine WP.seq ?_
  refine WP.seq ?_
  refine WP.region ?_
  refine WPl.v rfl (o_move rfl) ?_
  refine WPl.v rfl (o_neq rfl rfl) ?_
  refine WPl.nil ?_
  refine EX.then ?_
  refine WP.cond rfl (fun hc1 => ?_) (fun hc1 => ?_)
  · try simp only [decide_eq_true_eq, decide_eq_false_iff_not, Bool.and_eq_true, Bool.or_eq_true, Bool.and_eq_false_iff, Bool.or_eq_false_iff, Bool.not_eq_true', Bool.not_eq_false', ne_eq, Decidable.not_not] at hc1
    have hs : s.chk = false := errM_ne.1 (by simpa using hc1)
    refine WP.seq ?_
    refine WP.region ?_
    refine WPl.v rfl (o_move rfl) ?_
    refine WPl.v rfl (o_assign rfl) ?_
    refine WPl.v rfl (o_assign rfl) ?_
    refine WPl.nil ?_
    refine EX.then ?_
    refine WP.ret ?_
    refine EX.ret_then ?_
    refine EX.imp (Imp.nam 4 5 (.slice none 0 0) (R := PN EP.int) pn_ok rfl rfl) ?_
    refine EX.imp (Imp.swF 2 4 rfl (lxr rfl)) ?_
    rw [show s.mShort = [] from by unfold Shop.mShort; rw [hs]; rfl]
    exact EX.fin (ren [(0, 4)]) (.inl rfl) rfl (.tmp rfl (.tmp rfl .nil)) rfl (by simp [SV.res, El.res, At.res, keys]) ⟨lxl rfl, trivial⟩ (by simp) (by simp)
  · try simp only [decide_eq_true_eq, decide_eq_false_iff_not, Bool.and_eq_true, Bool.or_eq_true, Bool.and_eq_false_iff, Bool.or_eq_false_iff, Bool.not_eq_true', Bool.not_eq_false', ne_eq, Decidable.not_not] at hc1
    have hs : s.chk = true := errM_eq.1 (by simpa using hc1)
    have hpg := Shop.pigsOK hs
    have hal := adL_len hpg
    refine WP.skip ?_
    refine EX.then ?_
    refine WP.seq ?_
    refine WP.region ?_
    refine WPl.mkmap false 1 4 5 rfl rfl rfl fun b19 => ?_
    refine WPl.l 5 6 rfl rfl rfl (o_alloc Z99) ?_
    refine WPl.s1 (o_sta S99 rfl rfl rfl rfl rfl) ?_
    refine WPl.nil ?_
    refine EX.then ?_
    refine WP.seq ?_
    refine WP.seq ?_
    refine WP.region ?_
    refine WPl.v rfl (o_ldpa G78 rfl rfl rfl) ?_
    refine WPl.x 6 7 rfl rfl rfl (o_mkbit 6 (ren [(0, 2)]) (c95 s hs) e95 rfl SvsOK.rf w95 ⟨(lx rfl), trivial⟩) ?_
    refine WPl.nil ?_
    refine EX.then ?_
    refine WP.block ?_
    refine WP.leR (S' := ⟨7, [(2, .e (.a (.v (.slice none 0 0)))), (3, .i (0)), (4, .e (.a (.p 3 (0)))), (6, .e (.a (.p 5 (0)))), (21, .e (.a (.q 6)))], [(2, PL EPig (s.pigs)), (6, ItQ Try.prog s.adItems)], [(3, .blk [ai (s.pounds), ai (s.tl), ai (s.th), ai (s.al), ai (s.ah), ai (s.room), ai (s.tpl), ai (s.tph), ai (s.apl), ai (s.aph), .q 2] 78), (4, .ext (mapXP false 1 b19 ([]))), (5, .blk [.v (.map (some b19))] 99)], [], []⟩) id (LeR.of ⟨rfl, rfl, rfl, rfl, rfl, trivial⟩ ⟨(lx rfl), (lx rfl), trivial⟩ ⟨rfl, rfl, rfl, trivial⟩ rfl rfl rfl rfl rfl) ?_
    refine WP.rangeV 9 1 (s.adL.length) (fun i => ⟨[.e (.a (.q 0))], [(0, PL EP.int ((nth s.adL (i : Int))))], []⟩) (fun i => ⟨9, [(2, .e (.a (.v (.slice none 0 0)))), (3, .i (0)), (4, .e (.a (.p 3 (0)))), (6, .e (.a (.p 5 (0)))), (21, .e (.a (.q 6)))], [(2, PL EPig (s.pigs)), (6, ItQ Try.prog s.adItems)], [(3, .blk [ai (s.pounds), ai (s.tl), ai (s.th), ai (s.al), ai (s.ah), ai (s.room), ai (s.tpl), ai (s.tph), ai (s.apl), ai (s.aph), .q 2] 78), (4, .ext (mapXP false 1 b19 (s.keptTo i))), (5, .blk [.v (.map (some b19))] 99), (7, .ob (.deferred (some [])))], [7], []⟩) (fun _ _ => False) rfl  rfl (ItQ.hit (lx rfl)) (rfl) (fun _ => RSt.of1 4 rfl rfl rfl rfl rfl rfl mapXP.plain rfl) (fun _ _ h => h.elim) rfl rfl rfl (fun _ _ => ItemOK.of rfl) rfl rfl id (LeR.of ⟨rfl, rfl, rfl, rfl, rfl, trivial⟩ ⟨(lx rfl), (lx rfl), trivial⟩ ⟨rfl, rfl, rfl, rfl, trivial⟩ rfl rfl rfl rfl rfl) ?_ ?_ ?_
    · intro i hi w1 E1 I1 R1 pβ1 pν1 us1
      have hx := isAddB hpg (adL_at hi)
      refine WP.region ?_
      refine WPl.l 10 11 rfl rfl rfl (o_alloc Z29) ?_
      refine WPl.s1 (o_sta S29 rfl rfl rfl (.inl ⟨_, (lx rfl), PL.one⟩) rfl) ?_
      refine WPl.nil ?_
      refine EX.beg rfl ?_
      refine WP.block ?_
      refine WP.block ?_
      refine WP.leR (S' := ⟨11, [(2, .e (.a (.v (.slice none 0 0)))), (3, .i (0)), (4, .e (.a (.p 3 (0)))), (6, .e (.a (.p 5 (0)))), (21, .e (.a (.q 6))), (22, .e (.a (.q 9))), (7, .e (.a (.p 10 (0))))], [(2, PL EPig (s.pigs)), (6, ItQ Try.prog s.adItems), (9, PL EP.int ((nth s.adL (i : Int))))], [(3, .blk [ai (s.pounds), ai (s.tl), ai (s.th), ai (s.al), ai (s.ah), ai (s.room), ai (s.tpl), ai (s.tph), ai (s.apl), ai (s.aph), .q 2] 78), (4, .ext (mapXP false 1 b19 (s.keptTo i))), (5, .blk [.v (.map (some b19))] 99), (7, .ob (.deferred (some []))), (8, .ob (.loop { R1 with state := .busy })), (10, .blk [.q 9] 29)], [], []⟩) id (LeR.of ⟨rfl, rfl, rfl, rfl, rfl, rfl, rfl, trivial⟩ ⟨(lx rfl), (lx rfl), (lx rfl), trivial⟩ ⟨rfl, rfl, rfl, rfl, rfl, rfl, trivial⟩ rfl rfl rfl rfl rfl) ?_
      refine WP.rangeV2 8 13 0 (4) (fun g => ⟨[.i ((g : Int) + 1)], [], []⟩) (fun g => ⟨13, [(2, .e (.a (.v (.slice none 0 0)))), (3, .i (0)), (4, .e (.a (.p 3 (0)))), (6, .e (.a (.p 5 (0)))), (21, .e (.a (.q 6))), (22, .e (.a (.q 9))), (7, .e (.a (.p 10 (0))))], [(2, PL EPig (s.pigs)), (6, ItQ Try.prog s.adItems), (9, PL EP.int ((nth s.adL (i : Int))))], [(3, .blk [ai (s.pounds), ai (s.tl), ai (s.th), ai (s.al), ai (s.ah), ai (s.room), ai (s.tpl), ai (s.tph), ai (s.apl), ai (s.aph), .q 2] 78), (4, .ext (mapXP false 1 b19 (s.keptIn (nth s.adL (i : Int)) (s.keptTo i) g))), (5, .blk [.v (.map (some b19))] 99), (7, .ob (.deferred (some []))), (8, .ob (.loop { R1 with state := .busy })), (10, .blk [.q 9] 29)], [], []⟩) (fun _ _ => False) rfl (fv := .e (.a (.f 72 []))) rfl rfl rfl rfl (SigI.hit c72 e72) (rfl) (fun _ => RSt.of1 4 rfl rfl rfl rfl rfl rfl mapXP.plain rfl) (fun _ _ h => h.elim) rfl rfl rfl (fun _ _ => ItemOK.of rfl) rfl rfl id (LeR.of ⟨rfl, rfl, rfl, rfl, rfl, rfl, rfl, trivial⟩ ⟨(lx rfl), (lx rfl), (lx rfl), trivial⟩ ⟨rfl, rfl, rfl, rfl, rfl, rfl, trivial⟩ rfl rfl rfl rfl rfl) ?_ ?_ ?_
      · intro g hg w2 E2 I2 R2 pβ2 pν2 us2
        refine WP.region ?_
        refine WPl.v rfl (o_assign rfl) ?_
        refine WPl.nil ?_
        refine EX.beg rfl ?_
        refine WP.block ?_
        refine WP.seq ?_
        refine WP.draw (nf := 13) [⟨[25, 26, 27, 28], [], [], [], []⟩, ⟨[24, 26, 28], [], [], [], []⟩, ⟨[24, 25, 28], [], [], [], []⟩, ⟨[24, 28], [], [], [], [1, 2]⟩, ⟨[24, 25, 26, 27], [], [], [], []⟩, ⟨[], [], [], [], [0, 1, 2, 3, 4]⟩, ⟨[], [], [], [], [0, 1, 2, 3, 4, 5]⟩] (by kernel_rfl) (by kernel_rfl) ?_
        refine DRQ.v rfl rfl rfl (o_ldpa G78 rfl rfl rfl) ?_
        refine DRQ.v rfl rfl rfl (o_ldpa G78 rfl rfl rfl) ?_
        refine DRQ.v rfl rfl rfl (o_ldp S29 rfl rfl rfl) ?_
        refine DRQ.cs rfl rfl rfl rfl (o_sig 13 (ren [(0, 2), (1, 9)]) (c74 s (nth s.adL (i : Int)) hs (by omega) hx.2.2) e74 rfl rfl rfl w74 ⟨(lx rfl), (lx rfl), trivial⟩ r74) ?_
        refine DRQ.v rfl rfl rfl (o_move rfl) ?_
        refine DRQ.cs rfl rfl rfl rfl (o_sig 13 (ren [(0, 2)]) (c73 s (s.aft (nth s.adL (i : Int))) ((g : Int) + 1) hs (aft_bnd hs (by omega) hx.2.2)) e73 rfl rfl rfl w73 ⟨(lx rfl), trivial⟩ r73) ?_
        refine DRQ.v rfl rfl rfl (o_not rfl) ?_
        refine DRQ.nil' ?_
        refine EX.then ?_
        refine WP.cond rfl (fun hc2 => ?_) (fun hc2 => ?_)
        · try simp only [decide_eq_true_eq, decide_eq_false_iff_not, Bool.and_eq_true, Bool.or_eq_true, Bool.and_eq_false_iff, Bool.or_eq_false_iff, Bool.not_eq_true', Bool.not_eq_false', ne_eq, Decidable.not_not] at hc2
          refine WP.region ?_
          refine WPl.v rfl (o_ldp S99 rfl rfl rfl) ?_
          refine WPl.v rfl (o_move rfl) ?_
          refine WPl.v rfl (o_look (km := 4) (a := [(g : Int) + 1]) M99 rfl rfl isKey.i rfl rfl) ?_
          have hkb := keptIn_bnd s i g (c := (g : Int) + 1) (by omega) (by omega)
          refine WPl.v rfl (o_add rfl rfl (by first | omega | (simp; omega)) (by first | omega | (simp; omega))) ?_
          refine WPl.s1 (o_mapup (km := 4) (a := [(g : Int) + 1]) M99 rfl rfl isKey.i rfl rfl rfl) ?_
          refine WPl.nil ?_
          refine EX.blk ?_
          exact EX.next id (LeR.of trivial ⟨(lx rfl), (lx rfl), (lx rfl), trivial⟩ ⟨rfl, rfl, (congrArg (fun z => some (Ent.ext (mapXP false 1 b19 z))) (show (mset (s.keptIn (nth s.adL (i : Int)) (s.keptTo i) g) [(g : Int) + 1] (((mget (s.keptIn (nth s.adL (i : Int)) (s.keptTo i) g) [(g : Int) + 1]).getD 0) + 1)) = ((fun g => s.keptIn (nth s.adL (i : Int)) (s.keptTo i) g) (g + 1)) from by simp only [Shop.keptIn]; first | rw [if_pos (by rw [hc2]; rfl)] | rw [if_neg (by rw [hc2]; simp)])), rfl, rfl, rfl, rfl, trivial⟩ rfl rfl rfl rfl rfl)
        · try simp only [decide_eq_true_eq, decide_eq_false_iff_not, Bool.and_eq_true, Bool.or_eq_true, Bool.and_eq_false_iff, Bool.or_eq_false_iff, Bool.not_eq_true', Bool.not_eq_false', ne_eq, Decidable.not_not] at hc2
          refine WP.skip ?_
          refine EX.blk ?_
          exact EX.next id (LeR.of trivial ⟨(lx rfl), (lx rfl), (lx rfl), trivial⟩ ⟨rfl, rfl, (congrArg (fun z => some (Ent.ext (mapXP false 1 b19 z))) (show (s.keptIn (nth s.adL (i : Int)) (s.keptTo i) g) = ((fun g => s.keptIn (nth s.adL (i : Int)) (s.keptTo i) g) (g + 1)) from by simp only [Shop.keptIn]; first | rw [if_pos (by rw [hc2]; rfl)] | rw [if_neg (by rw [hc2]; simp)])), rfl, rfl, rfl, rfl, trivial⟩ rfl rfl rfl rfl rfl)
      · exact fun _ _ h => h.elim
      · skip
        refine EX.blk ?_
        refine EX.blk ?_
        exact EX.next id (LeR.of trivial ⟨(lx rfl), (lx rfl), trivial⟩ ⟨rfl, rfl, rfl, rfl, rfl, trivial⟩ rfl rfl rfl rfl rfl)
    · exact fun _ _ h => h.elim
    · skip
      refine EX.blk ?_
      refine EX.then ?_
      refine WP.seq ?_
      refine WP.region ?_
      refine WPl.l 9 10 rfl rfl rfl (o_alloc Z29) ?_
      refine WPl.nil ?_
      refine EX.then ?_
      refine WP.seq ?_
      refine WP.block ?_
      refine WP.leR (S' := ⟨10, [(2, .e (.a (.v (.slice none 0 0)))), (3, .i (0)), (6, .e (.a (.p 5 (0)))), (9, .e (.a (.p 9 (0))))], [], [(4, .ext (mapXP false 1 b19 (s.keptTo s.adL.length))), (5, .blk [.v (.map (some b19))] 99), (7, .ob (.deferred (some []))), (9, .blk [.v (.slice none 0 0)] 29)], [7], []⟩) id (LeR.of ⟨rfl, rfl, rfl, rfl, trivial⟩ trivial ⟨rfl, rfl, rfl, rfl, trivial⟩ rfl rfl rfl rfl rfl) ?_
      refine WP.imp (Imp.namo EP.int 10 11 3 rfl rfl) ?_
      refine WP.imp (Imp.swL 9 0 10 rfl rfl (lx rfl)) ?_
      refine WP.rangeV 14 0 (4) (fun g => ⟨[.i ((g : Int) + 1)], [], []⟩) (fun g => ⟨14, [(2, .e (.a (.v (.slice none 0 0)))), (3, .i (0)), (6, .e (.a (.p 5 (0)))), (9, .e (.a (.p 9 (0))))], [(10, Pred.is (.slice none 0 0))], [(4, .ext (mapXP false 1 b19 (s.keptTo s.adL.length))), (5, .blk [.v (.map (some b19))] 99), (7, .ob (.deferred (some []))), (9, .blk [.q 13] 29), (11, .ob (.deferred (some []))), (13, .own 3 EP.int.size (s.shortTo g).length (RP EP.int (s.shortTo g)))], [11, 7], []⟩) (fun _ _ => False) rfl (fv := .e (.a (.f 72 [])))  rfl (SigI.hit c72 e72) (rfl) (fun _ => RSt.of1 4 rfl rfl rfl rfl rfl rfl mapXP.plain rfl) (fun _ _ h => h.elim) rfl rfl rfl (fun _ _ => ItemOK.of rfl) rfl rfl (ren [(13, 10)]) (LeR.of ⟨rfl, rfl, rfl, rfl, trivial⟩ ⟨(lx rfl), trivial⟩ ⟨rfl, rfl, rfl, rfl, rfl, rfl, trivial⟩ rfl rfl rfl rfl rfl) ?_ ?_ ?_
      · intro g hg w1 E1 I1 R1 pβ1 pν1 us1
        refine WP.region ?_
        refine WPl.v rfl (o_assign rfl) ?_
        refine WPl.nil ?_
        refine EX.beg rfl ?_
        refine WP.block ?_
        refine WP.seq ?_
        refine WP.region ?_
        refine WPl.v rfl (o_ldp S99 rfl rfl rfl) ?_
        refine WPl.v rfl (o_move rfl) ?_
        refine WPl.v rfl (o_look (km := 4) (a := [(g : Int) + 1]) M99 rfl rfl isKey.i rfl rfl) ?_
        refine WPl.v rfl (o_eql rfl rfl) ?_
        refine WPl.nil ?_
        refine EX.then ?_
        refine WP.cond rfl (fun hc3 => ?_) (fun hc3 => ?_)
        · try simp only [decide_eq_true_eq, decide_eq_false_iff_not, Bool.and_eq_true, Bool.or_eq_true, Bool.and_eq_false_iff, Bool.or_eq_false_iff, Bool.not_eq_true', Bool.not_eq_false', ne_eq, Decidable.not_not] at hc3
          refine WP.region ?_
          refine WPl.v rfl (o_ldp S29 rfl rfl rfl) ?_
          refine WPl.v rfl (o_move rfl) ?_
          refine WPl.u1 (k := 14) (m := 15) rfl rfl rfl (OpG.newer0 (o_bsl (E := EP.int) (l := [(g : Int) + 1]) R29 rfl rfl (.cons (rfl) rfl (eok_int) (.nil)) rfl rfl)) ?_
          have hwg := shortTo_len s g
          refine WPl.u1 (k := 15) (m := 16) rfl rfl rfl (o_appo R29 EP.int_one rfl rfl rfl rfl (by first | omega | (simp; omega) | (simp at *; omega)) (by first | omega | (simp; omega) | (simp at *; omega))) ?_
          refine WPl.s1 (o_sta S29 rfl rfl rfl (.inr ⟨_, _, _, _, rfl⟩) rfl) ?_
          refine WPl.nil ?_
          refine EX.blk ?_
          exact EX.next (ren [(13, 15)]) (LeR.of trivial ⟨(lx rfl), trivial⟩ ⟨rfl, rfl, rfl, rfl, rfl, rfl, (congrArg (fun z => some (Ent.own 3 EP.int.size (List.length z) (RP EP.int z))) (show ((s.shortTo g) ++ [(g : Int) + 1]) = ((fun g => s.shortTo g) (g + 1)) from by simp [Shop.shortTo, Shop.keptAt, hc3])), trivial⟩ rfl rfl rfl rfl rfl)
        · try simp only [decide_eq_true_eq, decide_eq_false_iff_not, Bool.and_eq_true, Bool.or_eq_true, Bool.and_eq_false_iff, Bool.or_eq_false_iff, Bool.not_eq_true', Bool.not_eq_false', ne_eq, Decidable.not_not] at hc3
          refine WP.skip ?_
          refine EX.blk ?_
          exact EX.next id (LeR.of trivial ⟨(lx rfl), trivial⟩ ⟨rfl, rfl, rfl, rfl, rfl, rfl, (congrArg (fun z => some (Ent.own 3 EP.int.size (List.length z) (RP EP.int z))) (show (s.shortTo g) = ((fun g => s.shortTo g) (g + 1)) from by simp [Shop.shortTo, Shop.keptAt, hc3])), trivial⟩ rfl rfl rfl rfl rfl)
      · exact fun _ _ h => h.elim
      · skip
        refine EX.blk ?_
        refine EX.then ?_
        refine WP.seq ?_
        refine WP.region ?_
        refine WPl.v rfl (o_ldp S29 rfl rfl rfl) ?_
        refine WPl.v rfl (o_assign rfl) ?_
        refine WPl.v rfl (o_assign rfl) ?_
        refine WPl.nil ?_
        refine EX.then ?_
        refine WP.ret ?_
        refine EX.imp (Imp.frz (E := EP.int) (l := s.shortTo 4) 13 rfl rfl) ?_
        rw [show s.mShort = s.shortTo 4 from by unfold Shop.mShort; rw [hs]; rfl]
        rw [show errM s.chk = 0 from by rw [hs]; rfl]
        exact EX.fin (ren [(0, 13)]) (.inl rfl) rfl (.tmp rfl (.tmp rfl .nil)) rfl (by simp [SV.res, El.res, At.res, keys]) ⟨(lx rfl), trivial⟩ (marks rfl) (by simp)
end Go.Flong
namespace Go.Flong
open Go Go.Eng
abbrev Pt.one (p : Pt) (t a d : Int) : Pt := ⟨p.pounds - d, t - d, t - d, a, a, 0, 0⟩
def Fnd.aheadOf (f : Fnd) (ch : Pt → Int) (night : Int) (p : Pt) : Int := if night = f.nights.length ∨ (nth f.nights night).test = 0 then ch p else worst3 (fun t a d => ch (p.one t a d)) ⟨p.tl, p.th, p.al, p.ah, p.dl, p.dh⟩
def chRows (pigs : List Pig) (nx : List Int → Int) (rows : List (List Int)) : Nat → Int
  | 0 => neverC
  | i + 1 => min (chRows pigs nx rows i) (sumOf Pig.pence pigs (nth rows i) + nx (nth rows i))
def Fnd.chW (f : Fnd) : Nat → Int → Pt → List Int → Int
  | 0, _, _, _ => 0
  | n + 1, night, p, left => min (chRows f.shop.pigs (fun r => f.aheadOf (fun q => Fnd.chW f n (night + 1) q (takeL left r)) (night + 1) ((p.addL f.shop.pigs r).lose (nth f.nights night))) (f.chL p left) (f.chL p left).length) neverC
def AhB (p : Pt) (night : Int) : Prop := PtB p (1000 + 400100 * night) ∧ p.dl ≤ 9 * night ∧ p.dh ≤ 9 * night
def ChB (p : Pt) (night : Int) : Prop := PtB p (1040 + 400100 * night) ∧ p.dl ≤ 9 * night ∧ p.dh ≤ 9 * night
theorem AhB.ch {p : Pt} {night : Int} (h : AhB p night) : ChB p night := ⟨h.1.mono (by omega), h.2⟩
theorem AhB.one {p : Pt} {night : Int} (h : AhB p night) (h0 : 0 ≤ night) (h4 : night ≤ 4) {t a d : Int} (h1 : p.tl ≤ t) (h2 : t ≤ p.th) (h3 : p.al ≤ a) (h5 : a ≤ p.ah) (h6 : p.dl ≤ d) (h7 : d ≤ p.dh) : ChB (p.one t a d) night := by
  obtain ⟨h8, h9, h10⟩ := h
  unfold PtB at h8
  unfold ChB PtB
  simp only []; omega
theorem ChB.next {f : Fnd} {p : Pt} {night : Int} (h : ChB p night) (h0 : 0 ≤ night) (hp : PigsOK f.shop.pigs) {r : List Int} (hr : r.length = f.shop.pigs.length) (hb : bnd r 5) {n : Night} (hn : n.chk = true) : PtB (p.addL f.shop.pigs r) (1040 + 400100 * night + 400000) ∧ AhB ((p.addL f.shop.pigs r).lose n) (night + 1) := by
  have h1 : PtB (p.addL f.shop.pigs r) (1040 + 400100 * night + 400000) := addTo_bnd h.1 hp (by rw [hr]; exact Nat.le_refl _) (bnd_mono hb (by omega)) (Nat.le_refl _)
  have h2 := lose_bnd h1 hn
  have hnb := Night.bnds hn
  refine ⟨h1, h2.mono (by omega), ?_, ?_⟩
  · have := h.2.1
    show p.dl + n.lo ≤ _; omega
  · have := h.2.2
    show p.dh + n.hi ≤ _; omega
def stKey (night : Int) (p : Pt) (left : List Int) : List Int := [night, p.pounds, p.tl, p.th, p.al, p.ah, p.dl, p.dh, nth left 0, nth left 1, nth left 2, nth left 3]
def MemoK (f : Fnd) (k : List Int) (v : Int) : Prop := ∃ (n : Nat) (night : Int) (p : Pt) (left : List Int), left.length = 4 ∧ night + n = f.nights.length ∧ k = stKey night p left ∧ v = f.chW n night p left
theorem four_ext {a b : List Int} (ha : a.length = 4) (hb : b.length = 4) (h0 : nth a 0 = nth b 0) (h1 : nth a 1 = nth b 1) (h2 : nth a 2 = nth b 2) (h3 : nth a 3 = nth b 3) : a = b := by
  match a, ha with
  | [x0, x1, x2, x3], _ =>
    match b, hb with
    | [y0, y1, y2, y3], _ =>
      simp only [nth] at h0 h1 h2 h3
      simp at h0 h1 h2 h3
      rw [h0, h1, h2, h3]
theorem MemoK.val {f : Fnd} {n : Nat} {night : Int} {p : Pt} {left : List Int} {v : Int} (hl : left.length = 4) (hn : night + n = f.nights.length) (h : MemoK f (stKey night p left) v) : v = f.chW n night p left := by
  obtain ⟨n', night', p', left', hl', hn', hk, rfl⟩ := h
  simp only [stKey, List.cons.injEq, and_true] at hk
  obtain ⟨rfl, h1, h2, h3, h4, h5, h6, h7, h8, h9, h10, h11⟩ := hk
  have hp : p' = p := by
    cases p; cases p'; simp only [Pt.mk.injEq]; exact ⟨h1.symm, h2.symm, h3.symm, h4.symm, h5.symm, h6.symm, h7.symm⟩
  have hL : left' = left := four_ext hl' hl h8.symm h9.symm h10.symm h11.symm
  have hN : n' = n := by omega
  rw [hp, hL, hN]
end Go.Flong
namespace Go.Flong
open Go Go.Eng
end Go.Flong
namespace Go.Flong
open Go Go.Eng
def hugeS (s : Shop) : Bool := decide (40 < (s.pigs.length : Int))
def Fnd.huge (f : Fnd) : Bool := hugeS f.shop || decide (40 < (f.nights.length : Int))
def Fnd.farA (f : Fnd) : Nat → Int
  | 0 => (f.shop.th - f.shop.tl + 1) * (f.shop.ah - f.shop.al + 1)
  | i + 1 => Fnd.farA f i * ((nth f.nights i).hi - (nth f.nights i).lo + 1)
def farI (many n : Int) : Nat → Int
  | 0 => n
  | j + 1 => (farI many n j * (many + ((j : Int) + 1))).tdiv ((j : Int) + 1)
def Fnd.farK (f : Fnd) : Nat → Int
  | 0 => f.farA f.nights.length
  | k + 1 => if Fnd.farK f k ≤ 3000 then farI (nth f.shop.pigs k).many (Fnd.farK f k) f.nights.length else Fnd.farK f k
def Fnd.far (f : Fnd) : Bool := f.huge || (f.chk && decide (3000 < f.farK f.shop.pigs.length))
end Go.Flong
namespace Go.Flong
open Go Go.Eng
end Go.Flong
namespace Go.Flong
open Go Go.Eng Go.Proofs
theorem w35 {s : Shop} : ∀ x ∈ ([.e (.g [ai (s.pounds), ai (s.tl), ai (s.th), ai (s.al), ai (s.ah), ai (s.room), ai (s.tpl), ai (s.tph), ai (s.apl), ai (s.aph), .q 0])] : List SV), x.res (keys (α := Pred) [(0, PL EPig (s.pigs))]) := by simp [SV.res, El.res, At.res, keys]
theorem r35 {s : Shop} : SV.res (keys (α := Pred) []) (.b (hugeS s)) := by simp [SV.res, El.res, At.res, keys]
set_option maxHeartbeats 4000000 in
theorem c35 (s : Shop)  : Sig Try.prog 35 [.e (.g [ai (s.pounds), ai (s.tl), ai (s.th), ai (s.al), ai (s.ah), ai (s.room), ai (s.tpl), ai (s.tph), ai (s.apl), ai (s.aph), .q 0])] [(0, PL EPig (s.pigs))] (.b (hugeS s)) [] := by
  refine Sig.intro Try.func35 rfl 1 [(0, .e (.g [ai (s.pounds), ai (s.tl), ai (s.th), ai (s.al), ai (s.ah), ai (s.room), ai (s.tpl), ai (s.tph), ai (s.apl), ai (s.aph), .q 0]))] rfl w35 rfl rfl fun I w => ?_
  refine WP.seq ?_
  refine WP.region ?_
  refine WPl.l 1 2 rfl rfl rfl (o_boxg rfl) ?_
  refine WPl.v rfl (o_assign rfl) ?_
  refine WPl.nil ?_
  refine EX.then ?_
  refine WP.seq ?_
  refine WP.region ?_
  refine WPl.v rfl (o_fldp F28_4 rfl) ?_
  refine WPl.v rfl (o_ldp S26 rfl rfl rfl) ?_
  refine WPl.v rfl (o_lenq L26 rfl (lx rfl)) ?_
  refine WPl.v rfl (o_gtr rfl rfl) ?_
  refine WPl.v rfl (o_assign rfl) ?_
  refine WPl.nil ?_
  refine EX.then ?_
  refine WP.ret ?_
  exact EX.fin id (.inl rfl) rfl (.tmp rfl .nil) rfl r35 trivial (by simp) (by simp)
end Go.Flong
namespace Go.Flong
open Go Go.Eng
def Shop.ready (s : Shop) : Bool := !hugeS s && s.chk
def insideS (a b c d : Int) : Bool := decide (c ≤ a) && decide (a ≤ b) && decide (b ≤ d)
def Shop.lCheap (s : Shop) : Int := if s.mE (priceG s) = 3 then 100000 else s.mCheap
def Shop.lTin (s : Shop) : Int := if s.mE (tinG s) = 3 then 100000 else s.mTin
def less2 (s o : Shop) : Bool := decide (s.lCheap ≤ o.lCheap) && decide (s.lTin ≤ o.lTin)
theorem sum5 {f : Pig → Int} {pigs : List Pig} {add : List Int} (hl : add.length ≤ 4) (ha : bnd add 5) (hf : ∀ j : Nat, j < add.length → 0 ≤ f (nth pigs j) ∧ f (nth pigs j) ≤ 99) : ∀ i : Nat, i ≤ add.length → 0 ≤ sumTo f pigs add i ∧ sumTo f pigs add i ≤ 495 * i
  | 0, _ => by simp [sumTo]
  | i + 1, h => by
    have ih := sum5 hl ha hf i (by omega)
    have h1 := ha i (by omega)
    have h2 := hf i (by omega)
    have h3 := mulb h1.1 h1.2 h2.1 h2.2
    simp only [sumTo]; omega
theorem add5 {s : Shop} (hs : s.chk = true) {l : List Int} (h : isAdd s l = true) {f : Pig → Int} (hf : ∀ p : Pig, p.chk = true → 0 ≤ f p ∧ f p ≤ 99) : 0 ≤ sumOf f s.pigs l ∧ sumOf f s.pigs l ≤ 1980 := by
  have hp := Shop.pigsOK hs
  have hx := isAddB hp h
  have h4 := hp.2
  have := sum5 (f := f) (pigs := s.pigs) (add := l) (by omega) hx.2.1 (fun j hj => hf _ (hp.at (by omega))) l.length (Nat.le_refl _)
  simp only [sumOf]; omega
theorem bestM_of {s : Shop} {g : List Int → List Int} : ∀ i, i ≤ s.adL.length → (s.bestM g i).2 = [] ∨ ∃ l, isAdd s l = true ∧ (s.bestM g i).2 = g l
  | 0, _ => .inl rfl
  | i + 1, h => by
    simp only [Shop.bestM]
    split
    · exact .inr ⟨_, adL_at (show i < s.adL.length by omega), rfl⟩
    · exact bestM_of i (by omega)
theorem num_of {s : Shop} {g : List Int → List Int} (h : s.mE g = 0) : ∃ l, isAdd s l = true ∧ s.mNum g = g l := by
  obtain ⟨hs, hl⟩ := mE_eq h
  unfold Shop.mNum at hl ⊢
  rw [if_pos h] at hl ⊢
  rcases bestM_of s.adL.length (Nat.le_refl _) with h1 | h1
  · rw [Shop.mBest, h1] at hl; simp at hl
  · exact h1
theorem cheap_bnd {s : Shop} (h : s.mE (priceG s) = 0) : 0 ≤ s.mCheap ∧ s.mCheap < 100000 := by
  obtain ⟨l, h1, h2⟩ := num_of h
  have := add5 (mE_eq h).1 h1 (f := Pig.pence) (fun p h => by have := Pig.bnds h; omega)
  unfold Shop.mCheap
  rw [if_pos h, h2]
  show 0 ≤ sumOf Pig.pence s.pigs l ∧ sumOf Pig.pence s.pigs l < 100000
  omega
theorem tin_bnd {s : Shop} (h : s.mE (tinG s) = 0) : 0 ≤ s.mTin ∧ s.mTin < 100000 := by
  obtain ⟨l, h1, h2⟩ := num_of h
  have := add5 (mE_eq h).1 h1 (f := Pig.tin) (fun p h => by have := Pig.bnds h; omega)
  unfold Shop.mTin
  rw [if_pos h, h2]
  show 0 ≤ sumOf Pig.tin s.pigs l ∧ sumOf Pig.tin s.pigs l < 100000
  omega
theorem mE_not {s : Shop} {g : List Int → List Int} (hs : s.chk = true) (h : s.mE g ≠ 3) : s.mE g = 0 := by
  unfold Shop.mE at h ⊢
  rw [hs] at h ⊢
  simp only [if_true] at h ⊢
  by_cases e : ((s.mBest g).2.length : Int) = 0
  · rw [if_pos e] at h; exact absurd rfl h
  · rw [if_neg e]
theorem mSafe_in {s : Shop} {add : List Int} (hs : s.chk = true) (hv : isAdd s add = true) : opE s (isAdd s add) = 0 ∧ 1 ≤ s.mSafe add ∧ s.mSafe add ≤ 3 := by
  have hE : opE s (isAdd s add) = 0 := by rw [hv, opE_t hs]; rfl
  refine ⟨hE, ?_⟩
  unfold Shop.mSafe
  rw [if_pos hE]
  split
  · omega
  · split <;> omega
def Shop.spans (s : Shop) (p : Po) : Shop := { s with tl := p.tl, th := p.th, al := p.al, ah := p.ah }
theorem spans_chk {s : Shop} {p : Po} (hs : s.chk = true) (h1 : insideS p.tl p.th s.tl s.th = true) (h2 : insideS p.al p.ah s.al s.ah = true) : (s.spans p).chk = true := by
  simp only [Shop.chk, Shop.head, Shop.spans, isPot, isSpan, within, insideS, Bool.and_eq_true, decide_eq_true_eq] at *
  grind
structure ClearLaw (s : Shop) (p : Po) (add : List Int) : Prop where
  l : less2 (s.spans p) s = true
  k : isAdd s add = true → s.mSafe add = 3 ∨ (s.spans p).mSafe add = s.mSafe add
end Go.Flong
namespace Go.Flong
open Go Go.Eng
theorem ready_chk {s : Shop} (h : s.ready = true) : s.chk = true := by
  simp only [Shop.ready, Bool.and_eq_true] at h; exact h.2
def Shop.pigged (s : Shop) (i n : Int) : Shop := { s with pigs := lset s.pigs i { nth s.pigs i with many := n } }
end Go.Flong
namespace Go.Flong
open Go Go.Eng Go.Proofs
theorem e35 : Enters' Try.prog 35 := Try.call35
theorem e39 : Enters' Try.prog 39 := Try.call39
theorem e68 : Enters' Try.prog 68 := Try.call68
theorem e62 : Enters' Try.prog 62 := Try.call62
theorem e40 : Enters' Try.prog 40 := Try.call40
theorem e26 : Enters' Try.prog 26 := Try.call26
theorem e64 : Enters' Try.prog 64 := Try.call64
theorem e18 : Enters' Try.prog 18 := Try.call18
theorem B49 : BldT Try.prog 49 [(0, 1), (1, 1), (2, 1), (3, 1), (4, 1)] [.int .i64 0, .int .i64 0, .int .i64 0, .int .i64 0, .int .i64 0] := BldT.mk (ns := [1, 1, 1, 1, 1]) Try.underlying49 ⟨Try.sizeOf3, Try.sizeOf3, Try.sizeOf3, Try.sizeOf3, Try.sizeOf3, trivial⟩ rfl Try.zeroValue49 rfl
theorem B28 : BldT Try.prog 28 [(0, 5), (5, 1), (6, 2), (8, 2), (10, 1)] [.int .i64 0, .int .i64 0, .int .i64 0, .int .i64 0, .int .i64 0, .int .i64 0, .int .i64 0, .int .i64 0, .int .i64 0, .int .i64 0, .slice none 0 0] := BldT.mk (ns := [5, 1, 2, 2, 1]) Try.underlying28 ⟨Try.sizeOf25, Try.sizeOf3, Try.sizeOf23, Try.sizeOf23, Try.sizeOf26, trivial⟩ rfl Try.zeroValue28 rfl
theorem e25 : Enters' Try.prog 25 := Try.call25
theorem e67 : Enters' Try.prog 67 := Try.call67
theorem e22 : Enters' Try.prog 22 := Try.call22
theorem e27 : Enters' Try.prog 27 := Try.call27
theorem e32 : Enters' Try.prog 32 := Try.call32
theorem e44 : Enters' Try.prog 44 := Try.call44
theorem Q23 : FlatT Try.prog 23 2 2 true := .struct Try.underlying23 Try.stoodInHeld23 G23 ⟨by decide, rfl, 1, false, Q3, ⟨by decide, rfl, 1, false, Q3, rfl⟩⟩
theorem w15 {s : Shop} : ∀ x ∈ ([.e (.g [ai (s.pounds), ai (s.tl), ai (s.th), ai (s.al), ai (s.ah), ai (s.room), ai (s.tpl), ai (s.tph), ai (s.apl), ai (s.aph), .q 0])] : List SV), x.res (keys (α := Pred) [(0, PL EPig (s.pigs))]) := by simp [SV.res, El.res, At.res, keys]
theorem r15 {s : Shop} : SV.res (keys (α := Pred) []) (.b (s.ready)) := by simp [SV.res, El.res, At.res, keys]
set_option maxHeartbeats 4000000 in
theorem c15 (s : Shop)  : Sig Try.prog 15 [.e (.g [ai (s.pounds), ai (s.tl), ai (s.th), ai (s.al), ai (s.ah), ai (s.room), ai (s.tpl), ai (s.tph), ai (s.apl), ai (s.aph), .q 0])] [(0, PL EPig (s.pigs))] (.b (s.ready)) [] := by
  refine Sig.intro Try.func15 rfl 1 [(0, .e (.g [ai (s.pounds), ai (s.tl), ai (s.th), ai (s.al), ai (s.ah), ai (s.room), ai (s.tpl), ai (s.tph), ai (s.apl), ai (s.aph), .q 0]))] rfl w15 rfl rfl fun I w => ?_
  refine WP.seq ?_
  refine WP.region ?_
  refine WPl.l 1 2 rfl rfl rfl (o_boxg rfl) ?_
  refine WPl.v rfl (o_assign rfl) ?_
  refine WPl.nil ?_
  refine EX.then ?_
  refine WP.seq ?_
  refine WP.region ?_
  refine WPl.v rfl (o_ldpa G28 rfl rfl rfl) ?_
  refine WPl.cs 2 rfl rfl rfl rfl (o_sig 2 (ren [(0, 0)]) (c35 s) e35 rfl rfl rfl w35 ⟨(lx rfl), trivial⟩ r35) ?_
  refine WPl.v rfl (o_not rfl) ?_
  refine WPl.v rfl (o_move rfl) ?_
  refine WPl.bit 2 3 (!(hugeS s)) rfl rfl ?_
  refine WPl.gv 2 rfl rfl (.plain rfl Iff.rfl rfl) (fun hb => o_ldpa G28 rfl rfl rfl) ?_
  refine WPl.gc0 2 rfl rfl (.plain rfl Iff.rfl rfl) (fun hb => o_sig 3 (ren [(0, 0)]) (c39 s) e39 rfl rfl rfl w39 ⟨(lx rfl), trivial⟩ r39) ?_
  refine WPl.gv 2 rfl rfl (.plain rfl Iff.rfl rfl) (fun hb => o_eql rfl rfl) ?_
  refine WPl.v rfl (o_and rfl rfl rfl id) ?_
  refine WPl.v rfl (o_assign rfl) ?_
  refine WPl.nil ?_
  refine EX.then ?_
  refine WP.ret ?_
  rw [show s.ready = (!hugeS s && decide (errM s.chk = 0)) from by unfold Shop.ready errM; cases s.chk <;> simp]
  exact EX.fin id (.inl rfl) rfl (.tmp rfl .nil) rfl (by simp [SV.res, El.res, At.res, keys]) trivial (by simp) (by simp)
theorem w20 {s : Shop} {add : List Int} : ∀ x ∈ ([.e (.g [ai (s.pounds), ai (s.tl), ai (s.th), ai (s.al), ai (s.ah), ai (s.room), ai (s.tpl), ai (s.tph), ai (s.apl), ai (s.aph), .q 0]), .e (.a (.q 1))] : List SV), x.res (keys (α := Pred) [(0, PL EPig (s.pigs)), (1, PL EP.int (add))]) := by simp [SV.res, El.res, At.res, keys]
theorem r20 {s : Shop} {add : List Int} : SV.res (keys (α := Pred) []) (.b (decide ((add.length : Int) ≤ 40) && isAdd s add)) := by simp [SV.res, El.res, At.res, keys]
set_option maxHeartbeats 4000000 in
theorem c20 (s : Shop) (add : List Int) (hs : s.chk = true) : Sig Try.prog 20 [.e (.g [ai (s.pounds), ai (s.tl), ai (s.th), ai (s.al), ai (s.ah), ai (s.room), ai (s.tpl), ai (s.tph), ai (s.apl), ai (s.aph), .q 0]), .e (.a (.q 1))] [(0, PL EPig (s.pigs)), (1, PL EP.int (add))] (.b (decide ((add.length : Int) ≤ 40) && isAdd s add)) [] := by
  have hpg := Shop.pigsOK hs
  have htb := tl_bnd hs
  refine Sig.intro Try.func20 rfl 2 [(0, .e (.g [ai (s.pounds), ai (s.tl), ai (s.th), ai (s.al), ai (s.ah), ai (s.room), ai (s.tpl), ai (s.tph), ai (s.apl), ai (s.aph), .q 0])), (1, .e (.a (.q 1)))] rfl w20 rfl rfl fun I w => ?_
  refine WP.seq ?_
  refine WP.region ?_
  refine WPl.l 2 3 rfl rfl rfl (o_boxg rfl) ?_
  refine WPl.v rfl (o_assign rfl) ?_
  refine WPl.nil ?_
  refine EX.then ?_
  refine WP.seq ?_
  refine WP.region ?_
  refine WPl.v rfl (o_move rfl) ?_
  refine WPl.v rfl (o_lenq L29 rfl (lx rfl)) ?_
  refine WPl.v rfl (o_leq rfl rfl) ?_
  refine WPl.v rfl (o_move rfl) ?_
  refine WPl.bit 3 4 (decide ((add.length : Int) ≤ 40)) rfl rfl ?_
  refine WPl.gv 3 rfl rfl (.plain rfl Iff.rfl rfl) (fun hb => o_ldpa G28 rfl rfl rfl) ?_
  refine WPl.gv 3 rfl rfl (.plain rfl Iff.rfl rfl) (fun hb => o_move rfl) ?_
  refine WPl.gc0 3 rfl rfl (.plain rfl Iff.rfl rfl) (fun hb => o_sig 4 (ren [(0, 0), (1, 1)]) (c68 s add hpg (by omega)) e68 rfl rfl rfl w68 ⟨(lx rfl), (lx rfl), trivial⟩ r68) ?_
  refine WPl.v rfl (o_and rfl rfl rfl id) ?_
  refine WPl.v rfl (o_assign rfl) ?_
  refine WPl.nil ?_
  refine EX.then ?_
  refine WP.ret ?_
  exact EX.fin id (.inl rfl) rfl (.tmp rfl .nil) rfl r20 trivial (by simp) (by simp)
theorem w26 {s : Shop} : ∀ x ∈ ([.e (.g [ai (s.pounds), ai (s.tl), ai (s.th), ai (s.al), ai (s.ah), ai (s.room), ai (s.tpl), ai (s.tph), ai (s.apl), ai (s.aph), .q 0])] : List SV), x.res (keys (α := Pred) [(0, PL EPig (s.pigs))]) := by simp [SV.res, El.res, At.res, keys]
theorem r26 {s : Shop} : SV.res (keys (α := Pred) []) (.t [.a (ai (s.lCheap)), .a (.v (.bool (true)))]) := by simp [SV.res, El.res, At.res, keys]
set_option maxHeartbeats 4000000 in
theorem c26 (s : Shop) (hs : s.chk = true) : Sig Try.prog 26 [.e (.g [ai (s.pounds), ai (s.tl), ai (s.th), ai (s.al), ai (s.ah), ai (s.room), ai (s.tpl), ai (s.tph), ai (s.apl), ai (s.aph), .q 0])] [(0, PL EPig (s.pigs))] (.t [.a (ai (s.lCheap)), .a (.v (.bool (true)))]) [] := by
  have hl4 := (Shop.pigsOK hs).2
  refine Sig.intro Try.func26 rfl 1 [(0, .e (.g [ai (s.pounds), ai (s.tl), ai (s.th), ai (s.al), ai (s.ah), ai (s.room), ai (s.tpl), ai (s.tph), ai (s.apl), ai (s.aph), .q 0]))] rfl w26 rfl rfl fun I w => ?_
  refine WP.seq ?_
  refine WP.region ?_
  refine WPl.l 1 2 rfl rfl rfl (o_boxg rfl) ?_
  refine WPl.v rfl (o_assign rfl) ?_
  refine WPl.v rfl (o_assign rfl) ?_
  refine WPl.nil ?_
  refine EX.then ?_
  refine WP.seq ?_
  refine WP.region ?_
  refine WPl.v rfl (o_ldpa G28 rfl rfl rfl) ?_
  refine WPl.cs 2 rfl rfl rfl rfl (o_sig 2 (ren [(0, 0)]) (c58 s (by omega)) e58 rfl rfl rfl w58 ⟨(lx rfl), trivial⟩ r58) ?_
  refine WPl.v rfl (o_move rfl) ?_
  refine WPl.v rfl (o_extract rfl rfl) ?_
  refine WPl.v rfl (o_extract rfl rfl) ?_
  refine WPl.v rfl (o_assign rfl) ?_
  refine WPl.v rfl (o_assign rfl) ?_
  refine WPl.nil ?_
  refine EX.then ?_
  refine WP.seq ?_
  refine WP.seq ?_
  refine WP.region ?_
  refine WPl.v rfl (o_move rfl) ?_
  refine WPl.v rfl (o_eql rfl rfl) ?_
  refine WPl.nil ?_
  refine EX.then ?_
  refine WP.cond rfl (fun hc1 => ?_) (fun hc1 => ?_)
  · try simp only [decide_eq_true_eq, decide_eq_false_iff_not, Bool.and_eq_true, Bool.or_eq_true, Bool.and_eq_false_iff, Bool.or_eq_false_iff, Bool.not_eq_true', Bool.not_eq_false', ne_eq, Decidable.not_not] at hc1
    refine WP.seq ?_
    refine WP.region ?_
    refine WPl.v rfl (o_assign rfl) ?_
    refine WPl.v rfl (o_assign rfl) ?_
    refine WPl.nil ?_
    refine EX.then ?_
    refine WP.ret ?_
    refine EX.ret_then ?_
    rw [show s.lCheap = 100000 from if_pos (by simpa using hc1)]
    exact EX.fin id (.inl rfl) rfl (.tmp rfl (.tmp rfl .nil)) rfl (by simp [SV.res, El.res, At.res, keys]) trivial (by simp) (by simp)
  · try simp only [decide_eq_true_eq, decide_eq_false_iff_not, Bool.and_eq_true, Bool.or_eq_true, Bool.and_eq_false_iff, Bool.or_eq_false_iff, Bool.not_eq_true', Bool.not_eq_false', ne_eq, Decidable.not_not] at hc1
    have hE := mE_not hs (show s.mE (priceG s) ≠ 3 by simpa using hc1)
    have hcb := cheap_bnd hE
    refine WP.skip ?_
    refine EX.then ?_
    refine WP.seq ?_
    refine WP.region ?_
    refine WPl.v rfl (o_move rfl) ?_
    refine WPl.v rfl (o_move rfl) ?_
    refine WPl.v rfl (o_eql rfl rfl) ?_
    refine WPl.imp (Imp.bitF 15 (b' := true) rfl (decide_eq_true hE)) ?_
    refine WPl.v rfl (o_move rfl) ?_
    refine WPl.on rfl ⟨_, _, rfl, rfl, rfl⟩ (o_move rfl) ?_
    refine WPl.on rfl ⟨_, _, rfl, rfl, rfl⟩ (o_geq rfl rfl) ?_
    refine WPl.v rfl (o_pickT rfl rfl) ?_
    refine WPl.v rfl (o_move rfl) ?_
    refine WPl.bit 2 3 (decide (0 ≤ s.mCheap)) rfl rfl ?_
    refine WPl.gv 2 rfl rfl (.plain rfl Iff.rfl rfl) (fun hb => o_move rfl) ?_
    refine WPl.gv 2 rfl rfl (.plain rfl Iff.rfl rfl) (fun hb => o_lss rfl rfl) ?_
    refine WPl.v rfl (o_and rfl rfl rfl id) ?_
    refine WPl.v rfl (o_assign rfl) ?_
    refine WPl.v rfl (o_assign rfl) ?_
    refine WPl.nil ?_
    refine EX.then ?_
    refine WP.ret ?_
    rw [show s.lCheap = s.mCheap from if_neg (by simpa using hc1), decide_eq_true hcb.1, decide_eq_true hcb.2]
    exact EX.fin id (.inl rfl) rfl (.tmp rfl (.tmp rfl .nil)) rfl (by simp [SV.res, El.res, At.res, keys]) trivial (by simp) (by simp)
theorem w64 {s : Shop} : ∀ x ∈ ([.e (.g [ai (s.pounds), ai (s.tl), ai (s.th), ai (s.al), ai (s.ah), ai (s.room), ai (s.tpl), ai (s.tph), ai (s.apl), ai (s.aph), .q 0])] : List SV), x.res (keys (α := Pred) [(0, PL EPig (s.pigs))]) := by simp [SV.res, El.res, At.res, keys]
theorem r64 {s : Shop} : SV.res (keys (α := Pred) []) (.t [.a (ai (s.lTin)), .a (.v (.bool (true)))]) := by simp [SV.res, El.res, At.res, keys]
set_option maxHeartbeats 4000000 in
theorem c64 (s : Shop) (hs : s.chk = true) : Sig Try.prog 64 [.e (.g [ai (s.pounds), ai (s.tl), ai (s.th), ai (s.al), ai (s.ah), ai (s.room), ai (s.tpl), ai (s.tph), ai (s.apl), ai (s.aph), .q 0])] [(0, PL EPig (s.pigs))] (.t [.a (ai (s.lTin)), .a (.v (.bool (true)))]) [] := by
  have hl4 := (Shop.pigsOK hs).2
  refine Sig.intro Try.func64 rfl 1 [(0, .e (.g [ai (s.pounds), ai (s.tl), ai (s.th), ai (s.al), ai (s.ah), ai (s.room), ai (s.tpl), ai (s.tph), ai (s.apl), ai (s.aph), .q 0]))] rfl w64 rfl rfl fun I w => ?_
  refine WP.seq ?_
  refine WP.region ?_
  refine WPl.l 1 2 rfl rfl rfl (o_boxg rfl) ?_
  refine WPl.v rfl (o_assign rfl) ?_
  refine WPl.v rfl (o_assign rfl) ?_
  refine WPl.nil ?_
  refine EX.then ?_
  refine WP.seq ?_
  refine WP.region ?_
  refine WPl.v rfl (o_ldpa G28 rfl rfl rfl) ?_
  refine WPl.cs 2 rfl rfl rfl rfl (o_sig 2 (ren [(0, 0)]) (c62 s (by omega)) e62 rfl rfl rfl w62 ⟨(lx rfl), trivial⟩ r62) ?_
  refine WPl.v rfl (o_move rfl) ?_
  refine WPl.v rfl (o_extract rfl rfl) ?_
  refine WPl.v rfl (o_extract rfl rfl) ?_
  refine WPl.v rfl (o_assign rfl) ?_
  refine WPl.v rfl (o_assign rfl) ?_
  refine WPl.nil ?_
  refine EX.then ?_
  refine WP.seq ?_
  refine WP.seq ?_
  refine WP.region ?_
  refine WPl.v rfl (o_move rfl) ?_
  refine WPl.v rfl (o_eql rfl rfl) ?_
  refine WPl.nil ?_
  refine EX.then ?_
  refine WP.cond rfl (fun hc1 => ?_) (fun hc1 => ?_)
  · try simp only [decide_eq_true_eq, decide_eq_false_iff_not, Bool.and_eq_true, Bool.or_eq_true, Bool.and_eq_false_iff, Bool.or_eq_false_iff, Bool.not_eq_true', Bool.not_eq_false', ne_eq, Decidable.not_not] at hc1
    refine WP.seq ?_
    refine WP.region ?_
    refine WPl.v rfl (o_assign rfl) ?_
    refine WPl.v rfl (o_assign rfl) ?_
    refine WPl.nil ?_
    refine EX.then ?_
    refine WP.ret ?_
    refine EX.ret_then ?_
    rw [show s.lTin = 100000 from if_pos (by simpa using hc1)]
    exact EX.fin id (.inl rfl) rfl (.tmp rfl (.tmp rfl .nil)) rfl (by simp [SV.res, El.res, At.res, keys]) trivial (by simp) (by simp)
  · try simp only [decide_eq_true_eq, decide_eq_false_iff_not, Bool.and_eq_true, Bool.or_eq_true, Bool.and_eq_false_iff, Bool.or_eq_false_iff, Bool.not_eq_true', Bool.not_eq_false', ne_eq, Decidable.not_not] at hc1
    have hE := mE_not hs (show s.mE (tinG s) ≠ 3 by simpa using hc1)
    have hcb := tin_bnd hE
    refine WP.skip ?_
    refine EX.then ?_
    refine WP.seq ?_
    refine WP.region ?_
    refine WPl.v rfl (o_move rfl) ?_
    refine WPl.v rfl (o_move rfl) ?_
    refine WPl.v rfl (o_eql rfl rfl) ?_
    refine WPl.imp (Imp.bitF 15 (b' := true) rfl (decide_eq_true hE)) ?_
    refine WPl.v rfl (o_move rfl) ?_
    refine WPl.on rfl ⟨_, _, rfl, rfl, rfl⟩ (o_move rfl) ?_
    refine WPl.on rfl ⟨_, _, rfl, rfl, rfl⟩ (o_geq rfl rfl) ?_
    refine WPl.v rfl (o_pickT rfl rfl) ?_
    refine WPl.v rfl (o_move rfl) ?_
    refine WPl.bit 2 3 (decide (0 ≤ s.mTin)) rfl rfl ?_
    refine WPl.gv 2 rfl rfl (.plain rfl Iff.rfl rfl) (fun hb => o_move rfl) ?_
    refine WPl.gv 2 rfl rfl (.plain rfl Iff.rfl rfl) (fun hb => o_lss rfl rfl) ?_
    refine WPl.v rfl (o_and rfl rfl rfl id) ?_
    refine WPl.v rfl (o_assign rfl) ?_
    refine WPl.v rfl (o_assign rfl) ?_
    refine WPl.nil ?_
    refine EX.then ?_
    refine WP.ret ?_
    rw [show s.lTin = s.mTin from if_neg (by simpa using hc1), decide_eq_true hcb.1, decide_eq_true hcb.2]
    exact EX.fin id (.inl rfl) rfl (.tmp rfl (.tmp rfl .nil)) rfl (by simp [SV.res, El.res, At.res, keys]) trivial (by simp) (by simp)
theorem w21 {s : Shop} {add : List Int} : ∀ x ∈ ([.e (.g [ai (s.pounds), ai (s.tl), ai (s.th), ai (s.al), ai (s.ah), ai (s.room), ai (s.tpl), ai (s.tph), ai (s.apl), ai (s.aph), .q 0]), .e (.a (.q 1))] : List SV), x.res (keys (α := Pred) [(0, PL EPig (s.pigs)), (1, PL EP.int (add))]) := by simp [SV.res, El.res, At.res, keys]
theorem r21 {s : Shop} {add : List Int} : SV.res (keys (α := Pred) []) (.t [.a (ai (s.mSafe add)), .a (.v (.bool (true)))]) := by simp [SV.res, El.res, At.res, keys]
set_option maxHeartbeats 4000000 in
theorem c21 (s : Shop) (add : List Int) (hs : s.chk = true) (hv : isAdd s add = true) : Sig Try.prog 21 [.e (.g [ai (s.pounds), ai (s.tl), ai (s.th), ai (s.al), ai (s.ah), ai (s.room), ai (s.tpl), ai (s.tph), ai (s.apl), ai (s.aph), .q 0]), .e (.a (.q 1))] [(0, PL EPig (s.pigs)), (1, PL EP.int (add))] (.t [.a (ai (s.mSafe add)), .a (.v (.bool (true)))]) [] := by
  have hl4 := (Shop.pigsOK hs).2
  have hal := (isAddB (Shop.pigsOK hs) hv).1
  have hms := mSafe_in hs hv
  refine Sig.intro Try.func21 rfl 2 [(0, .e (.g [ai (s.pounds), ai (s.tl), ai (s.th), ai (s.al), ai (s.ah), ai (s.room), ai (s.tpl), ai (s.tph), ai (s.apl), ai (s.aph), .q 0])), (1, .e (.a (.q 1)))] rfl w21 rfl rfl fun I w => ?_
  refine WP.seq ?_
  refine WP.region ?_
  refine WPl.l 2 3 rfl rfl rfl (o_boxg rfl) ?_
  refine WPl.v rfl (o_assign rfl) ?_
  refine WPl.v rfl (o_assign rfl) ?_
  refine WPl.nil ?_
  refine EX.then ?_
  refine WP.seq ?_
  refine WP.draw (nf := 5) [⟨[10, 11, 12], [3, 4], [], [], []⟩, ⟨[9, 11], [], [3], [3], []⟩, ⟨[9, 10], [3], [], [], []⟩, ⟨[9], [], [4], [4, 3], [1, 2]⟩, ⟨[], [], [], [], [0, 1, 2, 3]⟩, ⟨[], [], [], [], [0, 1, 2, 3, 4]⟩, ⟨[15], [], [], [], [0, 1, 2, 3, 4, 5]⟩, ⟨[14, 6], [], [], [], [0, 1, 2, 3, 4, 5]⟩, ⟨[15], [], [], [], [0, 1, 2, 3, 4, 5, 6]⟩, ⟨[], [], [], [], [0, 1, 2, 3, 4, 5, 6, 7, 8]⟩] (by kernel_rfl) (by kernel_rfl) ?_
  refine DRQ.v rfl rfl rfl (o_ldpa G28 rfl rfl rfl) ?_
  refine DRQ.l 3 rfl rfl rfl rfl (o_bsl (E := EP.int) (l := []) R29 rfl rfl (.nil) rfl rfl) ?_
  refine DRQ.v rfl rfl rfl (o_move rfl) ?_
  refine DRQ.u1 4 rfl rfl rfl (OpG.settle1 (.inl rfl) rfl (o_apps R29 EP.int_one rfl rfl rfl (lx rfl) (by first | omega | (simp; omega) | (simp at *; omega)) (by first | omega | (simp; omega) | (simp at *; omega)))) rfl ?_
  refine DRQ.cs rfl rfl rfl rfl (o_sig 5 (ren [(0, 0), (1, 4)]) (c40 s ([] ++ add) (by omega)) e40 rfl rfl rfl w40 ⟨(lx rfl), (lx rfl), trivial⟩ r40) ?_
  refine DRQ.v rfl rfl rfl (o_move rfl) ?_
  refine DRQ.v rfl rfl rfl (o_extract rfl rfl) ?_
  refine DRQ.v rfl rfl rfl (o_extract rfl rfl) ?_
  refine DRQ.v rfl rfl rfl (o_assign rfl) ?_
  refine DRQ.v rfl rfl rfl (o_assign rfl) ?_
  refine DRQ.nil' ?_
  refine EX.then ?_
  refine WP.seq ?_
  refine WP.region ?_
  refine WPl.v rfl (o_move rfl) ?_
  refine WPl.v rfl (o_move rfl) ?_
  refine WPl.v rfl (o_eql rfl rfl) ?_
  refine WPl.imp (Imp.bitF 18 (b' := true) rfl (decide_eq_true (show opE s (isAdd s ([] ++ add)) = 0 from hms.1))) ?_
  refine WPl.v rfl (o_move rfl) ?_
  refine WPl.on rfl ⟨_, _, rfl, rfl, rfl⟩ (o_move rfl) ?_
  refine WPl.cL 6 rfl rfl rfl rfl ⟨_, _, rfl, rfl, rfl⟩ (o_sig 5 id (c24 (s.mSafe ([] ++ add)) 1 3) e24 rfl rfl rfl w24 trivial r24) ?_
  refine WPl.v rfl (o_pickT rfl rfl) ?_
  refine WPl.v rfl (o_assign rfl) ?_
  refine WPl.v rfl (o_assign rfl) ?_
  refine WPl.nil ?_
  refine EX.then ?_
  refine WP.ret ?_
  rw [show ([] ++ add : List Int) = add from rfl, show within (s.mSafe add) 1 3 = true from by simp only [within, Bool.and_eq_true, decide_eq_true_eq]; exact hms.2]
  exact EX.fin id (.inl rfl) rfl (.tmp rfl (.tmp rfl .nil)) rfl (by simp [SV.res, El.res, At.res, keys]) trivial (by simp) (by simp)
theorem w19 {s o : Shop} : ∀ x ∈ ([.e (.g [ai (s.pounds), ai (s.tl), ai (s.th), ai (s.al), ai (s.ah), ai (s.room), ai (s.tpl), ai (s.tph), ai (s.apl), ai (s.aph), .q 0]), .e (.g [ai (o.pounds), ai (o.tl), ai (o.th), ai (o.al), ai (o.ah), ai (o.room), ai (o.tpl), ai (o.tph), ai (o.apl), ai (o.aph), .q 1])] : List SV), x.res (keys (α := Pred) [(0, PL EPig (s.pigs)), (1, PL EPig (o.pigs))]) := by simp [SV.res, El.res, At.res, keys]
theorem r19 {s o : Shop} : SV.res (keys (α := Pred) []) (.b (less2 s o)) := by simp [SV.res, El.res, At.res, keys]
set_option maxHeartbeats 4000000 in
theorem c19 (s o : Shop) (hs : s.chk = true) (ho : o.chk = true) : Sig Try.prog 19 [.e (.g [ai (s.pounds), ai (s.tl), ai (s.th), ai (s.al), ai (s.ah), ai (s.room), ai (s.tpl), ai (s.tph), ai (s.apl), ai (s.aph), .q 0]), .e (.g [ai (o.pounds), ai (o.tl), ai (o.th), ai (o.al), ai (o.ah), ai (o.room), ai (o.tpl), ai (o.tph), ai (o.apl), ai (o.aph), .q 1])] [(0, PL EPig (s.pigs)), (1, PL EPig (o.pigs))] (.b (less2 s o)) [] := by
  refine Sig.intro Try.func19 rfl 2 [(0, .e (.g [ai (s.pounds), ai (s.tl), ai (s.th), ai (s.al), ai (s.ah), ai (s.room), ai (s.tpl), ai (s.tph), ai (s.apl), ai (s.aph), .q 0])), (1, .e (.g [ai (o.pounds), ai (o.tl), ai (o.th), ai (o.al), ai (o.ah), ai (o.room), ai (o.tpl), ai (o.tph), ai (o.apl), ai (o.aph), .q 1]))] rfl w19 rfl rfl fun I w => ?_
  refine WP.seq ?_
  refine WP.region ?_
  refine WPl.l 2 3 rfl rfl rfl (o_boxg rfl) ?_
  refine WPl.l 3 4 rfl rfl rfl (o_boxg rfl) ?_
  refine WPl.v rfl (o_assign rfl) ?_
  refine WPl.nil ?_
  refine EX.then ?_
  refine WP.seq ?_
  refine WP.region ?_
  refine WPl.v rfl (o_ldpa G28 rfl rfl rfl) ?_
  refine WPl.cs 4 rfl rfl rfl rfl (o_sig 4 (ren [(0, 0)]) (c26 s hs) e26 rfl rfl rfl w26 ⟨(lx rfl), trivial⟩ r26) ?_
  refine WPl.v rfl (o_move rfl) ?_
  refine WPl.v rfl (o_extract rfl rfl) ?_
  refine WPl.v rfl (o_extract rfl rfl) ?_
  refine WPl.v rfl (o_assign rfl) ?_
  refine WPl.v rfl (o_assign rfl) ?_
  refine WPl.nil ?_
  refine EX.then ?_
  refine WP.seq ?_
  refine WP.region ?_
  refine WPl.v rfl (o_ldpa G28 rfl rfl rfl) ?_
  refine WPl.cs 4 rfl rfl rfl rfl (o_sig 4 (ren [(0, 1)]) (c26 o ho) e26 rfl rfl rfl w26 ⟨(lx rfl), trivial⟩ r26) ?_
  refine WPl.v rfl (o_move rfl) ?_
  refine WPl.v rfl (o_extract rfl rfl) ?_
  refine WPl.v rfl (o_extract rfl rfl) ?_
  refine WPl.v rfl (o_assign rfl) ?_
  refine WPl.v rfl (o_assign rfl) ?_
  refine WPl.nil ?_
  refine EX.then ?_
  refine WP.seq ?_
  refine WP.region ?_
  refine WPl.v rfl (o_ldpa G28 rfl rfl rfl) ?_
  refine WPl.cs 4 rfl rfl rfl rfl (o_sig 4 (ren [(0, 0)]) (c64 s hs) e64 rfl rfl rfl w64 ⟨(lx rfl), trivial⟩ r64) ?_
  refine WPl.v rfl (o_move rfl) ?_
  refine WPl.v rfl (o_extract rfl rfl) ?_
  refine WPl.v rfl (o_extract rfl rfl) ?_
  refine WPl.v rfl (o_assign rfl) ?_
  refine WPl.v rfl (o_assign rfl) ?_
  refine WPl.nil ?_
  refine EX.then ?_
  refine WP.seq ?_
  refine WP.region ?_
  refine WPl.v rfl (o_ldpa G28 rfl rfl rfl) ?_
  refine WPl.cs 4 rfl rfl rfl rfl (o_sig 4 (ren [(0, 1)]) (c64 o ho) e64 rfl rfl rfl w64 ⟨(lx rfl), trivial⟩ r64) ?_
  refine WPl.v rfl (o_move rfl) ?_
  refine WPl.v rfl (o_extract rfl rfl) ?_
  refine WPl.v rfl (o_extract rfl rfl) ?_
  refine WPl.v rfl (o_assign rfl) ?_
  refine WPl.v rfl (o_assign rfl) ?_
  refine WPl.nil ?_
  refine EX.then ?_
  refine WP.seq ?_
  refine WP.region ?_
  refine WPl.v rfl (o_move rfl) ?_
  refine WPl.v rfl (o_move rfl) ?_
  refine WPl.on rfl ⟨_, _, rfl, rfl, rfl⟩ (o_move rfl) ?_
  refine WPl.v rfl (o_pickT rfl rfl) ?_
  refine WPl.v rfl (o_move rfl) ?_
  refine WPl.on rfl ⟨_, _, rfl, rfl, rfl⟩ (o_move rfl) ?_
  refine WPl.v rfl (o_pickT rfl rfl) ?_
  refine WPl.v rfl (o_move rfl) ?_
  refine WPl.on rfl ⟨_, _, rfl, rfl, rfl⟩ (o_move rfl) ?_
  refine WPl.v rfl (o_pickT rfl rfl) ?_
  refine WPl.v rfl (o_move rfl) ?_
  refine WPl.on rfl ⟨_, _, rfl, rfl, rfl⟩ (o_move rfl) ?_
  refine WPl.on rfl ⟨_, _, rfl, rfl, rfl⟩ (o_move rfl) ?_
  refine WPl.on rfl ⟨_, _, rfl, rfl, rfl⟩ (o_leq rfl rfl) ?_
  refine WPl.v rfl (o_pickT rfl rfl) ?_
  refine WPl.v rfl (o_move rfl) ?_
  refine WPl.bit 4 5 (decide (s.lCheap ≤ o.lCheap)) rfl rfl ?_
  refine WPl.gv 4 rfl rfl (.plain rfl Iff.rfl rfl) (fun hb => o_move rfl) ?_
  refine WPl.gv 4 rfl rfl (.plain rfl Iff.rfl rfl) (fun hb => o_move rfl) ?_
  refine WPl.gv 4 rfl rfl (.plain rfl Iff.rfl rfl) (fun hb => o_leq rfl rfl) ?_
  refine WPl.v rfl (o_and rfl rfl rfl id) ?_
  refine WPl.v rfl (o_assign rfl) ?_
  refine WPl.nil ?_
  refine EX.then ?_
  refine WP.ret ?_
  exact EX.fin id (.inl rfl) rfl (.tmp rfl .nil) rfl r19 trivial (by simp) (by simp)
theorem w25 {s : Shop} {i n : Int} : ∀ x ∈ ([.e (.g [ai (s.pounds), ai (s.tl), ai (s.th), ai (s.al), ai (s.ah), ai (s.room), ai (s.tpl), ai (s.tph), ai (s.apl), ai (s.aph), .q 0]), .i (i), .i (n)] : List SV), x.res (keys (α := Pred) [(0, PL EPig (s.pigs))]) := by simp [SV.res, El.res, At.res, keys]
theorem r25 {s : Shop} {i n : Int} : SV.res (keys (α := Pred) [(0, PL EPig ((s.pigged i n).pigs))]) (.e (.g [ai ((s.pigged i n).pounds), ai ((s.pigged i n).tl), ai ((s.pigged i n).th), ai ((s.pigged i n).al), ai ((s.pigged i n).ah), ai ((s.pigged i n).room), ai ((s.pigged i n).tpl), ai ((s.pigged i n).tph), ai ((s.pigged i n).apl), ai ((s.pigged i n).aph), .q 0])) := by simp [SV.res, El.res, At.res, keys]
set_option maxHeartbeats 4000000 in
theorem c25 (s : Shop) (i n : Int) (hl : s.pigs.length ≤ 40) (hi : 0 ≤ i ∧ i < s.pigs.length) : Sig Try.prog 25 [.e (.g [ai (s.pounds), ai (s.tl), ai (s.th), ai (s.al), ai (s.ah), ai (s.room), ai (s.tpl), ai (s.tph), ai (s.apl), ai (s.aph), .q 0]), .i (i), .i (n)] [(0, PL EPig (s.pigs))] (.e (.g [ai ((s.pigged i n).pounds), ai ((s.pigged i n).tl), ai ((s.pigged i n).th), ai ((s.pigged i n).al), ai ((s.pigged i n).ah), ai ((s.pigged i n).room), ai ((s.pigged i n).tpl), ai ((s.pigged i n).tph), ai ((s.pigged i n).apl), ai ((s.pigged i n).aph), .q 0])) [(0, PL EPig ((s.pigged i n).pigs))] := by
  refine Sig.intro Try.func25 rfl 1 [(0, .e (.g [ai (s.pounds), ai (s.tl), ai (s.th), ai (s.al), ai (s.ah), ai (s.room), ai (s.tpl), ai (s.tph), ai (s.apl), ai (s.aph), .q 0])), (1, .i (i)), (2, .i (n))] rfl w25 rfl rfl fun I w => ?_
  refine WP.seq ?_
  refine WP.region ?_
  refine WPl.l 1 2 rfl rfl rfl (o_boxg rfl) ?_
  refine WPl.l 2 3 rfl rfl rfl (o_alloc Z28) ?_
  refine WPl.nil ?_
  refine EX.then ?_
  refine WP.seq ?_
  refine WP.region ?_
  refine WPl.v rfl (o_ldpa G28 rfl rfl rfl) ?_
  refine WPl.cL 4 rfl rfl rfl rfl rfl (o_sigo 3 (ren [(0, 0)]) (c18O s hl) e18 rfl rfl SvsOK.rf w18O ⟨(lx rfl), trivial⟩ r18O rfl rfl) ?_
  refine WPl.l 4 5 rfl rfl rfl (o_alloc Z28) ?_
  refine WPl.s1 (o_stag G28 rfl rfl rfl ⟨rfl, rfl, rfl, rfl, rfl, rfl, rfl, rfl, rfl, rfl, (.inr ⟨_, _, _, _, rfl⟩), trivial⟩ rfl rfl) ?_
  refine WPl.nil ?_
  refine EX.then ?_
  refine WP.seq ?_
  refine WP.region ?_
  refine WPl.v rfl (o_fldp F28_4 rfl) ?_
  refine WPl.v rfl (o_ldp S26 rfl rfl rfl) ?_
  refine WPl.v rfl (o_move rfl) ?_
  refine WPl.v rfl (o_idxo L26 rfl rfl rfl (by first | omega | (simp; omega)) (by first | omega | (simp; omega))) ?_
  refine WPl.v rfl (o_ldoG G49 rfl rfl rfl rfl (by first | omega | (simp; omega)) (by first | omega | (simp; omega)) (strG rfl) rfl rfl) ?_
  refine WPl.l 5 6 rfl rfl rfl (o_alloc Z49) ?_
  refine WPl.s1 (o_stag G49 rfl rfl rfl ⟨rfl, rfl, rfl, rfl, rfl, trivial⟩ rfl rfl) ?_
  refine WPl.nil ?_
  refine EX.then ?_
  refine WP.seq ?_
  refine WP.region ?_
  refine WPl.v rfl (o_move rfl) ?_
  refine WPl.v rfl (o_fldp F49_4 rfl) ?_
  refine WPl.s1 (o_sta S3 rfl rfl rfl rfl rfl) ?_
  refine WPl.nil ?_
  refine EX.then ?_
  refine WP.seq ?_
  refine WP.region ?_
  refine WPl.v rfl (o_fldp F28_4 rfl) ?_
  refine WPl.v rfl (o_ldp S26 rfl rfl rfl) ?_
  refine WPl.v rfl (o_move rfl) ?_
  refine WPl.v rfl (o_ldpa G49 rfl rfl rfl) ?_
  refine WPl.v rfl (o_idxo L26 rfl rfl rfl (by first | omega | (simp; omega)) (by first | omega | (simp; omega))) ?_
  refine WPl.s1 (o_steE2 (z := ({ nth s.pigs i with many := n } : Pig)) Try.sizeOf49 rfl rfl rfl ⟨rfl, rfl, rfl, rfl, rfl, trivial⟩ (eok_str ⟨rfl, rfl, rfl, rfl, rfl, trivial⟩) rfl rfl rfl (by first | omega | (simp; omega)) (by first | omega | (simp; omega))) ?_
  refine WPl.nil ?_
  refine EX.then ?_
  refine WP.seq ?_
  refine WP.region ?_
  refine WPl.v rfl (o_ldpa G28 rfl rfl rfl) ?_
  refine WPl.s1 (o_stag G28 rfl rfl rfl ⟨rfl, rfl, rfl, rfl, rfl, rfl, rfl, rfl, rfl, rfl, (.inr ⟨_, _, _, _, rfl⟩), trivial⟩ rfl rfl) ?_
  refine WPl.nil ?_
  refine EX.then ?_
  refine WP.ret ?_
  refine EX.imp (Imp.frz (E := EPig) (l := lset ([] ++ s.pigs) i ({ nth s.pigs i with many := n } : Pig)) 3 rfl rfl) ?_
  exact EX.fin (ren [(0, 3)]) (.inl rfl) rfl (.cellg G28 rfl rfl rfl (.nil)) rfl r25 ⟨(lx rfl), trivial⟩ (by simp) (by simp)
theorem w67  : ∀ x ∈ ([] : List SV), x.res (keys (α := Pred) []) := by simp [SV.res, El.res, At.res, keys]
theorem r67  : SV.res (keys (α := Pred) [(0, PL EPig (exM.pigs)), (1, PL EPig (exL.pigs))]) (.t [.g [ai (exM.pounds), ai (exM.tl), ai (exM.th), ai (exM.al), ai (exM.ah), ai (exM.room), ai (exM.tpl), ai (exM.tph), ai (exM.apl), ai (exM.aph), .q 0], .g [ai (exL.pounds), ai (exL.tl), ai (exL.th), ai (exL.al), ai (exL.ah), ai (exL.room), ai (exL.tpl), ai (exL.tph), ai (exL.apl), ai (exL.aph), .q 1]]) := by simp [SV.res, El.res, At.res, keys]
set_option maxHeartbeats 4000000 in
theorem c67   : Sig Try.prog 67 [] [] (.t [.g [ai (exM.pounds), ai (exM.tl), ai (exM.th), ai (exM.al), ai (exM.ah), ai (exM.room), ai (exM.tpl), ai (exM.tph), ai (exM.apl), ai (exM.aph), .q 0], .g [ai (exL.pounds), ai (exL.tl), ai (exL.th), ai (exL.al), ai (exL.ah), ai (exL.room), ai (exL.tpl), ai (exL.tph), ai (exL.apl), ai (exL.aph), .q 1]]) [(0, PL EPig (exM.pigs)), (1, PL EPig (exL.pigs))] := by
  refine Sig.intro Try.func67 rfl 0 [] rfl w67 rfl rfl fun I w => ?_
  refine WP.seq ?_
  refine WP.region ?_
  refine WPl.l 0 1 rfl rfl rfl (o_alloc Z28) ?_
  refine WPl.l 1 2 rfl rfl rfl (o_alloc Z28) ?_
  refine WPl.nil ?_
  refine EX.then ?_
  refine WP.seq ?_
  refine WP.region ?_
  refine WPl.v rfl (o_build B23 rfl ⟨rfl, rfl, trivial⟩ rfl rfl) ?_
  refine WPl.v rfl (o_build B23 rfl ⟨rfl, rfl, trivial⟩ rfl rfl) ?_
  refine WPl.v rfl (o_build B25 rfl ⟨rfl, trivial⟩ rfl rfl) ?_
  refine WPl.v rfl (o_build B23 rfl ⟨rfl, rfl, trivial⟩ rfl rfl) ?_
  refine WPl.v rfl (o_build B23 rfl ⟨rfl, rfl, trivial⟩ rfl rfl) ?_
  refine WPl.v rfl (o_build B49 rfl ⟨rfl, rfl, rfl, rfl, trivial⟩ rfl rfl) ?_
  refine WPl.v rfl (o_build B49 rfl ⟨rfl, rfl, rfl, rfl, rfl, trivial⟩ rfl rfl) ?_
  refine WPl.v rfl (o_build B49 rfl ⟨rfl, rfl, rfl, trivial⟩ rfl rfl) ?_
  refine WPl.x 2 3 rfl rfl rfl (OpG.settle0 (o_bsl (E := EPig) (l := [(⟨10, 5, 0, 30, 3⟩ : Pig), (⟨20, 1, 6, 25, 2⟩ : Pig), (⟨25, 0, 0, 5, 2⟩ : Pig)]) R26 rfl rfl (.cons (⟨rfl, rfl, rfl, rfl, rfl, trivial⟩) rfl (eok_str ⟨rfl, rfl, rfl, rfl, rfl, trivial⟩) (.cons (⟨rfl, rfl, rfl, rfl, rfl, trivial⟩) rfl (eok_str ⟨rfl, rfl, rfl, rfl, rfl, trivial⟩) (.cons (⟨rfl, rfl, rfl, rfl, rfl, trivial⟩) rfl (eok_str ⟨rfl, rfl, rfl, rfl, rfl, trivial⟩) (.nil)))) rfl rfl)) ?_
  refine WPl.v rfl (o_build B28 rfl ⟨rfl, (.inl ⟨_, (lx rfl), PL.one⟩), trivial⟩ rfl rfl) ?_
  refine WPl.s1 (o_stag G28 rfl rfl rfl ⟨rfl, rfl, rfl, rfl, rfl, rfl, rfl, rfl, rfl, rfl, (.inl ⟨_, (lx rfl), PL.one⟩), trivial⟩ rfl rfl) ?_
  refine WPl.nil ?_
  refine EX.then ?_
  refine WP.seq ?_
  refine WP.draw (nf := 4) [⟨[13, 14], [3], [], [], []⟩, ⟨[12], [], [], [], []⟩, ⟨[12], [], [3], [3], [1]⟩, ⟨[], [], [], [0], [0, 1, 2]⟩, ⟨[], [], [], [1], [0, 1, 2, 3]⟩] (by kernel_rfl) (by kernel_rfl) ?_
  refine DRQ.v rfl rfl rfl (o_ldpa G28 rfl rfl rfl) ?_
  refine DRQ.v rfl rfl rfl (o_ldpa G28 rfl rfl rfl) ?_
  refine DRQ.cs rfl rfl rfl rfl (o_sig 3 (ren [(0, 2)]) (c25 exM 0 0 (by decide) (by decide)) e25 rfl rfl rfl w25 ⟨(lx rfl), trivial⟩ r25) ?_
  refine DRQ.s 0 rfl rfl rfl (o_stag G28 rfl rfl rfl ⟨rfl, rfl, rfl, rfl, rfl, rfl, rfl, rfl, rfl, rfl, (.inl ⟨_, (lx rfl), PL.one⟩), trivial⟩ rfl rfl) ?_
  refine DRQ.s 1 rfl rfl rfl (o_stag G28 rfl rfl rfl ⟨rfl, rfl, rfl, rfl, rfl, rfl, rfl, rfl, rfl, rfl, (.inl ⟨_, (lx rfl), PL.one⟩), trivial⟩ rfl rfl) ?_
  refine DRQ.nil' ?_
  refine EX.then ?_
  refine WP.ret ?_
  exact EX.fin (ren [(0, 2), (1, 3)]) (.inl rfl) rfl (.cellg G28 rfl rfl rfl (.cellg G28 rfl rfl rfl (.nil))) rfl r67 ⟨(lx rfl), (lx rfl), trivial⟩ (by simp) (by simp)
theorem w17  : ∀ x ∈ ([] : List SV), x.res (keys (α := Pred) []) := by simp [SV.res, El.res, At.res, keys]
theorem r17  : SV.res (keys (α := Pred) []) (.b (true)) := by simp [SV.res, El.res, At.res, keys]
set_option maxHeartbeats 4000000 in
theorem c17   : Sig Try.prog 17 [] [] (.b (true)) [] := by
  refine Sig.intro Try.func17 rfl 0 [] rfl w17 rfl rfl fun I w => ?_
  refine WP.seq ?_
  refine WP.region ?_
  refine WPl.v rfl (o_assign rfl) ?_
  refine WPl.nil ?_
  refine EX.then ?_
  refine WP.seq ?_
  refine WP.region ?_
  refine WPl.cs 2 rfl rfl rfl rfl (o_sig 0 id c67 e67 rfl rfl rfl w67 trivial r67) ?_
  refine WPl.v rfl (o_move rfl) ?_
  refine WPl.v rfl (o_extract rfl rfl) ?_
  refine WPl.v rfl (o_extract rfl rfl) ?_
  refine WPl.l 2 3 rfl rfl rfl (o_alloc Z28) ?_
  refine WPl.l 3 4 rfl rfl rfl (o_alloc Z28) ?_
  refine WPl.s1 (o_stag G28 rfl rfl rfl ⟨rfl, rfl, rfl, rfl, rfl, rfl, rfl, rfl, rfl, rfl, (.inl ⟨_, (lx rfl), PL.one⟩), trivial⟩ rfl rfl) ?_
  refine WPl.s1 (o_stag G28 rfl rfl rfl ⟨rfl, rfl, rfl, rfl, rfl, rfl, rfl, rfl, rfl, rfl, (.inl ⟨_, (lx rfl), PL.one⟩), trivial⟩ rfl rfl) ?_
  refine WPl.nil ?_
  refine EX.then ?_
  refine WP.seq ?_
  refine WP.region ?_
  refine WPl.v rfl (o_ldpa G28 rfl rfl rfl) ?_
  refine WPl.x 4 5 rfl rfl rfl (OpG.settle0 (o_bsl (E := EP.int) (l := [1, 1, 1]) R29 rfl rfl (.cons (rfl) rfl (eok_int) (.cons (rfl) rfl (eok_int) (.cons (rfl) rfl (eok_int) (.nil)))) rfl rfl)) ?_
  refine WPl.cs 5 rfl rfl rfl rfl (o_sig 5 (ren [(0, 0), (1, 4)]) (c40 exM [1, 1, 1] (by decide)) e40 rfl rfl rfl w40 ⟨(lx rfl), (lx rfl), trivial⟩ r40) ?_
  refine WPl.v rfl (o_move rfl) ?_
  refine WPl.v rfl (o_extract rfl rfl) ?_
  refine WPl.v rfl (o_extract rfl rfl) ?_
  refine WPl.v rfl (o_assign rfl) ?_
  refine WPl.v rfl (o_assign rfl) ?_
  refine WPl.nil ?_
  refine EX.then ?_
  refine WP.seq ?_
  refine WP.region ?_
  refine WPl.v rfl (o_ldpa G28 rfl rfl rfl) ?_
  refine WPl.x 5 6 rfl rfl rfl (OpG.settle0 (o_bsl (E := EP.int) (l := [0, 1, 0]) R29 rfl rfl (.cons (rfl) rfl (eok_int) (.cons (rfl) rfl (eok_int) (.cons (rfl) rfl (eok_int) (.nil)))) rfl rfl)) ?_
  refine WPl.cs 7 rfl rfl rfl rfl (o_sig 6 (ren [(0, 0), (1, 5)]) (c22 exM [0, 1, 0] (by decide)) e22 rfl rfl rfl w22 ⟨(lx rfl), (lx rfl), trivial⟩ r22) ?_
  refine WPl.v rfl (o_move rfl) ?_
  refine WPl.v rfl (o_extract rfl rfl) ?_
  refine WPl.v rfl (o_extract rfl rfl) ?_
  refine WPl.v rfl (o_assign rfl) ?_
  refine WPl.v rfl (o_assign rfl) ?_
  refine WPl.nil ?_
  refine EX.then ?_
  refine WP.seq ?_
  refine WP.region ?_
  refine WPl.v rfl (o_ldpa G28 rfl rfl rfl) ?_
  refine WPl.x 7 8 rfl rfl rfl (OpG.settle0 (o_bsl (E := EP.int) (l := [1, 1, 0]) R29 rfl rfl (.cons (rfl) rfl (eok_int) (.cons (rfl) rfl (eok_int) (.cons (rfl) rfl (eok_int) (.nil)))) rfl rfl)) ?_
  refine WPl.cs 8 rfl rfl rfl rfl (o_sig 8 (ren [(0, 0), (1, 7)]) (c27 exM [1, 1, 0] (by decide)) e27 rfl rfl rfl w27 ⟨(lx rfl), (lx rfl), trivial⟩ r27) ?_
  refine WPl.v rfl (o_move rfl) ?_
  refine WPl.v rfl (o_extract rfl rfl) ?_
  refine WPl.v rfl (o_extract rfl rfl) ?_
  refine WPl.l 8 9 rfl rfl rfl (o_alloc Z23) ?_
  refine WPl.s1 (o_stag G23 rfl rfl rfl ⟨rfl, rfl, trivial⟩ rfl rfl) ?_
  refine WPl.v rfl (o_assign rfl) ?_
  refine WPl.nil ?_
  refine EX.then ?_
  refine WP.seq ?_
  refine WP.region ?_
  refine WPl.v rfl (o_ldpa G28 rfl rfl rfl) ?_
  refine WPl.cs 9 rfl rfl rfl rfl (o_sig 9 (ren [(0, 0)]) (c58 exM (by decide)) e58 rfl rfl rfl w58 ⟨(lx rfl), trivial⟩ r58) ?_
  refine WPl.v rfl (o_move rfl) ?_
  refine WPl.v rfl (o_extract rfl rfl) ?_
  refine WPl.v rfl (o_extract rfl rfl) ?_
  refine WPl.v rfl (o_assign rfl) ?_
  refine WPl.v rfl (o_assign rfl) ?_
  refine WPl.nil ?_
  refine EX.then ?_
  refine WP.seq ?_
  refine WP.region ?_
  refine WPl.v rfl (o_ldpa G28 rfl rfl rfl) ?_
  refine WPl.cs 9 rfl rfl rfl rfl (o_sig 9 (ren [(0, 0)]) (c62 exM (by decide)) e62 rfl rfl rfl w62 ⟨(lx rfl), trivial⟩ r62) ?_
  refine WPl.v rfl (o_move rfl) ?_
  refine WPl.v rfl (o_extract rfl rfl) ?_
  refine WPl.v rfl (o_extract rfl rfl) ?_
  refine WPl.v rfl (o_assign rfl) ?_
  refine WPl.v rfl (o_assign rfl) ?_
  refine WPl.nil ?_
  refine EX.then ?_
  refine WP.seq ?_
  refine WP.region ?_
  refine WPl.v rfl (o_ldpa G28 rfl rfl rfl) ?_
  refine WPl.cs 9 rfl rfl rfl rfl (o_sig 9 (ren [(0, 0)]) (c32 exM (by decide)) e32 rfl rfl rfl w32 ⟨(lx rfl), trivial⟩ r32) ?_
  refine WPl.v rfl (o_move rfl) ?_
  refine WPl.v rfl (o_extract rfl rfl) ?_
  refine WPl.v rfl (o_extract rfl rfl) ?_
  refine WPl.v rfl (o_assign rfl) ?_
  refine WPl.v rfl (o_assign rfl) ?_
  refine WPl.nil ?_
  refine EX.then ?_
  refine WP.seq ?_
  refine WP.region ?_
  refine WPl.v rfl (o_move rfl) ?_
  refine WPl.v rfl (o_eql rfl rfl) ?_
  refine WPl.imp (Imp.bitF 53 (b' := true) rfl (decide_eq_true exM_sE)) ?_
  refine WPl.v rfl (o_move rfl) ?_
  refine WPl.on rfl ⟨_, _, rfl, rfl, rfl⟩ (o_move rfl) ?_
  refine WPl.on rfl ⟨_, _, rfl, rfl, rfl⟩ (o_eql rfl rfl) ?_
  refine WPl.imp (Imp.bitF 56 (b' := true) rfl (decide_eq_true exM_fE)) ?_
  refine WPl.v rfl (o_pickT rfl rfl) ?_
  refine WPl.v rfl (o_move rfl) ?_
  refine WPl.on rfl ⟨_, _, rfl, rfl, rfl⟩ (o_move rfl) ?_
  refine WPl.on rfl ⟨_, _, rfl, rfl, rfl⟩ (o_eql rfl rfl) ?_
  refine WPl.imp (Imp.bitF 60 (b' := true) rfl (decide_eq_true exM_lE)) ?_
  refine WPl.v rfl (o_pickT rfl rfl) ?_
  refine WPl.v rfl (o_move rfl) ?_
  refine WPl.on rfl ⟨_, _, rfl, rfl, rfl⟩ (o_move rfl) ?_
  refine WPl.on rfl ⟨_, _, rfl, rfl, rfl⟩ (o_eql rfl rfl) ?_
  refine WPl.imp (Imp.bitF 64 (b' := true) rfl (decide_eq_true exM_cE)) ?_
  refine WPl.v rfl (o_pickT rfl rfl) ?_
  refine WPl.v rfl (o_move rfl) ?_
  refine WPl.on rfl ⟨_, _, rfl, rfl, rfl⟩ (o_move rfl) ?_
  refine WPl.on rfl ⟨_, _, rfl, rfl, rfl⟩ (o_eql rfl rfl) ?_
  refine WPl.imp (Imp.bitF 68 (b' := true) rfl (decide_eq_true exM_tE)) ?_
  refine WPl.v rfl (o_pickT rfl rfl) ?_
  refine WPl.v rfl (o_move rfl) ?_
  refine WPl.on rfl ⟨_, _, rfl, rfl, rfl⟩ (o_move rfl) ?_
  refine WPl.on rfl ⟨_, _, rfl, rfl, rfl⟩ (o_eql rfl rfl) ?_
  refine WPl.imp (Imp.bitF 72 (b' := true) rfl (decide_eq_true exM_wE)) ?_
  refine WPl.v rfl (o_pickT rfl rfl) ?_
  refine WPl.v rfl (o_move rfl) ?_
  refine WPl.on rfl ⟨_, _, rfl, rfl, rfl⟩ (o_move rfl) ?_
  refine WPl.on rfl ⟨_, _, rfl, rfl, rfl⟩ (o_eql rfl rfl) ?_
  refine WPl.v rfl (o_pickT rfl rfl) ?_
  refine WPl.v rfl (o_move rfl) ?_
  rw [exM_f]
  refine WPl.bit 9 10 (decide ((exM.mSafe [1, 1, 1]) = 1)) rfl rfl ?_
  refine WPl.gv 9 rfl rfl (.plain rfl Iff.rfl rfl) (fun hb => o_move rfl) ?_
  refine WPl.gx 9 10 11 rfl rfl rfl rfl (.plain rfl Iff.rfl rfl) (fun hb => OpG.settle0 (o_bsl (E := EP.int) (l := [1, 4]) R29 rfl rfl (.cons (rfl) rfl (eok_int) (.cons (rfl) rfl (eok_int) (.nil))) rfl rfl)) ?_
  refine WPl.gc0 9 rfl rfl (.plain rfl Iff.rfl rfl) (fun hb => o_sig 11 (ren [(0, 6), (1, 10)]) (c44 [1, 4] [1, 4] (by decide)) e44 rfl rfl rfl w44 ⟨(lx rfl), (lxi hb rfl), trivial⟩ r44) ?_
  refine WPl.v rfl (o_and rfl rfl rfl id) ?_
  refine WPl.v rfl (o_move rfl) ?_
  refine WPl.bit 11 12 ((decide ((exM.mSafe [1, 1, 1]) = 1)) && (sameInts [1, 4] [1, 4])) rfl rfl ?_
  refine WPl.gv 11 rfl rfl (.plain rfl Iff.rfl rfl) (fun hb => o_ldpa G23 rfl rfl rfl) ?_
  refine WPl.gv 11 rfl rfl (.plain rfl Iff.rfl rfl) (fun hb => o_build B23 rfl ⟨rfl, rfl, trivial⟩ rfl rfl) ?_
  refine WPl.gv 11 rfl rfl (.plain rfl Iff.rfl rfl) (fun hb => o_eqs (a := [(exM.mLead [1, 1, 0]).1, (exM.mLead [1, 1, 0]).2]) (b := [4, 53]) Q23 rfl Try.eqGuardType23 rfl rfl rfl rfl) ?_
  refine WPl.v rfl (o_and rfl rfl rfl id) ?_
  refine WPl.v rfl (o_move rfl) ?_
  refine WPl.bit 12 13 (((decide ((exM.mSafe [1, 1, 1]) = 1)) && (sameInts [1, 4] [1, 4])) && (decide ([(exM.mLead [1, 1, 0]).1, (exM.mLead [1, 1, 0]).2] = [4, 53]))) rfl rfl ?_
  refine WPl.gv 12 rfl rfl (.plain rfl Iff.rfl rfl) (fun hb => o_move rfl) ?_
  refine WPl.gv 12 rfl rfl (.plain rfl Iff.rfl rfl) (fun hb => o_eql rfl rfl) ?_
  refine WPl.v rfl (o_and rfl rfl rfl id) ?_
  refine WPl.v rfl (o_move rfl) ?_
  refine WPl.bit 13 14 ((((decide ((exM.mSafe [1, 1, 1]) = 1)) && (sameInts [1, 4] [1, 4])) && (decide ([(exM.mLead [1, 1, 0]).1, (exM.mLead [1, 1, 0]).2] = [4, 53]))) && (decide (exM.mCheap = 60))) rfl rfl ?_
  refine WPl.gv 13 rfl rfl (.plain rfl Iff.rfl rfl) (fun hb => o_move rfl) ?_
  refine WPl.gv 13 rfl rfl (.plain rfl Iff.rfl rfl) (fun hb => o_eql rfl rfl) ?_
  refine WPl.v rfl (o_and rfl rfl rfl id) ?_
  refine WPl.v rfl (o_move rfl) ?_
  refine WPl.bit 14 15 (((((decide ((exM.mSafe [1, 1, 1]) = 1)) && (sameInts [1, 4] [1, 4])) && (decide ([(exM.mLead [1, 1, 0]).1, (exM.mLead [1, 1, 0]).2] = [4, 53]))) && (decide (exM.mCheap = 60))) && (decide (exM.mTin = 6))) rfl rfl ?_
  refine WPl.gv 14 rfl rfl (.plain rfl Iff.rfl rfl) (fun hb => o_move rfl) ?_
  refine WPl.gv 14 rfl rfl (.plain rfl Iff.rfl rfl) (fun hb => o_eql rfl rfl) ?_
  refine WPl.v rfl (o_and rfl rfl rfl id) ?_
  refine WPl.v rfl (o_assign rfl) ?_
  refine WPl.nil ?_
  refine EX.then ?_
  refine WP.ret ?_
  rw [exM_s, exM_l, exM_c, exM_t, exM_w]
  exact EX.fin id (.inl rfl) rfl (.tmp rfl .nil) rfl (by simp [SV.res, El.res, At.res, keys]) trivial (by simp) (by simp)
end Go.Flong
namespace Go.Flong
open Go Go.Eng
def inL (l : List Int) (n : Int) : Bool := !allI (fun j => !decide (nth l j = n)) l.length
def risingAt (l : List Int) (lo hi : Int) (i : Nat) : Bool := within (nth l i) lo hi && !(decide (0 < (i : Int)) && decide (nth l i ≤ nth l ((i : Int) - 1)))
def rising (l : List Int) (lo hi : Int) : Bool := allI (risingAt l lo hi) l.length
def earlier : List Int → List Int → Bool
  | x :: a, y :: b => if x = y then earlier a b else decide (x < y)
  | _, _ => false
theorem nth_consS {α : Type} [Inhabited α] {b : α} {t : List α} {j : Nat} : nth (b :: t) ((j + 1 : Nat) : Int) = nth t (j : Int) := by
  have e : ((j + 1 : Nat) : Int).toNat = j + 1 := by omega
  have e2 : ((j : Nat) : Int).toNat = j := by omega
  simp only [nth, e, e2, List.getD_cons_succ]
theorem earlier_at : ∀ {i : Nat} {a b : List Int}, allI (sameAt a b) i = true → i < a.length → i < b.length → nth a i ≠ nth b i → earlier a b = decide (nth a i < nth b i)
  | 0, x :: a, y :: b, _, _, _, hne => by
    have hne : x ≠ y := hne
    simp only [earlier, if_neg hne]; rfl
  | i + 1, x :: a, y :: b, h, h1, h2, hne => by
    have h0 := allI_iff.1 h 0 (by omega)
    have e : x = y := by simpa [sameAt, nth] using h0
    rw [nth_consS, nth_consS] at hne
    have := earlier_at (i := i) (a := a) (b := b) (allI_iff.2 fun j hj => by
      have := allI_iff.1 h (j + 1) (by omega)
      simpa only [sameAt, nth_consS] using this) (by simpa using h1) (by simpa using h2) hne
    rw [nth_consS, nth_consS]
    simp only [earlier, if_pos e, this]
theorem earlier_end : ∀ {i : Nat} {a b : List Int}, allI (sameAt a b) i = true → i ≤ a.length → i ≤ b.length → ¬ (i < a.length ∧ i < b.length) → earlier a b = false
  | _, [], _, _, _, _, _ => by simp [earlier]
  | _, _ :: _, [], _, _, _, _ => by simp [earlier]
  | 0, x :: a, y :: b, _, _, _, h => absurd ⟨by simp, by simp⟩ h
  | i + 1, x :: a, y :: b, h, h1, h2, hne => by
    have h0 := allI_iff.1 h 0 (by omega)
    have e : x = y := by simpa [sameAt, nth] using h0
    have := earlier_end (i := i) (a := a) (b := b) (allI_iff.2 fun j hj => by
      have := allI_iff.1 h (j + 1) (by omega)
      simpa only [sameAt, nth_consS] using this) (by simpa using h1) (by simpa using h2) (by simpa using hne)
    simp only [earlier, if_pos e, this]
def addTo (a b : List Int) : Nat → List Int
  | 0 => a
  | i + 1 => lset (addTo a b i) i (nth (addTo a b i) i + nth b i)
end Go.Flong
namespace Go.Flong
open Go Go.Eng Go.Proofs
theorem w23 {l : List Int} {n : Int} : ∀ x ∈ ([.e (.a (.q 0)), .i (n)] : List SV), x.res (keys (α := Pred) [(0, PL EP.int (l))]) := by simp [SV.res, El.res, At.res, keys]
theorem r23 {l : List Int} {n : Int} : SV.res (keys (α := Pred) []) (.b (inL l n)) := by simp [SV.res, El.res, At.res, keys]
set_option maxHeartbeats 4000000 in
theorem c23 (l : List Int) (n : Int) (hl : l.length ≤ 1000000) : Sig Try.prog 23 [.e (.a (.q 0)), .i (n)] [(0, PL EP.int (l))] (.b (inL l n)) [] := by
  refine Sig.intro Try.func23 rfl 1 [(0, .e (.a (.q 0))), (1, .i (n))] rfl w23 rfl rfl fun I w => ?_
  refine WP.seq ?_
  refine WP.region ?_
  refine WPl.v rfl (o_assign rfl) ?_
  refine WPl.nil ?_
  refine EX.then ?_
  refine WP.seq ?_
  refine WP.seq ?_
  refine WP.region ?_
  refine WPl.v rfl (o_assign rfl) ?_
  refine WPl.nil ?_
  refine EX.then ?_
  refine WP.block ?_
  refine WP.loop (Gh := Nat) (fun i => ⟨1, [(0, .e (.a (.q 0))), (1, .i (n)), (4, .b (false)), (5, .i ((i : Int)))], [(0, PL EP.int (l))], [], [], []⟩) (fun i => i ≤ l.length ∧ allI (fun j => !decide (nth l j = n)) i = true) (fun i => l.length - i) (0) id ?_ (LeR.of ⟨rfl, rfl, rfl, rfl, trivial⟩ ⟨(lx rfl), trivial⟩ trivial rfl rfl rfl rfl rfl) ?_
  · exact ⟨by omega, rfl⟩
  intro i hφ
  have hi : i ≤ l.length := hφ.1
  have hall := hφ.2
  refine WP.seq ?_
  refine WP.seq ?_
  refine WP.region ?_
  refine WPl.v rfl (o_move rfl) ?_
  refine WPl.v rfl (o_move rfl) ?_
  refine WPl.v rfl (o_lenq L29 rfl (lx rfl)) ?_
  refine WPl.v rfl (o_lss rfl rfl) ?_
  refine WPl.nil ?_
  refine EX.then ?_
  refine WP.cond rfl (fun hc1 => ?_) (fun hc1 => ?_)
  · try simp only [decide_eq_true_eq, decide_eq_false_iff_not, Bool.and_eq_true, Bool.or_eq_true, Bool.and_eq_false_iff, Bool.or_eq_false_iff, Bool.not_eq_true', Bool.not_eq_false', ne_eq, Decidable.not_not] at hc1
    refine WP.skip ?_
    refine EX.then ?_
    refine WP.seq ?_
    refine WP.block ?_
    refine WP.seq ?_
    refine WP.region ?_
    refine WPl.v rfl (o_move rfl) ?_
    refine WPl.v rfl (o_move rfl) ?_
    refine WPl.x 1 2 rfl rfl rfl (o_idx L29 rfl (lx rfl) rfl (by first | omega | (simp; omega)) (by first | omega | (simp; omega))) ?_
    refine WPl.v rfl (o_ldq S3 rfl (lx rfl) intc) ?_
    refine WPl.v rfl (o_move rfl) ?_
    refine WPl.v rfl (o_eql rfl rfl) ?_
    refine WPl.nil ?_
    refine EX.then ?_
    refine WP.cond rfl (fun hc2 => ?_) (fun hc2 => ?_)
    · try simp only [decide_eq_true_eq, decide_eq_false_iff_not, Bool.and_eq_true, Bool.or_eq_true, Bool.and_eq_false_iff, Bool.or_eq_false_iff, Bool.not_eq_true', Bool.not_eq_false', ne_eq, Decidable.not_not] at hc2
      refine WP.seq ?_
      refine WP.region ?_
      refine WPl.v rfl (o_assign rfl) ?_
      refine WPl.nil ?_
      refine EX.then ?_
      refine WP.ret ?_
      refine EX.ret_blk ?_
      refine EX.ret_then ?_
      refine EX.ret_then ?_
      refine EX.ret_blk ?_
      refine EX.ret_then ?_
      rw [show inL l n = true from by simp only [inL, Bool.not_eq_true']; exact not_allI (show i < l.length by omega) (by simpa using hc2)]
      exact EX.fin id (.inl rfl) rfl (.tmp rfl .nil) rfl (by simp [SV.res, El.res, At.res, keys]) trivial (by simp) (by simp)
    · try simp only [decide_eq_true_eq, decide_eq_false_iff_not, Bool.and_eq_true, Bool.or_eq_true, Bool.and_eq_false_iff, Bool.or_eq_false_iff, Bool.not_eq_true', Bool.not_eq_false', ne_eq, Decidable.not_not] at hc2
      refine WP.skip ?_
      refine EX.blk ?_
      refine EX.then ?_
      refine WP.region ?_
      refine WPl.v rfl (o_move rfl) ?_
      refine WPl.v rfl (o_add rfl rfl (by first | omega | (simp; omega)) (by first | omega | (simp; omega))) ?_
      refine WPl.v rfl (o_assign rfl) ?_
      refine WPl.nil ?_
      refine EX.again (i + 1) id (by exact ⟨by omega, by simp only [allI, hall, Bool.true_and]; simpa using hc2⟩) (by omega) (LeR.of ⟨rfl, rfl, rfl, rfl, trivial⟩ ⟨(lx rfl), trivial⟩ trivial rfl rfl rfl rfl rfl)
  · try simp only [decide_eq_true_eq, decide_eq_false_iff_not, Bool.and_eq_true, Bool.or_eq_true, Bool.and_eq_false_iff, Bool.or_eq_false_iff, Bool.not_eq_true', Bool.not_eq_false', ne_eq, Decidable.not_not] at hc1
    refine WP.exit ?_
    refine EX.exit_then ?_
    refine EX.exit_then ?_
    refine EX.exit_blk ?_
    refine EX.then ?_
    refine WP.seq ?_
    refine WP.region ?_
    refine WPl.v rfl (o_assign rfl) ?_
    refine WPl.nil ?_
    refine EX.then ?_
    refine WP.ret ?_
    have he : i = l.length := by omega
    subst he
    rw [show inL l n = false from by simp only [inL, hall]; rfl]
    exact EX.fin id (.inl rfl) rfl (.tmp rfl .nil) rfl (by simp [SV.res, El.res, At.res, keys]) trivial (by simp) (by simp)
theorem w46 {l : List Int} {a b : Int} : ∀ x ∈ ([.e (.a (.q 0)), .i (a), .i (b)] : List SV), x.res (keys (α := Pred) [(0, PL EP.int (l))]) := by simp [SV.res, El.res, At.res, keys]
theorem r46 {l : List Int} {a b : Int} : SV.res (keys (α := Pred) []) (.b (rising l a b)) := by simp [SV.res, El.res, At.res, keys]
set_option maxHeartbeats 4000000 in
theorem c46 (l : List Int) (a b : Int) (hl : l.length ≤ 1000000) : Sig Try.prog 46 [.e (.a (.q 0)), .i (a), .i (b)] [(0, PL EP.int (l))] (.b (rising l a b)) [] := by
  refine Sig.intro Try.func46 rfl 1 [(0, .e (.a (.q 0))), (1, .i (a)), (2, .i (b))] rfl w46 rfl rfl fun I w => ?_
  refine WP.seq ?_
  refine WP.region ?_
  refine WPl.v rfl (o_assign rfl) ?_
  refine WPl.nil ?_
  refine EX.then ?_
  refine WP.seq ?_
  refine WP.seq ?_
  refine WP.region ?_
  refine WPl.v rfl (o_assign rfl) ?_
  refine WPl.nil ?_
  refine EX.then ?_
  refine WP.block ?_
  refine WP.loop (Gh := Nat) (fun i => ⟨1, [(0, .e (.a (.q 0))), (1, .i (a)), (2, .i (b)), (6, .b (false)), (7, .i ((i : Int)))], [(0, PL EP.int (l))], [], [], []⟩) (fun i => i ≤ l.length ∧ allI (risingAt l a b) i = true) (fun i => l.length - i) (0) id ?_ (LeR.of ⟨rfl, rfl, rfl, rfl, rfl, trivial⟩ ⟨(lx rfl), trivial⟩ trivial rfl rfl rfl rfl rfl) ?_
  · exact ⟨by omega, rfl⟩
  intro i hφ
  have hi : i ≤ l.length := hφ.1
  have hall := hφ.2
  refine WP.seq ?_
  refine WP.seq ?_
  refine WP.region ?_
  refine WPl.v rfl (o_move rfl) ?_
  refine WPl.v rfl (o_move rfl) ?_
  refine WPl.v rfl (o_lenq L29 rfl (lx rfl)) ?_
  refine WPl.v rfl (o_lss rfl rfl) ?_
  refine WPl.nil ?_
  refine EX.then ?_
  refine WP.cond rfl (fun hc1 => ?_) (fun hc1 => ?_)
  · try simp only [decide_eq_true_eq, decide_eq_false_iff_not, Bool.and_eq_true, Bool.or_eq_true, Bool.and_eq_false_iff, Bool.or_eq_false_iff, Bool.not_eq_true', Bool.not_eq_false', ne_eq, Decidable.not_not] at hc1
    refine WP.skip ?_
    refine EX.then ?_
    refine WP.seq ?_
    refine WP.block ?_
    refine WP.seq ?_
    refine WP.imp (Imp.bit 1 2 (!(!(within (nth l (i : Int)) a b))) rfl rfl) ?_
    refine WP.imp (Imp.bit 2 3 ((!(!(within (nth l (i : Int)) a b))) && (decide (0 < (i : Int)))) rfl rfl) ?_
    refine WP.draw (nf := 6) [⟨[15, 18, 19], [], [], [], []⟩, ⟨[14, 18, 19], [], [], [], []⟩, ⟨[18, 19], [], [3], [3], [0, 1]⟩, ⟨[18, 19], [], [], [], [0, 1, 2]⟩, ⟨[14, 15, 16, 17, 19], [3], [], [], []⟩, ⟨[14, 15, 16, 17, 18], [3], [], [], []⟩, ⟨[], [], [], [], [0, 1, 2, 3, 4, 5]⟩, ⟨[], [], [], [], [0, 1, 2, 3, 4, 5, 6]⟩, ⟨[], [], [], [], [0, 1, 2, 3, 4, 5, 6, 7]⟩, ⟨[], [], [], [], [0, 1, 2, 3, 4, 5, 6, 7, 8]⟩, ⟨[], [], [], [], [0, 1, 2, 3, 4, 5, 6, 7, 8, 9]⟩, ⟨[], [], [], [], [0, 1, 2, 3, 4, 5, 6, 7, 8, 9, 10]⟩, ⟨[27, 30, 31, 32, 33, 34], [5], [], [], [0, 1, 2, 3, 4, 5, 6, 7, 8, 9, 10, 11]⟩, ⟨[26, 30, 31, 32, 33, 34], [5], [], [], [0, 1, 2, 3, 4, 5, 6, 7, 8, 9, 10, 11]⟩, ⟨[30, 31, 32, 33, 34], [5], [4], [4], [0, 1, 2, 3, 4, 5, 6, 7, 8, 9, 10, 11, 12, 13]⟩, ⟨[30, 31, 32, 33, 34], [5], [], [], [0, 1, 2, 3, 4, 5, 6, 7, 8, 9, 10, 11, 12, 13, 14]⟩, ⟨[26, 27, 28, 29, 31, 32], [4], [], [], [0, 1, 2, 3, 4, 5, 6, 7, 8, 9, 10, 11]⟩, ⟨[26, 27, 28, 29, 30], [4], [], [], [0, 1, 2, 3, 4, 5, 6, 7, 8, 9, 10, 11]⟩, ⟨[26, 27, 28, 29, 30], [4], [], [], [0, 1, 2, 3, 4, 5, 6, 7, 8, 9, 10, 11, 17]⟩, ⟨[26, 27, 28, 29], [4], [5], [5], [0, 1, 2, 3, 4, 5, 6, 7, 8, 9, 10, 11, 16, 17, 18]⟩, ⟨[26, 27, 28, 29], [4], [], [], [0, 1, 2, 3, 4, 5, 6, 7, 8, 9, 10, 11, 16, 17, 18, 19]⟩, ⟨[], [], [], [], [0, 1, 2, 3, 4, 5, 6, 7, 8, 9, 10, 11, 12, 13, 14, 15, 16, 17, 18, 19, 20]⟩, ⟨[], [], [], [], [0, 1, 2, 3, 4, 5, 6, 7, 8, 9, 10, 11, 12, 13, 14, 15, 16, 17, 18, 19, 20, 21]⟩, ⟨[], [], [], [], [0, 1, 2, 3, 4, 5, 6, 7, 8, 9, 10, 11, 12, 13, 14, 15, 16, 17, 18, 19, 20, 21, 22]⟩] (by kernel_rfl) (by kernel_rfl) ?_
    refine DRQ.v rfl rfl rfl (o_move rfl) ?_
    refine DRQ.v rfl rfl rfl (o_move rfl) ?_
    refine DRQ.x 3 rfl rfl rfl rfl (o_idx L29 rfl (lx rfl) rfl (by first | omega | (simp; omega)) (by first | omega | (simp; omega))) ?_
    refine DRQ.v rfl rfl rfl (o_ldq S3 rfl (lx rfl) intc) ?_
    refine DRQ.v rfl rfl rfl (o_move rfl) ?_
    refine DRQ.v rfl rfl rfl (o_move rfl) ?_
    refine DRQ.cs rfl rfl rfl rfl (o_sig 4 id (c24 (nth l (i : Int)) a b) e24 rfl rfl rfl w24 trivial r24) ?_
    refine DRQ.v rfl rfl rfl (o_not rfl) ?_
    refine DRQ.v rfl rfl rfl (o_move rfl) ?_
    refine DRQ.gv 1 rfl rfl (.plain rfl (by simp) rfl) rfl (fun hb => o_move rfl) ?_
    refine DRQ.gv 1 rfl rfl (.plain rfl (by simp) rfl) rfl (fun hb => o_gtr rfl rfl) ?_
    refine DRQ.gv 1 rfl rfl (.plain rfl (by simp) rfl) rfl (fun hb => o_move rfl) ?_
    refine DRQ.gv 2 rfl rfl (.nest rfl rfl (by simp) rfl) rfl (fun hb => o_move rfl) ?_
    refine DRQ.gv 2 rfl rfl (.nest rfl rfl (by simp) rfl) rfl (fun hb => o_move rfl) ?_
    refine DRQ.gx 2 4 rfl rfl (.nest rfl rfl (by simp) rfl) rfl rfl (fun hb => o_idx L29 rfl (lx rfl) rfl (by simp at hb; omega) (by simp at hb; omega)) ?_
    refine DRQ.gv 2 rfl rfl (.nest rfl rfl (by simp) rfl) rfl (fun hb => o_ldq S3 rfl (lxi hb rfl) intc) ?_
    refine DRQ.gv 2 rfl rfl (.nest rfl rfl (by simp) rfl) rfl (fun hb => o_move rfl) ?_
    refine DRQ.gv 2 rfl rfl (.nest rfl rfl (by simp) rfl) rfl (fun hb => o_move rfl) ?_
    refine DRQ.gv 2 rfl rfl (.nest rfl rfl (by simp) rfl) rfl (fun hb => o_sub rfl rfl (by simp at hb; omega) (by simp at hb; omega)) ?_
    refine DRQ.gx 2 5 rfl rfl (.nest rfl rfl (by simp) rfl) rfl rfl (fun hb => o_idx L29 rfl (lx rfl) rfl (by simp at hb; omega) (by simp at hb; omega)) ?_
    refine DRQ.gv 2 rfl rfl (.nest rfl rfl (by simp) rfl) rfl (fun hb => o_ldq S3 rfl (lxi hb rfl) intc) ?_
    refine DRQ.gv 2 rfl rfl (.nest rfl rfl (by simp) rfl) rfl (fun hb => o_leq rfl rfl) ?_
    refine DRQ.gv 1 rfl rfl (.plain rfl (by simp) rfl) rfl (fun hb => o_and rfl rfl rfl (by first | (simp; done) | exact fun h => Bool.and_eq_true_iff.2 ⟨hb, h⟩ | simp_all)) ?_
    refine DRQ.v rfl rfl rfl (o_or rfl rfl rfl (by first | (simp; done) | simp_all)) ?_
    refine DRQ.nil' ?_
    refine EX.then ?_
    refine WP.cond rfl (fun hc2 => ?_) (fun hc2 => ?_)
    · try simp only [decide_eq_true_eq, decide_eq_false_iff_not, Bool.and_eq_true, Bool.or_eq_true, Bool.and_eq_false_iff, Bool.or_eq_false_iff, Bool.not_eq_true', Bool.not_eq_false', ne_eq, Decidable.not_not] at hc2
      refine WP.seq ?_
      refine WP.region ?_
      refine WPl.v rfl (o_assign rfl) ?_
      refine WPl.nil ?_
      refine EX.then ?_
      refine WP.ret ?_
      refine EX.ret_blk ?_
      refine EX.ret_then ?_
      refine EX.ret_then ?_
      refine EX.ret_blk ?_
      refine EX.ret_then ?_
      rw [show rising l a b = false from by refine not_allI (show i < l.length by omega) ?_; simp only [risingAt, Bool.and_eq_false_iff, Bool.not_eq_false', Bool.and_eq_true, decide_eq_true_eq]; exact hc2]
      exact EX.fin id (.inl rfl) rfl (.tmp rfl .nil) rfl (by simp [SV.res, El.res, At.res, keys]) trivial (by simp) (by simp)
    · try simp only [decide_eq_true_eq, decide_eq_false_iff_not, Bool.and_eq_true, Bool.or_eq_true, Bool.and_eq_false_iff, Bool.or_eq_false_iff, Bool.not_eq_true', Bool.not_eq_false', ne_eq, Decidable.not_not] at hc2
      refine WP.skip ?_
      refine EX.blk ?_
      refine EX.then ?_
      refine WP.region ?_
      refine WPl.v rfl (o_move rfl) ?_
      refine WPl.v rfl (o_add rfl rfl (by first | omega | (simp; omega)) (by first | omega | (simp; omega))) ?_
      refine WPl.v rfl (o_assign rfl) ?_
      refine WPl.nil ?_
      refine EX.again (i + 1) id (by exact ⟨by omega, by simp only [allI, hall, Bool.true_and, risingAt, Bool.and_eq_true, Bool.not_eq_true', Bool.and_eq_false_iff, decide_eq_false_iff_not]; exact hc2⟩) (by omega) (LeR.of ⟨rfl, rfl, rfl, rfl, rfl, trivial⟩ ⟨(lx rfl), trivial⟩ trivial rfl rfl rfl rfl rfl)
  · try simp only [decide_eq_true_eq, decide_eq_false_iff_not, Bool.and_eq_true, Bool.or_eq_true, Bool.and_eq_false_iff, Bool.or_eq_false_iff, Bool.not_eq_true', Bool.not_eq_false', ne_eq, Decidable.not_not] at hc1
    refine WP.exit ?_
    refine EX.exit_then ?_
    refine EX.exit_then ?_
    refine EX.exit_blk ?_
    refine EX.then ?_
    refine WP.seq ?_
    refine WP.region ?_
    refine WPl.v rfl (o_assign rfl) ?_
    refine WPl.nil ?_
    refine EX.then ?_
    refine WP.ret ?_
    have he : i = l.length := by omega
    subst he
    rw [show rising l a b = true from hall]
    exact EX.fin id (.inl rfl) rfl (.tmp rfl .nil) rfl (by simp [SV.res, El.res, At.res, keys]) trivial (by simp) (by simp)
theorem w66 {a b : List Int} : ∀ x ∈ ([.e (.a (.q 0)), .e (.a (.q 1))] : List SV), x.res (keys (α := Pred) [(0, PL EP.int (a)), (1, PL EP.int (b))]) := by simp [SV.res, El.res, At.res, keys]
theorem r66 {a b : List Int} : SV.res (keys (α := Pred) []) (.b (earlier a b)) := by simp [SV.res, El.res, At.res, keys]
set_option maxHeartbeats 4000000 in
theorem c66 (a b : List Int) (hl : a.length ≤ 1000000) : Sig Try.prog 66 [.e (.a (.q 0)), .e (.a (.q 1))] [(0, PL EP.int (a)), (1, PL EP.int (b))] (.b (earlier a b)) [] := by
  refine Sig.intro Try.func66 rfl 2 [(0, .e (.a (.q 0))), (1, .e (.a (.q 1)))] rfl w66 rfl rfl fun I w => ?_
  refine WP.seq ?_
  refine WP.region ?_
  refine WPl.v rfl (o_assign rfl) ?_
  refine WPl.nil ?_
  refine EX.then ?_
  refine WP.seq ?_
  refine WP.seq ?_
  refine WP.region ?_
  refine WPl.v rfl (o_assign rfl) ?_
  refine WPl.nil ?_
  refine EX.then ?_
  refine WP.block ?_
  refine WP.loop (Gh := Nat) (fun i => ⟨2, [(0, .e (.a (.q 0))), (1, .e (.a (.q 1))), (4, .b (false)), (5, .i ((i : Int)))], [(0, PL EP.int (a)), (1, PL EP.int (b))], [], [], []⟩) (fun i => i ≤ a.length ∧ i ≤ b.length ∧ allI (sameAt a b) i = true) (fun i => a.length - i) (0) id ?_ (LeR.of ⟨rfl, rfl, rfl, rfl, trivial⟩ ⟨(lx rfl), (lx rfl), trivial⟩ trivial rfl rfl rfl rfl rfl) ?_
  · exact ⟨by omega, ⟨by omega, rfl⟩⟩
  intro i hφ
  have hi : i ≤ a.length := hφ.1
  obtain ⟨_, hb1, hall⟩ := hφ
  refine WP.seq ?_
  refine WP.seq ?_
  refine WP.region ?_
  refine WPl.v rfl (o_move rfl) ?_
  refine WPl.v rfl (o_move rfl) ?_
  refine WPl.v rfl (o_lenq L29 rfl (lx rfl)) ?_
  refine WPl.v rfl (o_lss rfl rfl) ?_
  refine WPl.v rfl (o_move rfl) ?_
  refine WPl.bit 2 3 (decide ((i : Int) < (a.length : Int))) rfl rfl ?_
  refine WPl.gv 2 rfl rfl (.plain rfl Iff.rfl rfl) (fun hb => o_move rfl) ?_
  refine WPl.gv 2 rfl rfl (.plain rfl Iff.rfl rfl) (fun hb => o_move rfl) ?_
  refine WPl.gv 2 rfl rfl (.plain rfl Iff.rfl rfl) (fun hb => o_lenq L29 rfl (lx rfl)) ?_
  refine WPl.gv 2 rfl rfl (.plain rfl Iff.rfl rfl) (fun hb => o_lss rfl rfl) ?_
  refine WPl.v rfl (o_and rfl rfl rfl id) ?_
  refine WPl.nil ?_
  refine EX.then ?_
  refine WP.cond rfl (fun hc1 => ?_) (fun hc1 => ?_)
  · try simp only [decide_eq_true_eq, decide_eq_false_iff_not, Bool.and_eq_true, Bool.or_eq_true, Bool.and_eq_false_iff, Bool.or_eq_false_iff, Bool.not_eq_true', Bool.not_eq_false', ne_eq, Decidable.not_not] at hc1
    refine WP.skip ?_
    refine EX.then ?_
    refine WP.seq ?_
    refine WP.block ?_
    refine WP.seq ?_
    refine WP.draw (nf := 5) [⟨[19, 22, 23, 24, 25], [4], [], [], []⟩, ⟨[18, 22, 23, 24, 25], [4], [], [], []⟩, ⟨[22, 23, 24, 25], [4], [3], [3], [0, 1]⟩, ⟨[22, 23, 24, 25], [4], [], [], [0, 1, 2]⟩, ⟨[18, 19, 20, 21, 23], [3], [], [], []⟩, ⟨[18, 19, 20, 21, 22], [3], [], [], []⟩, ⟨[18, 19, 20, 21], [3], [4], [4], [4, 5]⟩, ⟨[18, 19, 20, 21], [3], [], [], [4, 5, 6]⟩, ⟨[], [], [], [], [0, 1, 2, 3, 4, 5, 6, 7]⟩] (by kernel_rfl) (by kernel_rfl) ?_
    refine DRQ.v rfl rfl rfl (o_move rfl) ?_
    refine DRQ.v rfl rfl rfl (o_move rfl) ?_
    refine DRQ.x 3 rfl rfl rfl rfl (o_idx L29 rfl (lx rfl) rfl (by first | omega | (simp; omega)) (by first | omega | (simp; omega))) ?_
    refine DRQ.v rfl rfl rfl (o_ldq S3 rfl (lx rfl) intc) ?_
    refine DRQ.v rfl rfl rfl (o_move rfl) ?_
    refine DRQ.v rfl rfl rfl (o_move rfl) ?_
    refine DRQ.x 4 rfl rfl rfl rfl (o_idx L29 rfl (lx rfl) rfl (by first | omega | (simp; omega)) (by first | omega | (simp; omega))) ?_
    refine DRQ.v rfl rfl rfl (o_ldq S3 rfl (lx rfl) intc) ?_
    refine DRQ.v rfl rfl rfl (o_neq rfl rfl) ?_
    refine DRQ.nil' ?_
    refine EX.then ?_
    refine WP.cond rfl (fun hc2 => ?_) (fun hc2 => ?_)
    · try simp only [decide_eq_true_eq, decide_eq_false_iff_not, Bool.and_eq_true, Bool.or_eq_true, Bool.and_eq_false_iff, Bool.or_eq_false_iff, Bool.not_eq_true', Bool.not_eq_false', ne_eq, Decidable.not_not] at hc2
      refine WP.seq ?_
      refine WP.draw (nf := 7) [⟨[28, 31, 32, 33, 34], [6], [], [], []⟩, ⟨[27, 31, 32, 33, 34], [6], [], [], []⟩, ⟨[31, 32, 33, 34], [6], [5], [5], [0, 1]⟩, ⟨[31, 32, 33, 34], [6], [], [], [0, 1, 2]⟩, ⟨[27, 28, 29, 30, 32], [5], [], [], []⟩, ⟨[27, 28, 29, 30, 31], [5], [], [], []⟩, ⟨[27, 28, 29, 30], [5], [6], [6], [4, 5]⟩, ⟨[27, 28, 29, 30], [5], [], [], [4, 5, 6]⟩, ⟨[], [], [], [], [0, 1, 2, 3, 4, 5, 6, 7]⟩, ⟨[], [], [], [], [0, 1, 2, 3, 4, 5, 6, 7, 8]⟩] (by kernel_rfl) (by kernel_rfl) ?_
      refine DRQ.v rfl rfl rfl (o_move rfl) ?_
      refine DRQ.v rfl rfl rfl (o_move rfl) ?_
      refine DRQ.x 5 rfl rfl rfl rfl (o_idx L29 rfl (lx rfl) rfl (by first | omega | (simp; omega)) (by first | omega | (simp; omega))) ?_
      refine DRQ.v rfl rfl rfl (o_ldq S3 rfl (lx rfl) intc) ?_
      refine DRQ.v rfl rfl rfl (o_move rfl) ?_
      refine DRQ.v rfl rfl rfl (o_move rfl) ?_
      refine DRQ.x 6 rfl rfl rfl rfl (o_idx L29 rfl (lx rfl) rfl (by first | omega | (simp; omega)) (by first | omega | (simp; omega))) ?_
      refine DRQ.v rfl rfl rfl (o_ldq S3 rfl (lx rfl) intc) ?_
      refine DRQ.v rfl rfl rfl (o_lss rfl rfl) ?_
      refine DRQ.v rfl rfl rfl (o_assign rfl) ?_
      refine DRQ.nil' ?_
      refine EX.then ?_
      refine WP.ret ?_
      refine EX.ret_blk ?_
      refine EX.ret_then ?_
      refine EX.ret_then ?_
      refine EX.ret_blk ?_
      refine EX.ret_then ?_
      rw [show earlier a b = decide (nth a i < nth b i) from earlier_at hall (by omega) (by omega) hc2]
      exact EX.fin id (.inl rfl) rfl (.tmp rfl .nil) rfl (by simp [SV.res, El.res, At.res, keys]) trivial (by simp) (by simp)
    · try simp only [decide_eq_true_eq, decide_eq_false_iff_not, Bool.and_eq_true, Bool.or_eq_true, Bool.and_eq_false_iff, Bool.or_eq_false_iff, Bool.not_eq_true', Bool.not_eq_false', ne_eq, Decidable.not_not] at hc2
      refine WP.skip ?_
      refine EX.blk ?_
      refine EX.then ?_
      refine WP.region ?_
      refine WPl.v rfl (o_move rfl) ?_
      refine WPl.v rfl (o_add rfl rfl (by first | omega | (simp; omega)) (by first | omega | (simp; omega))) ?_
      refine WPl.v rfl (o_assign rfl) ?_
      refine WPl.nil ?_
      refine EX.again (i + 1) id (by exact ⟨by omega, ⟨by omega, by simp only [allI, hall, Bool.true_and, sameAt, decide_eq_true_eq]; exact hc2⟩⟩) (by omega) (LeR.of ⟨rfl, rfl, rfl, rfl, trivial⟩ ⟨(lx rfl), (lx rfl), trivial⟩ trivial rfl rfl rfl rfl rfl)
  · try simp only [decide_eq_true_eq, decide_eq_false_iff_not, Bool.and_eq_true, Bool.or_eq_true, Bool.and_eq_false_iff, Bool.or_eq_false_iff, Bool.not_eq_true', Bool.not_eq_false', ne_eq, Decidable.not_not] at hc1
    refine WP.exit ?_
    refine EX.exit_then ?_
    refine EX.exit_then ?_
    refine EX.exit_blk ?_
    refine EX.then ?_
    refine WP.seq ?_
    refine WP.region ?_
    refine WPl.v rfl (o_assign rfl) ?_
    refine WPl.nil ?_
    refine EX.then ?_
    refine WP.ret ?_
    rw [show earlier a b = false from earlier_end hall hi hb1 (by omega)]
    exact EX.fin id (.inl rfl) rfl (.tmp rfl .nil) rfl (by simp [SV.res, El.res, At.res, keys]) trivial (by simp) (by simp)
end Go.Flong
namespace Go.Flong
open Go Go.Eng
theorem sumTo_plus {f : Pig → Int} {pigs : List Pig} {a b : List Int} : ∀ i : Nat, i ≤ a.length → sumTo f pigs (plus a b) i = sumTo f pigs a i + sumTo f pigs b i
  | 0, _ => by simp [sumTo]
  | i + 1, h => by
    simp only [sumTo]
    rw [sumTo_plus i (by omega), nth_plus (by omega), Int.add_mul]; omega
theorem sumOf_plus {f : Pig → Int} {pigs : List Pig} {a b : List Int} (h : b.length = a.length) : sumOf f pigs (plus a b) = sumOf f pigs a + sumOf f pigs b := by
  simp only [sumOf]
  rw [plus_len, sumTo_plus _ (Nat.le_refl _), h]
section
variable {f : Fnd} {plan : List (List Int)}
theorem addL_eq (p : Pt) (pigs : List Pig) (l : List Int) : p.addL pigs l = ⟨p.pounds + sumOf Pig.pounds pigs l, p.tl + sumOf Pig.tin pigs l, p.th + sumOf Pig.tin pigs l, p.al + sumOf Pig.ant pigs l, p.ah + sumOf Pig.ant pigs l, p.dl, p.dh⟩ := rfl
end
section
variable {f : Fnd} {plan : List (List Int)}
end
end Go.Flong
namespace Go.Flong
open Go Go.Eng
theorem takeTo_nth {left row : List Int} (hl : left.length = 4) : ∀ (m j : Nat), m ≤ 4 → nth (takeTo left row m) j = if j < m then nth left j - nth row j else nth left j
  | 0, j, _ => by rw [if_neg (by omega)]; rfl
  | m + 1, j, hm => by
    rw [takeTo, nth_lset (by rw [takeTo_len, hl]; omega), takeTo_nth hl m m (by omega), if_neg (Nat.lt_irrefl _)]
    by_cases h : j = m
    · subst h; rw [if_pos rfl, if_pos (by omega)]
    · rw [if_neg h, takeTo_nth hl m j (by omega)]
      by_cases h2 : j < m
      · rw [if_pos h2, if_pos (by omega)]
      · rw [if_neg h2, if_neg (by omega)]
theorem takeL_nth {left row : List Int} (hl : left.length = 4) (hr : row.length ≤ 4) {j : Nat} (hj : j < row.length) : nth (takeL left row) j = nth left j - nth row j := by
  rw [takeL, takeTo_nth hl _ _ hr, if_pos hj]
section
variable {f : Fnd} {plan : List (List Int)}
end
end Go.Flong
namespace Go.Flong
open Go Go.Eng
theorem not_allI_iff {p : Nat → Bool} {n : Nat} : (!allI p n) = true ↔ ∃ i : Nat, i < n ∧ p i = false := by
  rw [Bool.not_eq_true']
  constructor
  · intro h
    cases hx : decide (∃ i : Nat, i < n ∧ p i = false) with
    | true => exact of_decide_eq_true hx
    | false =>
      have hx := of_decide_eq_false hx
      have : allI p n = true := allI_iff.2 fun j hj => by
        cases hp : p j with
        | true => rfl
        | false => exact absurd ⟨j, hj, hp⟩ hx
      rw [this] at h; cases h
  · rintro ⟨i, hi, hp⟩; exact not_allI hi hp
end Go.Flong
namespace Go.Flong
open Go Go.Eng
theorem nth_cons_succ {α : Type} [Inhabited α] {b : α} {t : List α} {j : Nat} : nth (b :: t) ((j + 1 : Nat) : Int) = nth t (j : Int) := by
  have e : ((j + 1 : Nat) : Int).toNat = j + 1 := by omega
  have e2 : ((j : Nat) : Int).toNat = j := by omega
  simp only [nth, e, e2, List.getD_cons_succ]
theorem nth_cons_zero {α : Type} [Inhabited α] {b : α} {t : List α} : nth (b :: t) ((0 : Nat) : Int) = b := rfl
def remL (f : Fnd) (before : List Int) : List Int := (List.range f.shop.pigs.length).map fun j : Nat => (nth f.shop.pigs j).many - nth before j
theorem remL_len (f : Fnd) (before : List Int) : (remL f before).length = f.shop.pigs.length := by simp [remL]
theorem mem_boxS : ∀ {r x : List Int}, x ∈ boxS r ↔ x.length = r.length ∧ ∀ j : Nat, j < r.length → 0 ≤ nth x j ∧ nth x j ≤ nth r j
  | [], x => by
    simp only [boxS, List.mem_singleton, List.length_nil]
    constructor
    · rintro rfl; exact ⟨rfl, fun j hj => absurd hj (by omega)⟩
    · intro h; exact List.eq_nil_of_length_eq_zero h.1
  | b :: t, x => by
    constructor
    · intro h; exact ⟨boxS_len _ h, boxS_bnd h⟩
    · rintro ⟨h1, h2⟩
      match x, h1 with
      | y :: ys, h1 =>
        have h0 := h2 0 (by simp)
        rw [nth_cons_zero, nth_cons_zero] at h0
        simp only [boxS, List.mem_flatMap, List.mem_map, List.mem_range]
        refine ⟨y.toNat, by omega, ys, mem_boxS.2 ⟨by simpa using h1, fun j hj => ?_⟩, by rw [Int.toNat_of_nonneg h0.1]⟩
        have := h2 (j + 1) (by simpa using hj)
        rwa [nth_cons_succ, nth_cons_succ] at this
def nonneg (l : List Int) : Prop := ∀ j : Nat, j < l.length → 0 ≤ nth l j
structure BefOK (f : Fnd) (before left : List Int) : Prop where
  len : before.length = f.shop.pigs.length
  pos : nonneg before
  le : ∀ j : Nat, j < f.shop.pigs.length → nth left j = (nth f.shop.pigs j).many - nth before j
def Rep (f : Fnd) (p : Pt) (s : Sp) (before : List Int) (c : Int) : Prop :=
  p = ⟨f.shop.pounds + sumOf Pig.pounds f.shop.pigs before - c, s.tl + sumOf Pig.tin f.shop.pigs before - c, s.th + sumOf Pig.tin f.shop.pigs before - c, s.al + sumOf Pig.ant f.shop.pigs before, s.ah + sumOf Pig.ant f.shop.pigs before, s.dl - c, s.dh - c⟩
theorem BefOK.next {f : Fnd} {before left x : List Int} (hl : left.length = 4) (hp : f.shop.pigs.length ≤ 4) (h : BefOK f before left) (hx : x ∈ boxS (remL f before)) : BefOK f (plus before x) (takeL left x) := by
  obtain ⟨h1, h2⟩ := mem_boxS.1 hx
  rw [remL_len] at h1 h2
  refine ⟨by rw [plus_len, h.len], fun j hj => ?_, fun j hj => ?_⟩
  · rw [plus_len] at hj
    have h3 := h2 j (by have := h.len; omega)
    have h4 := h.pos j hj
    rw [nth_plus hj]; omega
  · rw [takeL_nth hl (by omega) (by omega), h.le j hj, nth_plus (by have := h.len; omega)]; omega
theorem Rep.next {f : Fnd} {p : Pt} {s : Sp} {before x : List Int} {c : Int} {n : Night} (hx : x.length = before.length) (h : Rep f p s before c) : Rep f ((p.addL f.shop.pigs x).lose n) { s with dl := s.dl + n.lo, dh := s.dh + n.hi } (plus before x) c := by
  have hsum := fun g : Pig → Int => sumOf_plus (f := g) (pigs := f.shop.pigs) (a := before) (b := x) hx
  unfold Rep at *
  subst h
  rw [addL_eq]
  simp only [Pt.lose, hsum, Pt.mk.injEq]
  refine ⟨?_, ?_, ?_, ?_, ?_, ?_, ?_⟩ <;> omega
end Go.Flong
namespace Go.Flong
open Go Go.Eng
theorem Rep.one {f : Fnd} {p : Pt} {s : Sp} {before : List Int} {c : Int} (h : Rep f p s before c) (i j k : Nat) : Rep f (p.one (p.tl + i) (p.al + j) (p.dl + k)) ⟨s.tl + i, s.tl + i, s.al + j, s.al + j, s.dl + k, s.dl + k⟩ before (c + (p.dl + k)) := by
  unfold Rep at *
  subst h
  simp only [Pt.mk.injEq]
  refine ⟨?_, ?_, ?_, ?_, ?_, ?_, ?_⟩ <;> omega
end Go.Flong
namespace Go.Flong
open Go Go.Eng
theorem cmpI_refl (a : Int) : cmpI a a = 0 := cmpI_eq.2 rfl
theorem cmpI_lt {a b : Int} : cmpI a b < 0 ↔ a < b := by unfold cmpI; split; omega; split <;> omega
theorem cmpL_refl : ∀ a : List Int, cmpL a a = 0
  | [] => rfl
  | x :: a => by rw [cmpL, if_pos (cmpI_refl x), cmpL_refl a]
theorem cmpL_trans : ∀ {a b c : List Int}, cmpL a b < 0 → cmpL b c ≤ 0 → cmpL a c < 0
  | [], [], _, h, _ => by simp [cmpL] at h
  | [], _ :: _, [], _, h => by simp [cmpL] at h
  | [], _ :: _, _ :: _, _, _ => by simp [cmpL]
  | _ :: _, [], _, h, _ => by simp [cmpL] at h
  | _ :: _, _ :: _, [], _, h => by simp [cmpL] at h
  | x :: a, y :: b, z :: c, h1, h2 => by
    simp only [cmpL] at h1 h2 ⊢
    by_cases e1 : cmpI x y = 0
    · rw [if_pos e1] at h1
      have e := cmpI_eq.1 e1
      subst e
      by_cases e2 : cmpI x z = 0
      · rw [if_pos e2] at h2 ⊢; exact cmpL_trans h1 h2
      · rw [if_neg e2] at h2 ⊢; omega
    · rw [if_neg e1] at h1
      have l1 := cmpI_lt.1 h1
      by_cases e2 : cmpI y z = 0
      · have e := cmpI_eq.1 e2
        subst e
        rw [if_neg e1]; exact h1
      · rw [if_neg e2] at h2
        have l2 := cmpI_lt.1 (show cmpI y z < 0 by omega)
        have l3 := cmpI_lt.2 (show x < z by omega)
        rw [if_neg (by omega)]; exact l3
theorem cmpL_flip : ∀ {a b : List Int}, ¬ cmpL a b < 0 → cmpL b a ≤ 0
  | [], [], _ => by simp [cmpL]
  | [], _ :: _, h => by simp [cmpL] at h
  | _ :: _, [], _ => by simp [cmpL]
  | x :: a, y :: b, h => by
    simp only [cmpL] at h ⊢
    by_cases e1 : cmpI x y = 0
    · rw [if_pos e1] at h
      have e := cmpI_eq.1 e1
      subst e
      rw [if_pos (cmpI_refl x)]; exact cmpL_flip h
    · rw [if_neg e1] at h
      have : ¬ x < y := fun g => h (cmpI_lt.2 g)
      have hne : x ≠ y := fun g => e1 (cmpI_eq.2 g)
      have l := cmpI_lt.2 (show y < x by omega)
      rw [if_neg (by omega)]; omega
section
variable {s : Shop}
theorem mem_adL (hs : PigsOK s.pigs) {l : List Int} : l ∈ s.adL ↔ isAdd s l = true := by
  unfold Shop.adL
  rw [List.mem_filter]
  refine ⟨fun h => h.2, fun h => ⟨?_, h⟩⟩
  have h1 := h
  simp only [isAdd, Bool.and_eq_true, decide_eq_true_eq] at h1
  refine mem_boxS.2 ⟨by rw [manyL_len]; omega, fun j hj => ?_⟩
  rw [manyL_len] at hj
  have h2 := allI_iff.1 h1.1.2 j (by omega)
  simp only [fitsMany, within, Bool.and_eq_true, decide_eq_true_eq] at h2
  rw [manyL_nth hj]; exact h2
theorem adL_index (hs : PigsOK s.pigs) {l : List Int} (h : isAdd s l = true) : ∃ j : Nat, j < s.adL.length ∧ nth s.adL (j : Int) = l := by
  obtain ⟨j, hj, e⟩ := List.mem_iff_getElem.1 ((mem_adL hs).2 h)
  exact ⟨j, hj, by rw [nthN hj]; exact e⟩
def Shop.okM (s : Shop) (l : List Int) : Bool := isAdd s l && s.safeP (s.aft l)
theorem bestM_spec (g : List Int → List Int) (hg : GOK s g) : ∀ i : Nat, i ≤ s.adL.length → (s.bestM g i = ([], []) ∧ ∀ j : Nat, j < i → s.safeP (s.aft (nth s.adL (j : Int))) = false) ∨
    ∃ b : Nat, b < i ∧ s.bestM g i = (nth s.adL (b : Int), g (nth s.adL (b : Int))) ∧ s.safeP (s.aft (nth s.adL (b : Int))) = true ∧ ∀ j : Nat, j < i → s.safeP (s.aft (nth s.adL (j : Int))) = true → cmpL (g (nth s.adL (b : Int))) (g (nth s.adL (j : Int))) ≤ 0 ∧ (j < b → cmpL (g (nth s.adL (b : Int))) (g (nth s.adL (j : Int))) < 0)
  | 0, _ => .inl ⟨rfl, fun j hj => absurd hj (by omega)⟩
  | i + 1, hi => by
    have ih := bestM_spec g hg i (by omega)
    simp only [Shop.bestM]
    cases hs : s.safeP (s.aft (nth s.adL (i : Int))) with
    | false =>
      rw [Bool.false_and, if_neg (by simp)]
      rcases ih with ⟨h1, h2⟩ | ⟨b, h1, h2, h3, h4⟩
      · refine .inl ⟨h1, fun j hj => ?_⟩
        by_cases e : j = i
        · subst e; exact hs
        · exact h2 j (by omega)
      · refine .inr ⟨b, by omega, h2, h3, fun j hj hsj => ?_⟩
        by_cases e : j = i
        · subst e; rw [hs] at hsj; cases hsj
        · exact h4 j (by omega) hsj
    | true =>
      rw [Bool.true_and]
      rcases ih with ⟨h1, h2⟩ | ⟨b, h1, h2, h3, h4⟩
      · rw [h1, if_pos (by simp)]
        refine .inr ⟨i, by omega, rfl, hs, fun j hj hsj => ?_⟩
        by_cases e : j = i
        · subst e; rw [cmpL_refl]; exact ⟨Int.le_refl _, fun h => by omega⟩
        · rw [h2 j (by omega)] at hsj; cases hsj
      · rw [h2]
        by_cases hc : cmpL (g (nth s.adL (i : Int))) (g (nth s.adL (b : Int))) < 0
        · rw [if_pos (by simp [hc])]
          refine .inr ⟨i, by omega, rfl, hs, fun j hj hsj => ?_⟩
          by_cases e : j = i
          · subst e; rw [cmpL_refl]; exact ⟨Int.le_refl _, fun h => by omega⟩
          · have h5 := cmpL_trans hc (h4 j (by omega) hsj).1
            exact ⟨by omega, fun _ => h5⟩
        · have hne : (g (nth s.adL (b : Int))).length ≠ 0 := fun e => (hg _).1 (List.length_eq_zero_iff.1 e)
          rw [if_neg (by simp only [Bool.or_eq_true, decide_eq_true_eq]; rintro (h | h); omega; exact hc h)]
          refine .inr ⟨b, by omega, rfl, h3, fun j hj hsj => ?_⟩
          by_cases e : j = i
          · subst e; exact ⟨cmpL_flip hc, fun h => by omega⟩
          · exact h4 j (by omega) hsj
theorem least_specM (hs : s.chk = true) (g : List Int → List Int) (hg : GOK s g) : (s.mE g = 3 ∧ ∀ l, s.okM l = false) ∨
    (s.mE g = 0 ∧ s.okM (s.mAdd g) = true ∧ s.mNum g = g (s.mAdd g) ∧ ∀ l, s.okM l = true → cmpL (g (s.mAdd g)) (g l) ≤ 0) := by
  have hpg := Shop.pigsOK hs
  have hE : s.mE g = if ((s.mBest g).2.length : Int) = 0 then 3 else 0 := by unfold Shop.mE; rw [hs]; rfl
  rcases bestM_spec g hg s.adL.length (Nat.le_refl _) with ⟨h1, h2⟩ | ⟨b, h1, h2, h3, h4⟩
  · left
    refine ⟨by rw [hE]; unfold Shop.mBest; rw [h1]; rfl, fun l => ?_⟩
    unfold Shop.okM
    cases ha : isAdd s l with
    | false => rfl
    | true =>
      obtain ⟨j, hj, e⟩ := adL_index hpg ha
      have := h2 j hj
      rw [e] at this; rw [this]; rfl
  · right
    have hne : (g (nth s.adL (b : Int))).length ≠ 0 := fun e => (hg _).1 (List.length_eq_zero_iff.1 e)
    have hB : s.mBest g = (nth s.adL (b : Int), g (nth s.adL (b : Int))) := h2
    have hE0 : s.mE g = 0 := by rw [hE, hB]; exact if_neg (by simp only []; omega)
    have hA : s.mAdd g = nth s.adL (b : Int) := by unfold Shop.mAdd; rw [if_pos hE0, hB]
    have hN : s.mNum g = g (nth s.adL (b : Int)) := by unfold Shop.mNum; rw [if_pos hE0, hB]
    refine ⟨hE0, ?_, by rw [hA, hN], fun l hl => ?_⟩
    · rw [hA]; unfold Shop.okM; rw [adL_at h1, h3]; rfl
    · unfold Shop.okM at hl
      rw [Bool.and_eq_true] at hl
      obtain ⟨j, hj, e⟩ := adL_index hpg hl.1
      have := (h4 j hj (by rw [e]; exact hl.2)).1
      rw [e] at this; rw [hA]; exact this
theorem price_le {a b : List Int} (h : cmpL (priceG s a) (priceG s b) ≤ 0) : sumOf Pig.pence s.pigs a < sumOf Pig.pence s.pigs b ∨ (sumOf Pig.pence s.pigs a = sumOf Pig.pence s.pigs b ∧ sumOf Pig.pounds s.pigs a ≤ sumOf Pig.pounds s.pigs b) := by
  unfold priceG at h
  simp only [cmpL] at h
  by_cases e1 : cmpI (sumOf Pig.pence s.pigs a) (sumOf Pig.pence s.pigs b) = 0
  · rw [if_pos e1] at h
    refine .inr ⟨cmpI_eq.1 e1, ?_⟩
    by_cases e2 : cmpI (sumOf Pig.pounds s.pigs a) (sumOf Pig.pounds s.pigs b) = 0
    · have := cmpI_eq.1 e2; omega
    · rw [if_neg e2] at h
      have := cmpI_lt.1 (show cmpI (sumOf Pig.pounds s.pigs a) (sumOf Pig.pounds s.pigs b) < 0 by omega)
      omega
  · rw [if_neg e1] at h
    exact .inl (cmpI_lt.1 (by omega))
theorem cheap_spec (hs : s.chk = true) : (s.mE (priceG s) = 3 ∧ s.mCheap = 0 ∧ ∀ l, s.okM l = false) ∨
    (s.mE (priceG s) = 0 ∧ s.okM (s.mAdd (priceG s)) = true ∧ s.mCheap = sumOf Pig.pence s.pigs (s.mAdd (priceG s)) ∧ ∀ l, s.okM l = true → s.mCheap ≤ sumOf Pig.pence s.pigs l) := by
  rcases least_specM hs (priceG s) (price_ok s) with ⟨h1, h2⟩ | ⟨h1, h2, h3, h4⟩
  · exact .inl ⟨h1, by unfold Shop.mCheap; rw [h1]; rfl, h2⟩
  · have e : s.mCheap = sumOf Pig.pence s.pigs (s.mAdd (priceG s)) := by
      unfold Shop.mCheap; rw [if_pos h1, h3]; rfl
    refine .inr ⟨h1, h2, e, fun l hl => ?_⟩
    rcases price_le (h4 l hl) with h | ⟨h, _⟩ <;> omega
theorem one_le {a b : Int} (h : cmpL [a] [b] ≤ 0) : a ≤ b := by
  simp only [cmpL] at h
  by_cases e : cmpI a b = 0
  · have := cmpI_eq.1 e; omega
  · rw [if_neg e] at h
    have := cmpI_lt.1 (show cmpI a b < 0 by omega); omega
theorem tin_spec (hs : s.chk = true) : (s.mE (tinG s) = 3 ∧ s.mTin = 0 ∧ ∀ l, s.okM l = false) ∨
    (s.mE (tinG s) = 0 ∧ s.okM (s.mAdd (tinG s)) = true ∧ s.mTin = sumOf Pig.tin s.pigs (s.mAdd (tinG s)) ∧ ∀ l, s.okM l = true → s.mTin ≤ sumOf Pig.tin s.pigs l) := by
  rcases least_specM hs (tinG s) (tin_ok s) with ⟨h1, h2⟩ | ⟨h1, h2, h3, h4⟩
  · exact .inl ⟨h1, by unfold Shop.mTin; rw [h1]; rfl, h2⟩
  · have e : s.mTin = sumOf Pig.tin s.pigs (s.mAdd (tinG s)) := by
      unfold Shop.mTin; rw [if_pos h1, h3]; rfl
    refine .inr ⟨h1, h2, e, fun l hl => ?_⟩
    rw [e]; exact one_le (h4 l hl)
theorem safeP_iff {p : Po} : s.safeP p = true ↔ p.pounds * s.tpl ≤ 1000 * p.tl ∧ 1000 * p.th ≤ p.pounds * s.tph ∧ p.pounds * s.apl ≤ 1000 * p.al ∧ 1000 * p.ah ≤ p.pounds * s.aph := by
  unfold Shop.safeP
  rw [allI_iff]
  constructor
  · intro h
    have h0 := h 0 (by omega)
    have h1 := h 1 (by omega)
    have h2 := h 2 (by omega)
    have h3 := h 3 (by omega)
    simp only [Shop.failsP, Bool.not_eq_true'] at h0 h1 h2 h3
    simp at h0 h1 h2 h3
    omega
  · rintro ⟨h0, h1, h2, h3⟩ j hj
    have : j = 0 ∨ j = 1 ∨ j = 2 ∨ j = 3 := by omega
    rcases this with rfl | rfl | rfl | rfl <;> simp [Shop.failsP] <;> omega
theorem justL_iff {part all T : Int} (h1 : 0 ≤ part) (h2 : 0 ≤ all) : justL part all ≤ T ↔ all * part ≤ 1000 * T := by
  have h3 := Int.mul_nonneg h2 h1
  unfold justL
  rw [Int.tdiv_eq_ediv_of_nonneg (by omega)]
  omega
theorem justH_iff {part all T : Int} (h1 : 0 ≤ part) (h2 : 0 ≤ all) : T ≤ justH part all ↔ 1000 * T ≤ all * part := by
  have h3 := Int.mul_nonneg h2 h1
  unfold justH
  rw [Int.tdiv_eq_ediv_of_nonneg h3]
  omega
end
end Go.Flong
namespace Go.Flong
open Go Go.Eng
theorem less2_of {t s : Shop} (ht : t.chk = true) (hs : s.chk = true) (h : ∀ l, s.okM l = true → ∃ l2, t.okM l2 = true ∧ sumOf Pig.pence t.pigs l2 ≤ sumOf Pig.pence s.pigs l ∧ sumOf Pig.tin t.pigs l2 ≤ sumOf Pig.tin s.pigs l) : less2 t s = true := by
  have hc : t.lCheap ≤ s.lCheap := by
    have hb : t.mE (priceG t) = 0 → t.mCheap < 100000 := fun e => (cheap_bnd e).2
    rcases cheap_spec hs with ⟨h1, _, _⟩ | ⟨h1, h2, h3, _⟩
    · have e : s.lCheap = 100000 := if_pos h1
      rw [e]
      unfold Shop.lCheap
      split
      · omega
      · next g => have := hb (mE_not ht g); omega
    · have e : s.lCheap = s.mCheap := if_neg (by omega)
      obtain ⟨l2, g1, g2, _⟩ := h _ h2
      rcases cheap_spec ht with ⟨_, _, k3⟩ | ⟨k1, _, _, k4⟩
      · rw [k3 l2] at g1; cases g1
      · have e2 : t.lCheap = t.mCheap := if_neg (by omega)
        have := k4 l2 g1
        rw [e, e2, h3]; omega
  have hd : t.lTin ≤ s.lTin := by
    have hb : t.mE (tinG t) = 0 → t.mTin < 100000 := fun e => (tin_bnd e).2
    rcases tin_spec hs with ⟨h1, _, _⟩ | ⟨h1, h2, h3, _⟩
    · have e : s.lTin = 100000 := if_pos h1
      rw [e]
      unfold Shop.lTin
      split
      · omega
      · next g => have := hb (mE_not ht g); omega
    · have e : s.lTin = s.mTin := if_neg (by omega)
      obtain ⟨l2, g1, _, g2⟩ := h _ h2
      rcases tin_spec ht with ⟨_, _, k3⟩ | ⟨k1, _, _, k4⟩
      · rw [k3 l2] at g1; cases g1
      · have e2 : t.lTin = t.mTin := if_neg (by omega)
        have := k4 l2 g1
        rw [e, e2, h3]; omega
  simp [less2, hc, hd]
theorem spans_safe {s : Shop} {p : Po} (h1 : insideS p.tl p.th s.tl s.th = true) (h2 : insideS p.al p.ah s.al s.ah = true) {l : List Int} (h : s.safeP (s.aft l) = true) : (s.spans p).safeP ((s.spans p).aft l) = true := by
  simp only [insideS, Bool.and_eq_true, decide_eq_true_eq] at h1 h2
  rw [safeP_iff] at h ⊢
  simp only [Shop.aft, Shop.spans] at h ⊢
  omega
theorem spans_can {s : Shop} {p : Po} (h1 : insideS p.tl p.th s.tl s.th = true) (h2 : insideS p.al p.ah s.al s.ah = true) {l : List Int} (h : s.canM (s.aft l) = false) : (s.spans p).canM ((s.spans p).aft l) = false := by
  simp only [insideS, Bool.and_eq_true, decide_eq_true_eq] at h1 h2
  simp only [Shop.canM, Shop.aft, Shop.spans, Bool.and_eq_false_iff, decide_eq_false_iff_not] at h ⊢
  rcases h with h | h
  · left
    have h := of_decide_eq_false h
    exact decide_eq_false fun g => h (by omega)
  · right
    have h := of_decide_eq_false h
    exact decide_eq_false fun g => h (by omega)
theorem mSafe_eq {s : Shop} {add : List Int} (hs : s.chk = true) (hv : isAdd s add = true) : s.mSafe add = if s.safeP (s.aft add) then 1 else if s.canM (s.aft add) then 3 else 2 := by
  unfold Shop.mSafe; rw [if_pos (mSafe_in hs hv).1]
theorem canM_of {s : Shop} {p : Po} (hs : s.chk = true) (hp : p.pounds ≥ 0) (h1 : p.tl ≤ p.th) (h2 : p.al ≤ p.ah) (hm : s.safeP p = true) : s.canM p = true := by
  have htb := tl_bnd hs
  rw [safeP_iff] at hm
  simp only [Shop.canM, Bool.and_eq_true, decide_eq_true_eq]
  have a1 : justL s.tpl p.pounds ≤ p.tl := (justL_iff (by omega) (by omega)).2 hm.1
  have a2 : p.th ≤ justH s.tph p.pounds := (justH_iff (by omega) (by omega)).2 hm.2.1
  have a3 : justL s.apl p.pounds ≤ p.al := (justL_iff (by omega) (by omega)).2 hm.2.2.1
  have a4 : p.ah ≤ justH s.aph p.pounds := (justH_iff (by omega) (by omega)).2 hm.2.2.2
  omega
theorem clearLaw {s : Shop} {p : Po} {add : List Int} (hr : s.ready = true) (h1 : insideS p.tl p.th s.tl s.th = true) (h2 : insideS p.al p.ah s.al s.ah = true) : ClearLaw s p add := by
  have hs := ready_chk hr
  have ht := spans_chk hs h1 h2
  constructor
  · refine less2_of ht hs fun l hl => ⟨l, ?_, Int.le_refl _, Int.le_refl _⟩
    simp only [Shop.okM, Bool.and_eq_true] at hl ⊢
    exact ⟨hl.1, spans_safe h1 h2 hl.2⟩
  · intro hv
    have hv2 : isAdd (s.spans p) add = true := hv
    rw [mSafe_eq hs hv, mSafe_eq ht hv2]
    cases ha : s.safeP (s.aft add) with
    | true => right; rw [spans_safe h1 h2 ha]; simp
    | false =>
      cases hc : s.canM (s.aft add) with
      | true => left; rfl
      | false =>
        right
        have e1 := spans_can h1 h2 hc
        have e2 : (s.spans p).safeP ((s.spans p).aft add) = false := by
          cases e : (s.spans p).safeP ((s.spans p).aft add) with
          | false => rfl
          | true =>
            have hb := aft_bnd ht (l := add) (by have := (isAddB (Shop.pigsOK ht) hv2).1; omega) (isAddB (Shop.pigsOK ht) hv2).2.2
            unfold PoB at hb
            simp only [insideS, Bool.and_eq_true, decide_eq_true_eq] at h1 h2
            have := canM_of ht (p := (s.spans p).aft add) (by omega) (by simp only [Shop.aft, Shop.spans]; omega) (by simp only [Shop.aft, Shop.spans]; omega) e
            rw [e1] at this; cases this
        rw [e1, e2]
end Go.Flong
namespace Go.Flong
open Go Go.Eng
def Shop.parts (s : Shop) (a b c d : Int) : Shop := { s with tpl := a, tph := b, apl := c, aph := d }
theorem mFails_eq {s : Shop} {add : List Int} (hs : s.chk = true) (hv : isAdd s add = true) : s.mFails add = s.mFailsTo add 4 := by
  unfold Shop.mFails; rw [if_pos (mSafe_in hs hv).1]
end Go.Flong
namespace Go.Flong
open Go Go.Eng
theorem lead_mid {s : Shop} {p : Po} {a b c : Int} (h1 : a ≤ b) (h2 : b ≤ c) (hl : 0 ≤ s.tpl ∧ 0 ≤ s.tph ∧ 0 ≤ s.apl ∧ 0 ≤ s.aph) (ha : s.safeP (p.lead a) = true) (hc : s.safeP (p.lead c) = true) : s.safeP (p.lead b) = true := by
  rw [safeP_iff] at *
  simp only [Po.lead] at *
  have m1 := Int.mul_le_mul_of_nonneg_right (show p.pounds + b ≤ p.pounds + c by omega) hl.1
  have m2 := Int.mul_le_mul_of_nonneg_right (show p.pounds + a ≤ p.pounds + b by omega) hl.2.1
  have m3 := Int.mul_le_mul_of_nonneg_right (show p.pounds + b ≤ p.pounds + c by omega) hl.2.2.1
  have m4 := Int.mul_le_mul_of_nonneg_right (show p.pounds + a ≤ p.pounds + b by omega) hl.2.2.2
  omega
theorem leadTo_spec (s : Shop) (p : Po) : ∀ n : Nat, ((s.leadTo p n).1 < 0 ∧ ∀ m : Nat, m < n → s.safeP (p.lead (m : Int)) = false) ∨
    (0 ≤ (s.leadTo p n).1 ∧ (s.leadTo p n).1 ≤ (s.leadTo p n).2 ∧ (s.leadTo p n).2 < n ∧ s.safeP (p.lead (s.leadTo p n).1) = true ∧ s.safeP (p.lead (s.leadTo p n).2) = true ∧ ∀ m : Nat, m < n → s.safeP (p.lead (m : Int)) = true → (s.leadTo p n).1 ≤ m ∧ (m : Int) ≤ (s.leadTo p n).2)
  | 0 => .inl ⟨by simp [Shop.leadTo], fun m h => by omega⟩
  | n + 1 => by
    have ih := leadTo_spec s p n
    simp only [Shop.leadTo]
    cases hs : s.safeP (p.lead (n : Int)) with
    | false =>
      simp only [Bool.false_eq_true, if_false]
      rcases ih with ⟨h1, h2⟩ | ⟨h1, h2, h3, h4, h5, h6⟩
      · exact .inl ⟨h1, fun m hm => by by_cases e : m = n; subst e; exact hs; exact h2 m (by omega)⟩
      · refine .inr ⟨h1, h2, by omega, h4, h5, fun m hm hsm => ?_⟩
        by_cases e : m = n
        · subst e; rw [hs] at hsm; cases hsm
        · exact h6 m (by omega) hsm
    | true =>
      simp only [if_true]
      right
      rcases ih with ⟨h1, h2⟩ | ⟨h1, h2, h3, h4, h5, h6⟩
      · rw [if_pos h1]
        refine ⟨by omega, by omega, by omega, hs, hs, fun m hm hsm => ?_⟩
        by_cases e : m = n
        · omega
        · rw [h2 m (by omega)] at hsm; cases hsm
      · rw [if_neg (by omega)]
        refine ⟨h1, by omega, by omega, h4, hs, fun m hm hsm => ?_⟩
        by_cases e : m = n
        · omega
        · have := h6 m (by omega) hsm; omega
def Shop.lLead (s : Shop) (add : List Int) : Int × Int := if s.leadE add = 0 then s.mLead add else (0, -1)
structure LeadLaw (s : Shop) (add : List Int) : Prop where
  e : s.leadE add = 0 ∨ s.leadE add = 3
  b : s.leadE add = 0 → 0 ≤ (s.mLead add).1 ∧ (s.mLead add).1 ≤ (s.mLead add).2 ∧ (s.mLead add).2 ≤ s.room - (s.aft add).pounds
  k : ∀ n : Int, 0 ≤ n → n ≤ s.room - (s.aft add).pounds → s.safeP ((s.aft add).lead n) = within n (s.lLead add).1 (s.lLead add).2
theorem leadLaw {s : Shop} {add : List Int} (hr : s.ready = true) (hv : isAdd s add = true) : LeadLaw s add := by
  have hs := ready_chk hr
  have hE := (mSafe_in hs hv).1
  have hrm := isAdd_room hv
  have htb := tl_bnd hs
  have hN : ((s.leadN (s.aft add) : Nat) : Int) = s.room - (s.aft add).pounds + 1 := by unfold Shop.leadN; omega
  have hLE : s.leadE add = if (s.leadTo (s.aft add) (s.leadN (s.aft add))).1 < 0 then 3 else 0 := by unfold Shop.leadE; rw [if_pos hE]
  rcases leadTo_spec s (s.aft add) (s.leadN (s.aft add)) with ⟨h1, h2⟩ | ⟨h1, h2, h3, h4, h5, h6⟩
  · have e3 : s.leadE add = 3 := by rw [hLE, if_pos h1]
    have eL : s.lLead add = (0, -1) := if_neg (by omega)
    refine ⟨.inr e3, fun h => by omega, fun n h0 hn => ?_⟩
    rw [eL]
    have := h2 n.toNat (by omega)
    rw [show ((n.toNat : Nat) : Int) = n by omega] at this
    rw [this]
    symm
    simp only [within, Bool.and_eq_false_iff, decide_eq_false_iff_not]; omega
  · have e0 : s.leadE add = 0 := by rw [hLE, if_neg (by omega)]
    have eM : s.mLead add = s.leadTo (s.aft add) (s.leadN (s.aft add)) := if_pos e0
    have eL : s.lLead add = s.leadTo (s.aft add) (s.leadN (s.aft add)) := by unfold Shop.lLead; rw [if_pos e0, eM]
    refine ⟨.inl e0, fun _ => by rw [eM]; omega, fun n h0 hn => ?_⟩
    rw [eL, Bool.eq_iff_iff]
    simp only [within, Bool.and_eq_true, decide_eq_true_eq]
    constructor
    · intro hsf
      have := h6 n.toNat (by omega) (by rw [show ((n.toNat : Nat) : Int) = n by omega]; exact hsf)
      omega
    · rintro ⟨g1, g2⟩
      exact lead_mid g1 g2 (by omega) h4 h5
end Go.Flong
namespace Go.Eng
open Go
section
variable {cx : Cx} {Q : Exit → Act → World → Prop} {ops : Array Oper} {n : Nat} {fr : List (Nat × SV)} {X : List (Nat × Pred)} {L : List (Nat × Ent)} {D : List Nat} {G : List (Nat × Bool)} {rest : List Oper} {dst : Option Tmp} {op : Op} {ty : TypeId} {pos : String} {af : Array Edge} {gd : Option (Nat × Bool)}
theorem WPl.ung (hg : GOK ops fr gd true) (K : WPl cx ops ⟨n, fr, X, L, D, G⟩ (⟨dst, op, ty, pos, af, none⟩ :: rest) Q) : WPl cx ops ⟨n, fr, X, L, D, G⟩ (⟨dst, op, ty, pos, af, gd⟩ :: rest) Q := by
  intro ε I a w hs
  have h := K ε I a w hs
  have h1 : Region.wanted (⟨dst, op, ty, pos, af, none⟩ : Oper) (yielded ops a.tmps) = true := rfl
  have h2 : Region.wanted (⟨dst, op, ty, pos, af, gd⟩ : Oper) (yielded ops a.tmps) = true := GOK.wanted (o := ⟨dst, op, ty, pos, af, gd⟩) hs hg
  simp only [wpListIn] at h ⊢
  rw [if_pos h1] at h
  rw [if_pos h2]
  exact h
end
end Go.Eng
namespace Go.Flong
open Go Go.Eng Go.Proofs
theorem e15 : Enters' Try.prog 15 := Try.call15
theorem e20 : Enters' Try.prog 20 := Try.call20
theorem e17 : Enters' Try.prog 17 := Try.call17
theorem e28 : Enters' Try.prog 28 := Try.call28
theorem e29 : Enters' Try.prog 29 := Try.call29
theorem w6 {s : Shop} {add : List Int} {n : Int} : ∀ x ∈ ([.e (.g [ai (s.pounds), ai (s.tl), ai (s.th), ai (s.al), ai (s.ah), ai (s.room), ai (s.tpl), ai (s.tph), ai (s.apl), ai (s.aph), .q 0]), .e (.a (.q 1)), .i (n)] : List SV), x.res (keys (α := Pred) [(0, PL EPig (s.pigs)), (1, PL EP.int (add))]) := by simp [SV.res, El.res, At.res, keys]
theorem r6  : SV.res (keys (α := Pred) []) (.b (true)) := by simp [SV.res, El.res, At.res, keys]
set_option maxHeartbeats 4000000 in
theorem c6 (s : Shop) (add : List Int) (n : Int) (hlaw : s.ready = true → isAdd s add = true → LeadLaw s add) : Sig Try.prog 6 [.e (.g [ai (s.pounds), ai (s.tl), ai (s.th), ai (s.al), ai (s.ah), ai (s.room), ai (s.tpl), ai (s.tph), ai (s.apl), ai (s.aph), .q 0]), .e (.a (.q 1)), .i (n)] [(0, PL EPig (s.pigs)), (1, PL EP.int (add))] (.b (true)) [] := by
  refine Sig.intro Try.func6 rfl 2 [(0, .e (.g [ai (s.pounds), ai (s.tl), ai (s.th), ai (s.al), ai (s.ah), ai (s.room), ai (s.tpl), ai (s.tph), ai (s.apl), ai (s.aph), .q 0])), (1, .e (.a (.q 1))), (2, .i (n))] rfl w6 rfl rfl fun I w => ?_
  refine WP.seq ?_
  refine WP.region ?_
  refine WPl.l 2 3 rfl rfl rfl (o_boxg rfl) ?_
  refine WPl.v rfl (o_assign rfl) ?_
  refine WPl.nil ?_
  refine EX.then ?_
  refine WP.seq ?_
  refine WP.seq ?_
  refine WP.region ?_
  refine WPl.v rfl (o_ldpa G28 rfl rfl rfl) ?_
  refine WPl.cs 3 rfl rfl rfl rfl (o_sig 3 (ren [(0, 0)]) (c15 s) e15 rfl rfl rfl w15 ⟨(lx rfl), trivial⟩ r15) ?_
  refine WPl.v rfl (o_not rfl) ?_
  refine WPl.v rfl (o_move rfl) ?_
  refine WPl.bit 3 4 (!(!s.ready)) rfl rfl ?_
  refine WPl.gv 3 rfl rfl (.plain rfl (by first | (simp; done) | simp only [Bool.not_eq_true']) rfl) (fun hb => o_ldpa G28 rfl rfl rfl) ?_
  refine WPl.gv 3 rfl rfl (.plain rfl (by first | (simp; done) | simp only [Bool.not_eq_true']) rfl) (fun hb => o_move rfl) ?_
  refine WPl.gc0 3 rfl rfl (.plain rfl (by first | (simp; done) | simp only [Bool.not_eq_true']) rfl) (fun hb => o_sig 4 (ren [(0, 0), (1, 1)]) (c20 s add (ready_chk (by simpa using hb))) e20 rfl rfl rfl w20 ⟨(lx rfl), (lx rfl), trivial⟩ r20) ?_
  refine WPl.gv 3 rfl rfl (.plain rfl (by first | (simp; done) | simp only [Bool.not_eq_true']) rfl) (fun hb => o_not rfl) ?_
  refine WPl.v rfl (o_or rfl rfl rfl (by first | (simp; done) | exact fun h => by rw [h]; rfl | exact fun h => Bool.and_eq_true_iff.2 ⟨hb, by rw [h]; rfl⟩ | simp_all)) ?_
  refine WPl.nil ?_
  refine EX.then ?_
  refine WP.cond rfl (fun hc1 => ?_) (fun hc1 => ?_)
  · try simp only [decide_eq_true_eq, decide_eq_false_iff_not, Bool.and_eq_true, Bool.or_eq_true, Bool.and_eq_false_iff, Bool.or_eq_false_iff, Bool.not_eq_true', Bool.not_eq_false', ne_eq, Decidable.not_not] at hc1
    refine WP.seq ?_
    refine WP.region ?_
    refine WPl.cs 4 rfl rfl rfl rfl (o_sig 4 id c17 e17 rfl rfl rfl w17 trivial r17) ?_
    refine WPl.v rfl (o_assign rfl) ?_
    refine WPl.nil ?_
    refine EX.then ?_
    refine WP.ret ?_
    refine EX.ret_then ?_
    exact EX.fin id (.inl rfl) rfl (.tmp rfl .nil) rfl r6 trivial (by simp) (by simp)
  · try simp only [decide_eq_true_eq, decide_eq_false_iff_not, Bool.and_eq_true, Bool.or_eq_true, Bool.and_eq_false_iff, Bool.or_eq_false_iff, Bool.not_eq_true', Bool.not_eq_false', ne_eq, Decidable.not_not] at hc1
    obtain ⟨hr, hi1⟩ : s.ready = true ∧ ((add.length : Int) ≤ 40 ∧ isAdd s add = true) := by simpa using hc1
    have hv := hi1.2
    have hs : s.chk = true := ready_chk hr
    have hpg := Shop.pigsOK hs
    have hl4 := hpg.2
    have had := isAddB hpg hv
    have hab := aft_bnd hs (l := add) (by omega) had.2.2
    have hab2 := hab
    unfold PoB at hab2
    have htb := tl_bnd hs
    have hrm := isAdd_room hv
    have law := hlaw hr hv
    refine WP.skip ?_
    refine EX.then ?_
    refine WP.seq ?_
    refine WP.draw (nf := 7) [⟨[27, 28, 29, 7], [4, 5, 6], [], [], []⟩, ⟨[26, 28, 7], [6], [4], [4], []⟩, ⟨[26, 27, 7], [4, 6], [], [], []⟩, ⟨[26, 7], [6], [5], [5, 4], [1, 2]⟩, ⟨[7], [6], [], [], [0, 1, 2, 3]⟩, ⟨[7], [6], [], [], [0, 1, 2, 3, 4]⟩, ⟨[32, 7], [6], [], [], [0, 1, 2, 3, 4, 5]⟩, ⟨[31, 7], [6], [], [], [0, 1, 2, 3, 4, 5]⟩, ⟨[26, 27, 28, 29, 30, 25, 31, 32], [4, 5], [6], [6], []⟩, ⟨[32], [], [], [6], [0, 1, 2, 3, 4, 5, 6, 8]⟩, ⟨[], [], [], [], [0, 1, 2, 3, 4, 5, 6, 7, 8, 9]⟩] (by kernel_rfl) (by kernel_rfl) ?_
    refine DRQ.v rfl rfl rfl (o_ldpa G28 rfl rfl rfl) ?_
    refine DRQ.l 4 rfl rfl rfl rfl (o_bsl (E := EP.int) (l := []) R29 rfl rfl (.nil) rfl rfl) ?_
    refine DRQ.v rfl rfl rfl (o_move rfl) ?_
    refine DRQ.u1 5 rfl rfl rfl (OpG.settle1 (.inl rfl) rfl (o_apps R29 EP.int_one rfl rfl rfl (lx rfl) (by first | omega | (simp; omega) | (simp at *; omega)) (by first | omega | (simp; omega) | (simp at *; omega)))) rfl ?_
    refine DRQ.cs rfl rfl rfl rfl (o_sig 6 (ren [(0, 0), (1, 5)]) (c27 s ([] ++ add) (by omega)) e27 rfl rfl rfl w27 ⟨(lx rfl), (lx rfl), trivial⟩ r27) ?_
    refine DRQ.v rfl rfl rfl (o_move rfl) ?_
    refine DRQ.v rfl rfl rfl (o_extract rfl rfl) ?_
    refine DRQ.v rfl rfl rfl (o_extract rfl rfl) ?_
    refine DRQ.l 6 rfl rfl rfl rfl (o_alloc Z23) ?_
    refine DRQ.s 6 rfl rfl rfl (o_stag G23 rfl rfl rfl ⟨rfl, rfl, trivial⟩ rfl rfl) ?_
    refine DRQ.v rfl rfl rfl (o_assign rfl) ?_
    refine DRQ.nil' ?_
    refine EX.then ?_
    refine WP.seq ?_
    refine WP.region ?_
    rw [List.nil_append]
    refine WPl.v rfl (o_ldpa G28 rfl rfl rfl) ?_
    refine WPl.v rfl (o_move rfl) ?_
    refine WPl.cs 7 rfl rfl rfl rfl (o_sig 7 (ren [(0, 0), (1, 1)]) (c28 s add hs (by omega) had.2.2) e28 rfl rfl rfl w28 ⟨(lx rfl), (lx rfl), trivial⟩ r28) ?_
    refine WPl.l 7 8 rfl rfl rfl (o_alloc Z25) ?_
    refine WPl.s1 (o_stag G25 rfl rfl rfl ⟨rfl, rfl, rfl, rfl, rfl, trivial⟩ rfl rfl) ?_
    refine WPl.nil ?_
    refine EX.then ?_
    refine WP.seq ?_
    refine WP.region ?_
    refine WPl.v rfl (o_fldp F28_1 rfl) ?_
    refine WPl.v rfl (o_ldp S3 rfl rfl rfl) ?_
    refine WPl.v rfl (o_fldp F25_0 rfl) ?_
    refine WPl.v rfl (o_ldp S3 rfl rfl rfl) ?_
    refine WPl.v rfl (o_sub rfl rfl (by first | omega | (simp; omega)) (by first | omega | (simp; omega))) ?_
    refine WPl.v rfl (o_assign rfl) ?_
    refine WPl.nil ?_
    refine EX.then ?_
    refine WP.seq ?_
    refine WP.seq ?_
    refine WP.region ?_
    refine WPl.v rfl (o_move rfl) ?_
    refine WPl.v rfl (o_neq rfl rfl) ?_
    refine WPl.v rfl (o_move rfl) ?_
    refine WPl.bit 8 9 (decide ((s.leadE (add)) ≠ 0)) rfl rfl ?_
    refine WPl.gv 8 rfl rfl (.plain rfl Iff.rfl rfl) (fun hb => o_move rfl) ?_
    refine WPl.gv 8 rfl rfl (.plain rfl Iff.rfl rfl) (fun hb => o_neq rfl rfl) ?_
    refine WPl.v rfl (o_and rfl rfl rfl id) ?_
    refine WPl.v rfl (o_move rfl) ?_
    refine WPl.bit 9 10 (!((decide ((s.leadE (add)) ≠ 0)) && (decide ((s.leadE (add)) ≠ 3)))) rfl rfl ?_
    refine WPl.gv 9 rfl rfl (.plain rfl (by first | (simp; done) | simp only [Bool.not_eq_true']) rfl) (fun hb => o_move rfl) ?_
    refine WPl.gv 9 rfl rfl (.plain rfl (by first | (simp; done) | simp only [Bool.not_eq_true']) rfl) (fun hb => o_eql rfl rfl) ?_
    refine WPl.gv 9 rfl rfl (.plain rfl (by first | (simp; done) | simp only [Bool.not_eq_true']) rfl) (fun hb => o_move rfl) ?_
    refine WPl.bit 10 11 ((!((decide ((s.leadE (add)) ≠ 0)) && (decide ((s.leadE (add)) ≠ 3)))) && (decide ((s.leadE (add)) = 0))) rfl rfl ?_
    refine WPl.gv 10 rfl rfl (.nest rfl rfl (by first | (simp; done) | simp only [Bool.and_eq_true, Bool.not_eq_true']) rfl) (fun hb => o_fldp F23_0 rfl) ?_
    refine WPl.gv 10 rfl rfl (.nest rfl rfl (by first | (simp; done) | simp only [Bool.and_eq_true, Bool.not_eq_true']) rfl) (fun hb => o_ldp S3 rfl rfl rfl) ?_
    refine WPl.gv 10 rfl rfl (.nest rfl rfl (by first | (simp; done) | simp only [Bool.and_eq_true, Bool.not_eq_true']) rfl) (fun hb => o_lss rfl rfl) ?_
    refine WPl.gv 10 rfl rfl (.nest rfl rfl (by first | (simp; done) | simp only [Bool.and_eq_true, Bool.not_eq_true']) rfl) (fun hb => o_move rfl) ?_
    refine WPl.bit 11 12 (((!((decide ((s.leadE (add)) ≠ 0)) && (decide ((s.leadE (add)) ≠ 3)))) && (decide ((s.leadE (add)) = 0))) && !(decide (((s.mLead (add)).1) < 0))) rfl rfl ?_
    refine WPl.gv 11 rfl rfl (.nest rfl rfl (by first | (simp; done) | simp only [Bool.and_eq_true, Bool.not_eq_true']) rfl) (fun hb => o_fldp F23_0 rfl) ?_
    refine WPl.gv 11 rfl rfl (.nest rfl rfl (by first | (simp; done) | simp only [Bool.and_eq_true, Bool.not_eq_true']) rfl) (fun hb => o_ldp S3 rfl rfl rfl) ?_
    refine WPl.gv 11 rfl rfl (.nest rfl rfl (by first | (simp; done) | simp only [Bool.and_eq_true, Bool.not_eq_true']) rfl) (fun hb => o_fldp F23_1 rfl) ?_
    refine WPl.gv 11 rfl rfl (.nest rfl rfl (by first | (simp; done) | simp only [Bool.and_eq_true, Bool.not_eq_true']) rfl) (fun hb => o_ldp S3 rfl rfl rfl) ?_
    refine WPl.gv 11 rfl rfl (.nest rfl rfl (by first | (simp; done) | simp only [Bool.and_eq_true, Bool.not_eq_true']) rfl) (fun hb => o_gtr rfl rfl) ?_
    refine WPl.gv 10 rfl rfl (.nest rfl rfl (by first | (simp; done) | simp only [Bool.and_eq_true, Bool.not_eq_true']) rfl) (fun hb => o_or rfl rfl rfl (by first | (simp; done) | exact fun h => by rw [h]; rfl | exact fun h => Bool.and_eq_true_iff.2 ⟨hb, by rw [h]; rfl⟩ | simp_all)) ?_
    refine WPl.gv 10 rfl rfl (.nest rfl rfl (by first | (simp; done) | simp only [Bool.and_eq_true, Bool.not_eq_true']) rfl) (fun hb => o_move rfl) ?_
    refine WPl.bit 12 13 (((!((decide ((s.leadE (add)) ≠ 0)) && (decide ((s.leadE (add)) ≠ 3)))) && (decide ((s.leadE (add)) = 0))) && !((decide (((s.mLead (add)).1) < 0)) || (decide (((s.mLead (add)).2) < ((s.mLead (add)).1))))) rfl rfl ?_
    refine WPl.gv 12 rfl rfl (.nest rfl rfl (by first | (simp; done) | simp only [Bool.and_eq_true, Bool.not_eq_true']) rfl) (fun hb => o_fldp F23_1 rfl) ?_
    refine WPl.gv 12 rfl rfl (.nest rfl rfl (by first | (simp; done) | simp only [Bool.and_eq_true, Bool.not_eq_true']) rfl) (fun hb => o_ldp S3 rfl rfl rfl) ?_
    refine WPl.gv 12 rfl rfl (.nest rfl rfl (by first | (simp; done) | simp only [Bool.and_eq_true, Bool.not_eq_true']) rfl) (fun hb => o_move rfl) ?_
    refine WPl.gv 12 rfl rfl (.nest rfl rfl (by first | (simp; done) | simp only [Bool.and_eq_true, Bool.not_eq_true']) rfl) (fun hb => o_gtr rfl rfl) ?_
    refine WPl.gv 10 rfl rfl (.nest rfl rfl (by first | (simp; done) | simp only [Bool.and_eq_true, Bool.not_eq_true']) rfl) (fun hb => o_or rfl rfl rfl (by first | (simp; done) | exact fun h => by rw [h]; rfl | exact fun h => Bool.and_eq_true_iff.2 ⟨hb, by rw [h]; rfl⟩ | simp_all)) ?_
    refine WPl.gv 9 rfl rfl (.plain rfl (by first | (simp; done) | simp only [Bool.not_eq_true']) rfl) (fun hb => o_and rfl rfl rfl (by first | (simp; done) | exact fun h => Bool.and_eq_true_iff.2 ⟨hb, h⟩ | simp_all)) ?_
    refine WPl.v rfl (o_or rfl rfl rfl (by first | (simp; done) | exact fun h => by rw [h]; rfl | exact fun h => Bool.and_eq_true_iff.2 ⟨hb, by rw [h]; rfl⟩ | simp_all)) ?_
    refine WPl.nil ?_
    refine EX.then ?_
    refine WP.cond rfl (fun hc2 => ?_) (fun hc2 => ?_)
    · try simp only [decide_eq_true_eq, decide_eq_false_iff_not, Bool.and_eq_true, Bool.or_eq_true, Bool.and_eq_false_iff, Bool.or_eq_false_iff, Bool.not_eq_true', Bool.not_eq_false', ne_eq, Decidable.not_not] at hc2
      exfalso
      rcases law.e with h | h
      · have := law.b h; simp [h] at hc2; omega
      · simp [h] at hc2
    · try simp only [decide_eq_true_eq, decide_eq_false_iff_not, Bool.and_eq_true, Bool.or_eq_true, Bool.and_eq_false_iff, Bool.or_eq_false_iff, Bool.not_eq_true', Bool.not_eq_false', ne_eq, Decidable.not_not] at hc2
      have hlb : s.leadE add = 0 → 0 ≤ (s.mLead add).1 ∧ (s.mLead add).1 ≤ (s.mLead add).2 ∧ (s.mLead add).2 ≤ s.room - (s.aft add).pounds := law.b
      refine WP.skip ?_
      refine EX.then ?_
      refine WP.seq ?_
      refine WP.seq ?_
      refine WP.region ?_
      refine WPl.v rfl (o_move rfl) ?_
      refine WPl.v rfl (o_neq rfl rfl) ?_
      refine WPl.nil ?_
      refine EX.then ?_
      refine WP.cond rfl (fun hc3 => ?_) (fun hc3 => ?_)
      · try simp only [decide_eq_true_eq, decide_eq_false_iff_not, Bool.and_eq_true, Bool.or_eq_true, Bool.and_eq_false_iff, Bool.or_eq_false_iff, Bool.not_eq_true', Bool.not_eq_false', ne_eq, Decidable.not_not] at hc3
        have hLL : s.lLead add = (0, -1) := if_neg (by simpa using hc3)
        refine WP.region ?_
        refine WPl.v rfl (o_build B23 rfl ⟨rfl, rfl, trivial⟩ rfl rfl) ?_
        refine WPl.s1 (o_stag G23 rfl rfl rfl ⟨rfl, rfl, trivial⟩ rfl rfl) ?_
        refine WPl.nil ?_
        refine EX.then ?_
        refine WP.seq ?_
        refine WP.region ?_
        refine WPl.v rfl (o_move rfl) ?_
        refine WPl.v rfl (o_fldp F23_0 rfl) ?_
        refine WPl.v rfl (o_ldp S3 rfl rfl rfl) ?_
        refine WPl.v rfl (o_fldp F23_1 rfl) ?_
        refine WPl.v rfl (o_ldp S3 rfl rfl rfl) ?_
        refine WPl.v rfl (o_fldp F23_0 rfl) ?_
        refine WPl.v rfl (o_ldp S3 rfl rfl rfl) ?_
        refine WPl.v rfl (o_sub rfl rfl (by first | omega | (simp; omega)) (by first | omega | (simp; omega))) ?_
        refine WPl.v rfl (o_fldp F23_1 rfl) ?_
        refine WPl.v rfl (o_ldp S3 rfl rfl rfl) ?_
        refine WPl.v rfl (o_add rfl rfl (by first | omega | (simp; omega)) (by first | omega | (simp; omega))) ?_
        refine WPl.v rfl (o_fldp F23_0 rfl) ?_
        refine WPl.v rfl (o_ldp S3 rfl rfl rfl) ?_
        refine WPl.v rfl (o_fldp F23_1 rfl) ?_
        refine WPl.v rfl (o_ldp S3 rfl rfl rfl) ?_
        refine WPl.v rfl (o_add rfl rfl (by first | omega | (simp; omega)) (by first | omega | (simp; omega))) ?_
        refine WPl.v rfl (o_quo rfl rfl (by first | omega | (simp; done) | (rw [hq]; omega)) (by first | omega | (simp; done) | (rw [hq]; omega)) (by first | omega | (simp; done) | (rw [hq]; omega))) ?_
        refine WPl.x 13 14 rfl rfl rfl (OpG.settle0 (o_bsl (E := EP.int) (l := [n, 0, -1, 0 - 1, (-1) + 1, (0 + (-1)).tdiv 2]) R29 rfl rfl (.cons (rfl) rfl (eok_int) (.cons (rfl) rfl (eok_int) (.cons (rfl) rfl (eok_int) (.cons (rfl) rfl (eok_int) (.cons (rfl) rfl (eok_int) (.cons (rfl) rfl (eok_int) (.nil))))))) rfl rfl)) ?_
        refine WPl.v rfl (o_assign rfl) ?_
        refine WPl.nil ?_
        refine EX.then ?_
        refine WP.seq ?_
        refine WP.seq ?_
        refine WP.region ?_
        refine WPl.v rfl (o_assign rfl) ?_
        refine WPl.nil ?_
        refine EX.then ?_
        refine WP.block ?_
        refine WP.loop (Gh := Nat) (fun i => ⟨14, [(3, .e (.a (.p 2 (0)))), (6, .b (false)), (7, .e (.a (.p 6 (0)))), (9, .e (.a (.p 7 (0)))), (10, .i (s.room - ((s.aft add).pounds))), (11, .e (.a (.q 13))), (12, .i ((i : Int)))], [(0, PL EPig (s.pigs)), (13, PL EP.int ([n, 0, -1, 0 - 1, (-1) + 1, (0 + (-1)).tdiv 2]))], [(2, .blk [ai (s.pounds), ai (s.tl), ai (s.th), ai (s.al), ai (s.ah), ai (s.room), ai (s.tpl), ai (s.tph), ai (s.apl), ai (s.aph), .q 0] 28), (6, .blk [ai (0), ai (-1)] 23), (7, .blk [ai ((s.aft add).pounds), ai ((s.aft add).tl), ai ((s.aft add).th), ai ((s.aft add).al), ai ((s.aft add).ah)] 25)], [], []⟩) (fun i => i ≤ 6) (fun i => 6 - i) (0) id ?_ (LeR.of ⟨rfl, rfl, rfl, rfl, rfl, rfl, rfl, trivial⟩ ⟨(lx rfl), (lx rfl), trivial⟩ ⟨rfl, rfl, rfl, trivial⟩ rfl rfl rfl rfl rfl) ?_
        · first | trivial | omega | (constructor <;> omega) | simp
        intro i hφ
        try simp only [] at hφ
        refine WP.seq ?_
        refine WP.seq ?_
        refine WP.region ?_
        refine WPl.v rfl (o_move rfl) ?_
        refine WPl.v rfl (o_move rfl) ?_
        refine WPl.v rfl (o_lenq L29 rfl (lx rfl)) ?_
        refine WPl.v rfl (o_lss rfl rfl) ?_
        refine WPl.nil ?_
        refine EX.then ?_
        refine WP.cond rfl (fun hc4 => ?_) (fun hc4 => ?_)
        · try simp only [decide_eq_true_eq, decide_eq_false_iff_not, Bool.and_eq_true, Bool.or_eq_true, Bool.and_eq_false_iff, Bool.or_eq_false_iff, Bool.not_eq_true', Bool.not_eq_false', ne_eq, Decidable.not_not] at hc4
          have hi6 : (i : Int) < 6 := by simpa using hc4
          refine WP.skip ?_
          refine EX.then ?_
          refine WP.seq ?_
          refine WP.block ?_
          refine WP.seq ?_
          refine WP.region ?_
          refine WPl.v rfl (o_move rfl) ?_
          refine WPl.v rfl (o_move rfl) ?_
          refine WPl.x 14 15 rfl rfl rfl (o_idx L29 rfl (lx rfl) rfl (by first | omega | (simp; omega)) (by first | omega | (simp; omega))) ?_
          refine WPl.v rfl (o_ldq S3 rfl (lx rfl) intc) ?_
          refine WPl.v rfl (o_assign rfl) ?_
          refine WPl.nil ?_
          refine EX.then ?_
          refine WP.seq ?_
          refine WP.seq ?_
          refine WP.region ?_
          refine WPl.v rfl (o_move rfl) ?_
          refine WPl.v rfl (o_move rfl) ?_
          refine WPl.cs 15 rfl rfl rfl rfl (o_sig 15 id (c24 (nth [n, 0, -1, 0 - 1, (-1) + 1, (0 + (-1)).tdiv 2] (i : Int)) 0 (s.room - ((s.aft add).pounds))) e24 rfl rfl rfl w24 trivial r24) ?_
          refine WPl.v rfl (o_not rfl) ?_
          refine WPl.nil ?_
          refine EX.then ?_
          refine WP.cond rfl (fun hc5 => ?_) (fun hc5 => ?_)
          · try simp only [decide_eq_true_eq, decide_eq_false_iff_not, Bool.and_eq_true, Bool.or_eq_true, Bool.and_eq_false_iff, Bool.or_eq_false_iff, Bool.not_eq_true', Bool.not_eq_false', ne_eq, Decidable.not_not] at hc5
            refine WP.exit ?_
            refine EX.exit_then ?_
            refine EX.exit_blk ?_
            refine EX.then ?_
            refine WP.region ?_
            refine WPl.v rfl (o_move rfl) ?_
            refine WPl.v rfl (o_add rfl rfl (by first | omega | (simp; omega)) (by first | omega | (simp; omega))) ?_
            refine WPl.v rfl (o_assign rfl) ?_
            refine WPl.nil ?_
            refine EX.again (i + 1) id (by first | omega | (constructor <;> omega)) (by omega) (LeR.of ⟨rfl, rfl, rfl, rfl, rfl, rfl, rfl, trivial⟩ ⟨(lx rfl), (lx rfl), trivial⟩ ⟨rfl, rfl, rfl, trivial⟩ rfl rfl rfl rfl rfl)
          · try simp only [decide_eq_true_eq, decide_eq_false_iff_not, Bool.and_eq_true, Bool.or_eq_true, Bool.and_eq_false_iff, Bool.or_eq_false_iff, Bool.not_eq_true', Bool.not_eq_false', ne_eq, Decidable.not_not] at hc5
            have hw := hc5
            simp only [within, Bool.and_eq_true, decide_eq_true_eq] at hw
            refine WP.skip ?_
            refine EX.then ?_
            refine WP.seq ?_
            refine WP.region ?_
            refine WPl.v rfl (o_ldpa G25 rfl rfl rfl) ?_
            refine WPl.l 15 16 rfl rfl rfl (o_alloc Z25) ?_
            refine WPl.s1 (o_stag G25 rfl rfl rfl ⟨rfl, rfl, rfl, rfl, rfl, trivial⟩ rfl rfl) ?_
            refine WPl.nil ?_
            refine EX.then ?_
            refine WP.seq ?_
            refine WP.region ?_
            refine WPl.v rfl (o_fldp F25_0 rfl) ?_
            refine WPl.v rfl (o_ldp S3 rfl rfl rfl) ?_
            refine WPl.v rfl (o_move rfl) ?_
            refine WPl.v rfl (o_add rfl rfl (by first | omega | (simp; omega)) (by first | omega | (simp; omega))) ?_
            refine WPl.v rfl (o_fldp F25_0 rfl) ?_
            refine WPl.s1 (o_sta S3 rfl rfl rfl rfl rfl) ?_
            refine WPl.nil ?_
            refine EX.then ?_
            refine WP.seq ?_
            refine WP.draw (nf := 16) [⟨[111, 113, 114, 115, 116, 117], [], [], [], []⟩, ⟨[110, 113, 114, 115, 116, 117], [], [], [], []⟩, ⟨[113, 114, 115, 116, 117], [], [], [], [0, 1]⟩, ⟨[110, 111, 112, 114, 115, 116, 117], [], [], [], []⟩, ⟨[110, 111, 112, 113, 116, 117], [], [], [], []⟩, ⟨[110, 111, 112, 113, 116, 117], [], [], [], [4]⟩, ⟨[110, 111, 112, 113, 114, 115], [], [], [], []⟩, ⟨[110, 111, 112, 113, 114, 115], [], [], [], [6]⟩, ⟨[], [], [], [], [0, 1, 2, 3, 4, 5, 6, 7]⟩, ⟨[], [], [], [], [0, 1, 2, 3, 4, 5, 6, 7, 8]⟩] (by kernel_rfl) (by kernel_rfl) ?_
            refine DRQ.v rfl rfl rfl (o_ldpa G28 rfl rfl rfl) ?_
            refine DRQ.v rfl rfl rfl (o_ldpa G25 rfl rfl rfl) ?_
            refine DRQ.cs rfl rfl rfl rfl (o_sig 16 (ren [(0, 0)]) (c29 s ((s.aft add).lead (nth [n, 0, -1, 0 - 1, (-1) + 1, (0 + (-1)).tdiv 2] (i : Int))) hs (by unfold PoB Po.lead; simp only []; omega)) e29 rfl rfl rfl w29 ⟨(lx rfl), trivial⟩ r29) ?_
            refine DRQ.v rfl rfl rfl (o_move rfl) ?_
            refine DRQ.v rfl rfl rfl (o_fldp F23_0 rfl) ?_
            refine DRQ.v rfl rfl rfl (o_ldp S3 rfl rfl rfl) ?_
            refine DRQ.v rfl rfl rfl (o_fldp F23_1 rfl) ?_
            refine DRQ.v rfl rfl rfl (o_ldp S3 rfl rfl rfl) ?_
            refine DRQ.cs rfl rfl rfl rfl (o_sig 16 id (c24 (nth [n, 0, -1, 0 - 1, (-1) + 1, (0 + (-1)).tdiv 2] (i : Int)) 0 (-1)) e24 rfl rfl rfl w24 trivial r24) ?_
            refine DRQ.v rfl rfl rfl (o_neb Try.underlying4 rfl rfl) ?_
            refine DRQ.nil' ?_
            refine EX.then ?_
            refine WP.cond rfl (fun hc6 => ?_) (fun hc6 => ?_)
            · try simp only [decide_eq_true_eq, decide_eq_false_iff_not, Bool.and_eq_true, Bool.or_eq_true, Bool.and_eq_false_iff, Bool.or_eq_false_iff, Bool.not_eq_true', Bool.not_eq_false', ne_eq, Decidable.not_not] at hc6
              exfalso
              have hk := law.k _ hw.1 hw.2
              rw [hLL] at hk
              rw [hk] at hc6
              simp at hc6
            · try simp only [decide_eq_true_eq, decide_eq_false_iff_not, Bool.and_eq_true, Bool.or_eq_true, Bool.and_eq_false_iff, Bool.or_eq_false_iff, Bool.not_eq_true', Bool.not_eq_false', ne_eq, Decidable.not_not] at hc6
              refine WP.skip ?_
              refine EX.blk ?_
              refine EX.then ?_
              refine WP.region ?_
              refine WPl.v rfl (o_move rfl) ?_
              refine WPl.v rfl (o_add rfl rfl (by first | omega | (simp; omega)) (by first | omega | (simp; omega))) ?_
              refine WPl.v rfl (o_assign rfl) ?_
              refine WPl.nil ?_
              refine EX.again (i + 1) id (by first | omega | (constructor <;> omega)) (by omega) (LeR.of ⟨rfl, rfl, rfl, rfl, rfl, rfl, rfl, trivial⟩ ⟨(lx rfl), (lx rfl), trivial⟩ ⟨rfl, rfl, rfl, trivial⟩ rfl rfl rfl rfl rfl)
        · try simp only [decide_eq_true_eq, decide_eq_false_iff_not, Bool.and_eq_true, Bool.or_eq_true, Bool.and_eq_false_iff, Bool.or_eq_false_iff, Bool.not_eq_true', Bool.not_eq_false', ne_eq, Decidable.not_not] at hc4
          refine WP.exit ?_
          refine EX.exit_then ?_
          refine EX.exit_then ?_
          refine EX.exit_blk ?_
          refine EX.then ?_
          refine WP.seq ?_
          refine WP.region ?_
          refine WPl.cs 14 rfl rfl rfl rfl (o_sig 14 id c17 e17 rfl rfl rfl w17 trivial r17) ?_
          refine WPl.v rfl (o_assign rfl) ?_
          refine WPl.nil ?_
          refine EX.then ?_
          refine WP.ret ?_
          exact EX.fin id (.inl rfl) rfl (.tmp rfl .nil) rfl r6 trivial (by simp) (by simp)
      · try simp only [decide_eq_true_eq, decide_eq_false_iff_not, Bool.and_eq_true, Bool.or_eq_true, Bool.and_eq_false_iff, Bool.or_eq_false_iff, Bool.not_eq_true', Bool.not_eq_false', ne_eq, Decidable.not_not] at hc3
        have hLL : s.lLead add = s.mLead add := if_pos (by simpa using hc3)
        have hlb2 := hlb (by simpa using hc3)
        have hq : ((s.mLead add).1 + (s.mLead add).2).tdiv 2 = ((s.mLead add).1 + (s.mLead add).2) / 2 := Int.tdiv_eq_ediv_of_nonneg (by omega)
        refine WP.skip ?_
        refine EX.then ?_
        refine WP.seq ?_
        refine WP.region ?_
        refine WPl.v rfl (o_move rfl) ?_
        refine WPl.v rfl (o_fldp F23_0 rfl) ?_
        refine WPl.v rfl (o_ldp S3 rfl rfl rfl) ?_
        refine WPl.v rfl (o_fldp F23_1 rfl) ?_
        refine WPl.v rfl (o_ldp S3 rfl rfl rfl) ?_
        refine WPl.v rfl (o_fldp F23_0 rfl) ?_
        refine WPl.v rfl (o_ldp S3 rfl rfl rfl) ?_
        refine WPl.v rfl (o_sub rfl rfl (by first | omega | (simp; omega)) (by first | omega | (simp; omega))) ?_
        refine WPl.v rfl (o_fldp F23_1 rfl) ?_
        refine WPl.v rfl (o_ldp S3 rfl rfl rfl) ?_
        refine WPl.v rfl (o_add rfl rfl (by first | omega | (simp; omega)) (by first | omega | (simp; omega))) ?_
        refine WPl.v rfl (o_fldp F23_0 rfl) ?_
        refine WPl.v rfl (o_ldp S3 rfl rfl rfl) ?_
        refine WPl.v rfl (o_fldp F23_1 rfl) ?_
        refine WPl.v rfl (o_ldp S3 rfl rfl rfl) ?_
        refine WPl.v rfl (o_add rfl rfl (by first | omega | (simp; omega)) (by first | omega | (simp; omega))) ?_
        refine WPl.v rfl (o_quo rfl rfl (by first | omega | (simp; done) | (rw [hq]; omega)) (by first | omega | (simp; done) | (rw [hq]; omega)) (by first | omega | (simp; done) | (rw [hq]; omega))) ?_
        refine WPl.x 13 14 rfl rfl rfl (OpG.settle0 (o_bsl (E := EP.int) (l := [n, (s.mLead (add)).1, (s.mLead (add)).2, ((s.mLead (add)).1) - 1, ((s.mLead (add)).2) + 1, (((s.mLead (add)).1) + ((s.mLead (add)).2)).tdiv 2]) R29 rfl rfl (.cons (rfl) rfl (eok_int) (.cons (rfl) rfl (eok_int) (.cons (rfl) rfl (eok_int) (.cons (rfl) rfl (eok_int) (.cons (rfl) rfl (eok_int) (.cons (rfl) rfl (eok_int) (.nil))))))) rfl rfl)) ?_
        refine WPl.v rfl (o_assign rfl) ?_
        refine WPl.nil ?_
        refine EX.then ?_
        refine WP.seq ?_
        refine WP.seq ?_
        refine WP.region ?_
        refine WPl.v rfl (o_assign rfl) ?_
        refine WPl.nil ?_
        refine EX.then ?_
        refine WP.block ?_
        refine WP.loop (Gh := Nat) (fun i => ⟨14, [(3, .e (.a (.p 2 (0)))), (6, .b (false)), (7, .e (.a (.p 6 (0)))), (9, .e (.a (.p 7 (0)))), (10, .i (s.room - ((s.aft add).pounds))), (11, .e (.a (.q 13))), (12, .i ((i : Int)))], [(0, PL EPig (s.pigs)), (13, PL EP.int ([n, (s.mLead (add)).1, (s.mLead (add)).2, ((s.mLead (add)).1) - 1, ((s.mLead (add)).2) + 1, (((s.mLead (add)).1) + ((s.mLead (add)).2)).tdiv 2]))], [(2, .blk [ai (s.pounds), ai (s.tl), ai (s.th), ai (s.al), ai (s.ah), ai (s.room), ai (s.tpl), ai (s.tph), ai (s.apl), ai (s.aph), .q 0] 28), (6, .blk [ai ((s.mLead (add)).1), ai ((s.mLead (add)).2)] 23), (7, .blk [ai ((s.aft add).pounds), ai ((s.aft add).tl), ai ((s.aft add).th), ai ((s.aft add).al), ai ((s.aft add).ah)] 25)], [], []⟩) (fun i => i ≤ 6) (fun i => 6 - i) (0) id ?_ (LeR.of ⟨rfl, rfl, rfl, rfl, rfl, rfl, rfl, trivial⟩ ⟨(lx rfl), (lx rfl), trivial⟩ ⟨rfl, rfl, rfl, trivial⟩ rfl rfl rfl rfl rfl) ?_
        · first | trivial | omega | (constructor <;> omega) | simp
        intro i hφ
        try simp only [] at hφ
        refine WP.seq ?_
        refine WP.seq ?_
        refine WP.region ?_
        refine WPl.v rfl (o_move rfl) ?_
        refine WPl.v rfl (o_move rfl) ?_
        refine WPl.v rfl (o_lenq L29 rfl (lx rfl)) ?_
        refine WPl.v rfl (o_lss rfl rfl) ?_
        refine WPl.nil ?_
        refine EX.then ?_
        refine WP.cond rfl (fun hc7 => ?_) (fun hc7 => ?_)
        · try simp only [decide_eq_true_eq, decide_eq_false_iff_not, Bool.and_eq_true, Bool.or_eq_true, Bool.and_eq_false_iff, Bool.or_eq_false_iff, Bool.not_eq_true', Bool.not_eq_false', ne_eq, Decidable.not_not] at hc7
          have hi6 : (i : Int) < 6 := by simpa using hc7
          refine WP.skip ?_
          refine EX.then ?_
          refine WP.seq ?_
          refine WP.block ?_
          refine WP.seq ?_
          refine WP.region ?_
          refine WPl.v rfl (o_move rfl) ?_
          refine WPl.v rfl (o_move rfl) ?_
          refine WPl.x 14 15 rfl rfl rfl (o_idx L29 rfl (lx rfl) rfl (by first | omega | (simp; omega)) (by first | omega | (simp; omega))) ?_
          refine WPl.v rfl (o_ldq S3 rfl (lx rfl) intc) ?_
          refine WPl.v rfl (o_assign rfl) ?_
          refine WPl.nil ?_
          refine EX.then ?_
          refine WP.seq ?_
          refine WP.seq ?_
          refine WP.region ?_
          refine WPl.v rfl (o_move rfl) ?_
          refine WPl.v rfl (o_move rfl) ?_
          refine WPl.cs 15 rfl rfl rfl rfl (o_sig 15 id (c24 (nth [n, (s.mLead (add)).1, (s.mLead (add)).2, ((s.mLead (add)).1) - 1, ((s.mLead (add)).2) + 1, (((s.mLead (add)).1) + ((s.mLead (add)).2)).tdiv 2] (i : Int)) 0 (s.room - ((s.aft add).pounds))) e24 rfl rfl rfl w24 trivial r24) ?_
          refine WPl.v rfl (o_not rfl) ?_
          refine WPl.nil ?_
          refine EX.then ?_
          refine WP.cond rfl (fun hc8 => ?_) (fun hc8 => ?_)
          · try simp only [decide_eq_true_eq, decide_eq_false_iff_not, Bool.and_eq_true, Bool.or_eq_true, Bool.and_eq_false_iff, Bool.or_eq_false_iff, Bool.not_eq_true', Bool.not_eq_false', ne_eq, Decidable.not_not] at hc8
            refine WP.exit ?_
            refine EX.exit_then ?_
            refine EX.exit_blk ?_
            refine EX.then ?_
            refine WP.region ?_
            refine WPl.v rfl (o_move rfl) ?_
            refine WPl.v rfl (o_add rfl rfl (by first | omega | (simp; omega)) (by first | omega | (simp; omega))) ?_
            refine WPl.v rfl (o_assign rfl) ?_
            refine WPl.nil ?_
            refine EX.again (i + 1) id (by first | omega | (constructor <;> omega)) (by omega) (LeR.of ⟨rfl, rfl, rfl, rfl, rfl, rfl, rfl, trivial⟩ ⟨(lx rfl), (lx rfl), trivial⟩ ⟨rfl, rfl, rfl, trivial⟩ rfl rfl rfl rfl rfl)
          · try simp only [decide_eq_true_eq, decide_eq_false_iff_not, Bool.and_eq_true, Bool.or_eq_true, Bool.and_eq_false_iff, Bool.or_eq_false_iff, Bool.not_eq_true', Bool.not_eq_false', ne_eq, Decidable.not_not] at hc8
            have hw := hc8
            simp only [within, Bool.and_eq_true, decide_eq_true_eq] at hw
            refine WP.skip ?_
            refine EX.then ?_
            refine WP.seq ?_
            refine WP.region ?_
            refine WPl.v rfl (o_ldpa G25 rfl rfl rfl) ?_
            refine WPl.l 15 16 rfl rfl rfl (o_alloc Z25) ?_
            refine WPl.s1 (o_stag G25 rfl rfl rfl ⟨rfl, rfl, rfl, rfl, rfl, trivial⟩ rfl rfl) ?_
            refine WPl.nil ?_
            refine EX.then ?_
            refine WP.seq ?_
            refine WP.region ?_
            refine WPl.v rfl (o_fldp F25_0 rfl) ?_
            refine WPl.v rfl (o_ldp S3 rfl rfl rfl) ?_
            refine WPl.v rfl (o_move rfl) ?_
            refine WPl.v rfl (o_add rfl rfl (by first | omega | (simp; omega)) (by first | omega | (simp; omega))) ?_
            refine WPl.v rfl (o_fldp F25_0 rfl) ?_
            refine WPl.s1 (o_sta S3 rfl rfl rfl rfl rfl) ?_
            refine WPl.nil ?_
            refine EX.then ?_
            refine WP.seq ?_
            refine WP.draw (nf := 16) [⟨[111, 113, 114, 115, 116, 117], [], [], [], []⟩, ⟨[110, 113, 114, 115, 116, 117], [], [], [], []⟩, ⟨[113, 114, 115, 116, 117], [], [], [], [0, 1]⟩, ⟨[110, 111, 112, 114, 115, 116, 117], [], [], [], []⟩, ⟨[110, 111, 112, 113, 116, 117], [], [], [], []⟩, ⟨[110, 111, 112, 113, 116, 117], [], [], [], [4]⟩, ⟨[110, 111, 112, 113, 114, 115], [], [], [], []⟩, ⟨[110, 111, 112, 113, 114, 115], [], [], [], [6]⟩, ⟨[], [], [], [], [0, 1, 2, 3, 4, 5, 6, 7]⟩, ⟨[], [], [], [], [0, 1, 2, 3, 4, 5, 6, 7, 8]⟩] (by kernel_rfl) (by kernel_rfl) ?_
            refine DRQ.v rfl rfl rfl (o_ldpa G28 rfl rfl rfl) ?_
            refine DRQ.v rfl rfl rfl (o_ldpa G25 rfl rfl rfl) ?_
            refine DRQ.cs rfl rfl rfl rfl (o_sig 16 (ren [(0, 0)]) (c29 s ((s.aft add).lead (nth [n, (s.mLead (add)).1, (s.mLead (add)).2, ((s.mLead (add)).1) - 1, ((s.mLead (add)).2) + 1, (((s.mLead (add)).1) + ((s.mLead (add)).2)).tdiv 2] (i : Int))) hs (by unfold PoB Po.lead; simp only []; omega)) e29 rfl rfl rfl w29 ⟨(lx rfl), trivial⟩ r29) ?_
            refine DRQ.v rfl rfl rfl (o_move rfl) ?_
            refine DRQ.v rfl rfl rfl (o_fldp F23_0 rfl) ?_
            refine DRQ.v rfl rfl rfl (o_ldp S3 rfl rfl rfl) ?_
            refine DRQ.v rfl rfl rfl (o_fldp F23_1 rfl) ?_
            refine DRQ.v rfl rfl rfl (o_ldp S3 rfl rfl rfl) ?_
            refine DRQ.cs rfl rfl rfl rfl (o_sig 16 id (c24 (nth [n, (s.mLead (add)).1, (s.mLead (add)).2, ((s.mLead (add)).1) - 1, ((s.mLead (add)).2) + 1, (((s.mLead (add)).1) + ((s.mLead (add)).2)).tdiv 2] (i : Int)) ((s.mLead (add)).1) ((s.mLead (add)).2)) e24 rfl rfl rfl w24 trivial r24) ?_
            refine DRQ.v rfl rfl rfl (o_neb Try.underlying4 rfl rfl) ?_
            refine DRQ.nil' ?_
            refine EX.then ?_
            refine WP.cond rfl (fun hc9 => ?_) (fun hc9 => ?_)
            · try simp only [decide_eq_true_eq, decide_eq_false_iff_not, Bool.and_eq_true, Bool.or_eq_true, Bool.and_eq_false_iff, Bool.or_eq_false_iff, Bool.not_eq_true', Bool.not_eq_false', ne_eq, Decidable.not_not] at hc9
              exfalso
              have hk := law.k _ hw.1 hw.2
              rw [hLL] at hk
              rw [hk] at hc9
              simp at hc9
            · try simp only [decide_eq_true_eq, decide_eq_false_iff_not, Bool.and_eq_true, Bool.or_eq_true, Bool.and_eq_false_iff, Bool.or_eq_false_iff, Bool.not_eq_true', Bool.not_eq_false', ne_eq, Decidable.not_not] at hc9
              refine WP.skip ?_
              refine EX.blk ?_
              refine EX.then ?_
              refine WP.region ?_
              refine WPl.v rfl (o_move rfl) ?_
              refine WPl.v rfl (o_add rfl rfl (by first | omega | (simp; omega)) (by first | omega | (simp; omega))) ?_
              refine WPl.v rfl (o_assign rfl) ?_
              refine WPl.nil ?_
              refine EX.again (i + 1) id (by first | omega | (constructor <;> omega)) (by omega) (LeR.of ⟨rfl, rfl, rfl, rfl, rfl, rfl, rfl, trivial⟩ ⟨(lx rfl), (lx rfl), trivial⟩ ⟨rfl, rfl, rfl, trivial⟩ rfl rfl rfl rfl rfl)
        · try simp only [decide_eq_true_eq, decide_eq_false_iff_not, Bool.and_eq_true, Bool.or_eq_true, Bool.and_eq_false_iff, Bool.or_eq_false_iff, Bool.not_eq_true', Bool.not_eq_false', ne_eq, Decidable.not_not] at hc7
          refine WP.exit ?_
          refine EX.exit_then ?_
          refine EX.exit_then ?_
          refine EX.exit_blk ?_
          refine EX.then ?_
          refine WP.seq ?_
          refine WP.region ?_
          refine WPl.cs 14 rfl rfl rfl rfl (o_sig 14 id c17 e17 rfl rfl rfl w17 trivial r17) ?_
          refine WPl.v rfl (o_assign rfl) ?_
          refine WPl.nil ?_
          refine EX.then ?_
          refine WP.ret ?_
          exact EX.fin id (.inl rfl) rfl (.tmp rfl .nil) rfl r6 trivial (by simp) (by simp)
end Go.Flong
namespace Go.Flong
open Go Go.Eng
structure Wider (s t : Shop) : Prop where
  len : t.pigs.length = s.pigs.length
  pot : t.pounds = s.pounds ∧ t.tl = s.tl ∧ t.th = s.th ∧ t.al = s.al ∧ t.ah = s.ah
  part : t.tpl = s.tpl ∧ t.tph = s.tph ∧ t.apl = s.apl ∧ t.aph = s.aph
  room : s.room ≤ t.room
  many : ∀ j : Nat, j < s.pigs.length → (nth s.pigs (j : Int)).many ≤ (nth t.pigs (j : Int)).many
  sum : ∀ l : List Int, sumOf Pig.pounds t.pigs l = sumOf Pig.pounds s.pigs l ∧ sumOf Pig.tin t.pigs l = sumOf Pig.tin s.pigs l ∧ sumOf Pig.ant t.pigs l = sumOf Pig.ant s.pigs l
theorem Wider.add {s t : Shop} (h : Wider s t) {l : List Int} (hl : isAdd s l = true) : isAdd t l = true := by
  simp only [isAdd, Bool.and_eq_true, decide_eq_true_eq] at hl ⊢
  obtain ⟨⟨h1, h2⟩, h3⟩ := hl
  rw [h.len, (h.sum l).1, h.pot.1]
  have hr := h.room
  refine ⟨⟨h1, allI_iff.2 fun j hj => ?_⟩, by omega⟩
  have h4 := allI_iff.1 h2 j hj
  have h5 := h.many j (by omega)
  simp only [fitsMany, within, Bool.and_eq_true, decide_eq_true_eq] at h4 ⊢
  omega
theorem Wider.aft {s t : Shop} (h : Wider s t) (l : List Int) : t.aft l = s.aft l := by
  obtain ⟨h1, h2, h3, h4, h5⟩ := h.pot
  obtain ⟨g1, g2, g3⟩ := h.sum l
  simp only [Shop.aft, h1, h2, h3, h4, h5, g1, g2, g3]
theorem Wider.ok {s t : Shop} (h : Wider s t) {l : List Int} (hl : s.okM l = true) : t.okM l = true := by
  unfold Shop.okM at hl ⊢
  rw [Bool.and_eq_true] at hl ⊢
  refine ⟨h.add hl.1, ?_⟩
  have h2 := hl.2
  obtain ⟨g1, g2, g3, g4⟩ := h.part
  rw [safeP_iff] at h2 ⊢
  rw [h.aft, g1, g2, g3, g4]; exact h2
def Shop.roomed (s : Shop) (n : Int) : Shop := { s with room := n }
def Shop.penced (s : Shop) (i : Int) : Shop := { s with pigs := lset s.pigs i { nth s.pigs i with pence := (nth s.pigs i).pence + 1 } }
theorem sumTo_lset {f : Pig → Int} {pigs : List Pig} {add : List Int} {k : Nat} (hk : k < pigs.length) {q : Pig} : ∀ i : Nat, sumTo f (lset pigs (k : Int) q) add i = sumTo f pigs add i + if k < i then nth add (k : Int) * (f q - f (nth pigs (k : Int))) else 0
  | 0 => by simp [sumTo]
  | i + 1 => by
    simp only [sumTo]
    rw [sumTo_lset hk i, nth_lset' hk]
    by_cases e : i = k
    · subst e
      rw [if_neg (by omega), if_pos rfl, if_pos (by omega), Int.mul_sub]; omega
    · rw [if_neg e]
      by_cases g : k < i
      · rw [if_pos g, if_pos (by omega)]; omega
      · rw [if_neg g, if_neg (by omega)]; omega
theorem sumOf_same {f : Pig → Int} {pigs : List Pig} {add : List Int} {k : Nat} (hk : k < pigs.length) {q : Pig} (h : f q = f (nth pigs (k : Int))) : sumOf f (lset pigs (k : Int) q) add = sumOf f pigs add := by
  unfold sumOf
  rw [sumTo_lset hk, h, Int.sub_self, Int.mul_zero]
  split <;> omega
theorem room_wider {s : Shop} {n : Int} (h : s.room ≤ n) : Wider s (s.roomed n) := ⟨rfl, ⟨rfl, rfl, rfl, rfl, rfl⟩, ⟨rfl, rfl, rfl, rfl⟩, h, fun _ _ => Int.le_refl _, fun _ => ⟨rfl, rfl, rfl⟩⟩
theorem pig_wider {s : Shop} {k : Nat} (hk : k < s.pigs.length) : Wider s (s.pigged (k : Int) ((nth s.pigs (k : Int)).many + 1)) := by
  refine ⟨lset_len _ _ _, ⟨rfl, rfl, rfl, rfl, rfl⟩, ⟨rfl, rfl, rfl, rfl⟩, Int.le_refl _, fun j hj => ?_, fun l => ⟨sumOf_same hk rfl, sumOf_same hk rfl, sumOf_same hk rfl⟩⟩
  unfold Shop.pigged
  simp only []
  rw [nth_lset' hk]
  split
  · next e => subst e; simp only []; omega
  · omega
theorem pence_wider {s : Shop} {k : Nat} (hk : k < s.pigs.length) : Wider s (s.penced (k : Int)) := by
  refine ⟨lset_len _ _ _, ⟨rfl, rfl, rfl, rfl, rfl⟩, ⟨rfl, rfl, rfl, rfl⟩, Int.le_refl _, fun j hj => ?_, fun l => ⟨sumOf_same hk rfl, sumOf_same hk rfl, sumOf_same hk rfl⟩⟩
  unfold Shop.penced
  simp only []
  rw [nth_lset' hk]
  split
  · next e => subst e; simp only []; omega
  · omega
theorem pence_back {s : Shop} {k : Nat} (hk : k < s.pigs.length) : Wider (s.penced (k : Int)) s := by
  refine ⟨(lset_len _ _ _).symm, ⟨rfl, rfl, rfl, rfl, rfl⟩, ⟨rfl, rfl, rfl, rfl⟩, Int.le_refl _, fun j hj => ?_, fun l => ⟨((pence_wider hk).sum l).1.symm, ((pence_wider hk).sum l).2.1.symm, ((pence_wider hk).sum l).2.2.symm⟩⟩
  unfold Shop.penced
  simp only []
  rw [nth_lset' hk]
  split
  · next e => subst e; simp only []; omega
  · omega
theorem pence_sum {s : Shop} {k : Nat} (hk : k < s.pigs.length) {l : List Int} (hl : l.length = s.pigs.length) : sumOf Pig.pence (s.penced (k : Int)).pigs l = sumOf Pig.pence s.pigs l + nth l (k : Int) := by
  unfold Shop.penced sumOf
  simp only []
  rw [sumTo_lset hk, if_pos (by omega)]
  simp only []
  rw [show (nth s.pigs (k : Int)).pence + 1 - (nth s.pigs (k : Int)).pence = 1 by omega, Int.mul_one]
theorem pence_of {s : Shop} {k : Nat} (hk : k < s.pigs.length) : ∀ {l : List Int}, s.okM l = true → sumOf Pig.pence s.pigs l ≤ sumOf Pig.pence (s.penced (k : Int)).pigs l ∧ sumOf Pig.pence (s.penced (k : Int)).pigs l ≤ sumOf Pig.pence s.pigs l + (nth s.pigs (k : Int)).many := by
  intro l h
  simp only [Shop.okM, isAdd, Bool.and_eq_true, decide_eq_true_eq] at h
  obtain ⟨⟨⟨h1, h2⟩, _⟩, _⟩ := h
  have h3 := allI_iff.1 h2 k (by omega)
  simp only [fitsMany, within, Bool.and_eq_true, decide_eq_true_eq] at h3
  rw [pence_sum hk (by omega)]; omega
theorem dearer {s : Shop} {k : Nat} (hk : k < s.pigs.length) (hs : s.chk = true) (ho : (s.penced (k : Int)).chk = true) : s.lCheap ≤ (s.penced (k : Int)).lCheap ∧ (s.penced (k : Int)).lCheap ≤ s.lCheap + (nth s.pigs (k : Int)).many ∧ (s.lCheap < 100000 ∨ (s.penced (k : Int)).lCheap = 100000) := by
  have hm := Pig.bnds ((Shop.pigsOK hs).at hk)
  have hw := pence_wider hk
  have hb := pence_back hk
  rcases cheap_spec hs with ⟨h1, _, h3⟩ | ⟨h1, h2, h3, h4⟩
  · have e : s.lCheap = 100000 := if_pos h1
    rcases cheap_spec ho with ⟨g1, _, _⟩ | ⟨g1, g2, _, _⟩
    · have e2 : (s.penced (k : Int)).lCheap = 100000 := if_pos g1
      omega
    · have := hb.ok g2
      rw [h3] at this; cases this
  · have e : s.lCheap = s.mCheap := if_neg (by omega)
    have hlt := (cheap_bnd h1).2
    rcases cheap_spec ho with ⟨g1, _, g3⟩ | ⟨g1, g2, g3, g4⟩
    · have := hw.ok h2
      rw [g3] at this; cases this
    · have e2 : (s.penced (k : Int)).lCheap = (s.penced (k : Int)).mCheap := if_neg (by omega)
      have k1 := g4 _ (hw.ok h2)
      have k2 := pence_of hk h2
      have k3 := h4 _ (hb.ok g2)
      have k4 := pence_of hk (hb.ok g2)
      omega
structure MoreLaw (s : Shop) (kind room : Int) : Prop where
  r : s.room < room → (s.roomed room).ready = true → less2 (s.roomed room) s = true
  p : 0 ≤ kind → kind < s.pigs.length → (s.pigged kind ((nth s.pigs kind).many + 1)).ready = true → less2 (s.pigged kind ((nth s.pigs kind).many + 1)) s = true
  c : 0 ≤ kind → kind < s.pigs.length → (s.penced kind).ready = true → s.lCheap ≤ (s.penced kind).lCheap ∧ (s.penced kind).lCheap ≤ s.lCheap + (nth s.pigs kind).many ∧ (s.lCheap < 100000 ∨ (s.penced kind).lCheap = 100000)
theorem moreLaw {s : Shop} {kind room : Int} (hr : s.ready = true) : MoreLaw s kind room := by
  have hs := ready_chk hr
  refine ⟨fun h ho => ?_, fun h0 h1 ho => ?_, fun h0 h1 ho => ?_⟩
  · exact less2_of (ready_chk ho) hs fun l hl => ⟨l, (room_wider (by omega)).ok hl, Int.le_refl _, Int.le_refl _⟩
  · obtain ⟨k, rfl⟩ := Int.eq_ofNat_of_zero_le h0
    have hk : k < s.pigs.length := by omega
    exact less2_of (ready_chk ho) hs fun l hl => ⟨l, (pig_wider hk).ok hl, Int.le_of_eq (sumOf_same hk rfl), Int.le_of_eq (sumOf_same hk rfl)⟩
  · obtain ⟨k, rfl⟩ := Int.eq_ofNat_of_zero_le h0
    exact dearer (by omega) hs (ready_chk ho)
end Go.Flong
