/- Walks (printed by gen.py off the specs). -/
import Derived.Test.YtglbnodjcngefaaHP2
import Derived.Test.YtglbnodjcngefaaProg
set_option linter.unusedSimpArgs false
set_option linter.unusedVariables false
namespace Go.Flong
open Go Go.Eng Go.Proofs
theorem e76 : Enters' Try.prog 76 := Try.call76
theorem e93 : Enters' Try.prog 93 := Try.call93
theorem e89 : Enters' Try.prog 89 := Try.call89
theorem e87 : Enters' Try.prog 87 := Try.call87
theorem w25 {f : Fnd} {plan : List (List Int)} : ∀ x ∈ ([.e (.g [ai (f.shop.pounds), ai (f.shop.tl), ai (f.shop.th), ai (f.shop.al), ai (f.shop.ah), ai (f.shop.room), ai (f.shop.tpl), ai (f.shop.tph), ai (f.shop.apl), ai (f.shop.aph), .q 0, .q 1]), .e (.a (.q 2))] : List SV), x.res (keys (α := Pred) [(0, PL EPig (f.shop.pigs)), (1, PL ENight (f.nights)), (2, PL (EP.sl EP.int) (plan))]) := by simp [SV.res, El.res, At.res, keys]
theorem r25 {f : Fnd} {plan : List (List Int)} : SV.res (keys (α := Pred) [(0, PL EP.int (f.wFailsV plan))]) (.t [.a (.q 0), .a (ai (f.wOpen (f.wPlan plan)))]) := by simp [SV.res, El.res, At.res, keys]
set_option maxHeartbeats 4000000 in
theorem c25 (f : Fnd) (plan : List (List Int)) (hl : f.shop.pigs.length ≤ 40) : Sig Try.prog 25 [.e (.g [ai (f.shop.pounds), ai (f.shop.tl), ai (f.shop.th), ai (f.shop.al), ai (f.shop.ah), ai (f.shop.room), ai (f.shop.tpl), ai (f.shop.tph), ai (f.shop.apl), ai (f.shop.aph), .q 0, .q 1]), .e (.a (.q 2))] [(0, PL EPig (f.shop.pigs)), (1, PL ENight (f.nights)), (2, PL (EP.sl EP.int) (plan))] (.t [.a (.q 0), .a (ai (f.wOpen (f.wPlan plan)))]) [(0, PL EP.int (f.wFailsV plan))] := by
  rcases (show f.chk = false ∨ (f.chk = true ∧ (f.wPlan plan) = false) ∨ (f.chk = true ∧ (f.wPlan plan) = true) from by cases f.chk <;> cases (f.wPlan plan) <;> simp) with hf | ⟨hf, hv⟩ | ⟨hf, hv⟩
  · skip
    refine Sig.intro Try.func25 rfl 3 [(0, .e (.g [ai (f.shop.pounds), ai (f.shop.tl), ai (f.shop.th), ai (f.shop.al), ai (f.shop.ah), ai (f.shop.room), ai (f.shop.tpl), ai (f.shop.tph), ai (f.shop.apl), ai (f.shop.aph), .q 0, .q 1])), (1, .e (.a (.q 2)))] rfl w25 rfl rfl fun I w => ?_
    refine WP.seq ?_
    refine WP.region ?_
    refine WPl.l 3 4 rfl rfl rfl (o_boxg rfl) ?_
    refine WPl.l 4 5 rfl rfl rfl (o_boxa rfl (.inl ⟨_, (lx rfl), PL.one⟩)) ?_
    refine WPl.v rfl (o_assign rfl) ?_
    refine WPl.v rfl (o_assign rfl) ?_
    refine WPl.nil ?_
    refine EX.then ?_
    refine WP.seq ?_
    refine WP.region ?_
    refine WPl.v rfl (o_ldpa G31 rfl rfl rfl) ?_
    refine WPl.imp (Imp.frzb (E := EP.box (PL (EP.sl EP.int) (plan))) (y := ()) 4 5 6 rfl rfl (bok_box (lx rfl)) rfl rfl rfl) ?_
    refine WPl.x 6 7 rfl rfl rfl (o_mkfn0 6 rfl) ?_
    refine WPl.cs 7 rfl rfl rfl rfl (o_sig 7 (ren [(0, 0), (1, 1), (2, 6)]) (c76CE f hf hl) e76 rfl rfl rfl w76CE ⟨(lx rfl), (lx rfl), (lx rfl), trivial⟩ r76CE) ?_
    refine WPl.v rfl (o_move rfl) ?_
    refine WPl.v rfl (o_extract rfl rfl) ?_
    refine WPl.v rfl (o_extract rfl rfl) ?_
    refine WPl.v rfl (o_assign rfl) ?_
    refine WPl.v rfl (o_assign rfl) ?_
    refine WPl.nil ?_
    refine EX.then ?_
    refine WP.seq ?_
    refine WP.seq ?_
    refine WP.region ?_
    refine WPl.v rfl (o_move rfl) ?_
    refine WPl.v rfl (o_neq rfl rfl) ?_
    refine WPl.nil ?_
    refine EX.then ?_
    refine WP.cond rfl (fun hc1 => ?_) (fun hc1 => ?_)
    · try simp only [decide_eq_true_eq, decide_eq_false_iff_not, Bool.and_eq_true, Bool.or_eq_true, Bool.and_eq_false_iff, Bool.or_eq_false_iff, Bool.not_eq_true', Bool.not_eq_false', ne_eq, Decidable.not_not] at hc1
      refine WP.seq ?_
      refine WP.region ?_
      refine WPl.v rfl (o_move rfl) ?_
      refine WPl.v rfl (o_assign rfl) ?_
      refine WPl.v rfl (o_assign rfl) ?_
      refine WPl.nil ?_
      refine EX.then ?_
      refine WP.ret ?_
      refine EX.ret_then ?_
      refine EX.imp (Imp.nam 7 8 (.slice none 0 0) (R := PN EP.int) pn_ok rfl rfl) ?_
      refine EX.imp (Imp.swF 4 7 rfl (lxr rfl)) ?_
      have he : f.wOpen (f.wPlan plan) = 130 := by simp [Fnd.wOpen, hf]
      rw [he, show f.wFailsV plan = [] from by simp [Fnd.wFailsV, he]]
      exact EX.fin (ren [(0, 7)]) (.inl rfl) rfl (.tmp rfl (.tmp rfl .nil)) rfl (by simp [SV.res, El.res, At.res, keys]) ⟨lxl rfl, trivial⟩ (by simp) (by simp)
    · try simp only [decide_eq_true_eq, decide_eq_false_iff_not, Bool.and_eq_true, Bool.or_eq_true, Bool.and_eq_false_iff, Bool.or_eq_false_iff, Bool.not_eq_true', Bool.not_eq_false', ne_eq, Decidable.not_not] at hc1
      simp at hc1
  · skip
    refine Sig.intro Try.func25 rfl 3 [(0, .e (.g [ai (f.shop.pounds), ai (f.shop.tl), ai (f.shop.th), ai (f.shop.al), ai (f.shop.ah), ai (f.shop.room), ai (f.shop.tpl), ai (f.shop.tph), ai (f.shop.apl), ai (f.shop.aph), .q 0, .q 1])), (1, .e (.a (.q 2)))] rfl w25 rfl rfl fun I w => ?_
    refine WP.seq ?_
    refine WP.region ?_
    refine WPl.l 3 4 rfl rfl rfl (o_boxg rfl) ?_
    refine WPl.l 4 5 rfl rfl rfl (o_boxa rfl (.inl ⟨_, (lx rfl), PL.one⟩)) ?_
    refine WPl.v rfl (o_assign rfl) ?_
    refine WPl.v rfl (o_assign rfl) ?_
    refine WPl.nil ?_
    refine EX.then ?_
    refine WP.seq ?_
    refine WP.region ?_
    refine WPl.v rfl (o_ldpa G31 rfl rfl rfl) ?_
    refine WPl.imp (Imp.frzb (E := EP.box (PL (EP.sl EP.int) (plan))) (y := ()) 4 5 6 rfl rfl (bok_box (lx rfl)) rfl rfl rfl) ?_
    refine WPl.x 6 7 rfl rfl rfl (o_mkfva (svs := fun (r : Option Nat) => [.e (.a (.q 0))]) (X0 := fun (r : Option Nat) => [(0, PP (EWk r) (f))]) (sv := fun (r : Option Nat) => .b ((f.wPlan plan))) (X := fun (r : Option Nat) => []) (cs := [.e (.a (.q 1))]) (Xc := [(1, PP (EP.box (PL (EP.sl EP.int) (plan))) ())]) 6 (ren [(1, 5)]) (fun (r : Option Nat) => (c93 f r plan hf)) e93 (fun _ => rfl) rfl SvsOK.rf (fun _ => (by simp [SV.res, El.res, At.res, keys])) (by simp [SV.res, El.res, At.res, keys]) ⟨(lx rfl), trivial⟩) ?_
    refine WPl.cs 7 rfl rfl rfl rfl (o_sig 7 (ren [(0, 0), (1, 1), (2, 6)]) (c76CF f (f.wPlan plan) hf hv) e76 rfl rfl rfl w76CF ⟨(lx rfl), (lx rfl), (lx rfl), trivial⟩ r76CF) ?_
    refine WPl.v rfl (o_move rfl) ?_
    refine WPl.v rfl (o_extract rfl rfl) ?_
    refine WPl.v rfl (o_extract rfl rfl) ?_
    refine WPl.v rfl (o_assign rfl) ?_
    refine WPl.v rfl (o_assign rfl) ?_
    refine WPl.nil ?_
    refine EX.then ?_
    refine WP.seq ?_
    refine WP.seq ?_
    refine WP.region ?_
    refine WPl.v rfl (o_move rfl) ?_
    refine WPl.v rfl (o_neq rfl rfl) ?_
    refine WPl.nil ?_
    refine EX.then ?_
    refine WP.cond rfl (fun hc1 => ?_) (fun hc1 => ?_)
    · try simp only [decide_eq_true_eq, decide_eq_false_iff_not, Bool.and_eq_true, Bool.or_eq_true, Bool.and_eq_false_iff, Bool.or_eq_false_iff, Bool.not_eq_true', Bool.not_eq_false', ne_eq, Decidable.not_not] at hc1
      refine WP.seq ?_
      refine WP.region ?_
      refine WPl.v rfl (o_move rfl) ?_
      refine WPl.v rfl (o_assign rfl) ?_
      refine WPl.v rfl (o_assign rfl) ?_
      refine WPl.nil ?_
      refine EX.then ?_
      refine WP.ret ?_
      refine EX.ret_then ?_
      refine EX.imp (Imp.nam 7 8 (.slice none 0 0) (R := PN EP.int) pn_ok rfl rfl) ?_
      refine EX.imp (Imp.swF 4 7 rfl (lxr rfl)) ?_
      have he : f.wOpen (f.wPlan plan) = 1 := by simp [Fnd.wOpen, hf, hv]
      rw [he, show f.wFailsV plan = [] from by simp [Fnd.wFailsV, he]]
      exact EX.fin (ren [(0, 7)]) (.inl rfl) rfl (.tmp rfl (.tmp rfl .nil)) rfl (by simp [SV.res, El.res, At.res, keys]) ⟨lxl rfl, trivial⟩ (by simp) (by simp)
    · try simp only [decide_eq_true_eq, decide_eq_false_iff_not, Bool.and_eq_true, Bool.or_eq_true, Bool.and_eq_false_iff, Bool.or_eq_false_iff, Bool.not_eq_true', Bool.not_eq_false', ne_eq, Decidable.not_not] at hc1
      simp at hc1
  · skip
    refine Sig.intro Try.func25 rfl 3 [(0, .e (.g [ai (f.shop.pounds), ai (f.shop.tl), ai (f.shop.th), ai (f.shop.al), ai (f.shop.ah), ai (f.shop.room), ai (f.shop.tpl), ai (f.shop.tph), ai (f.shop.apl), ai (f.shop.aph), .q 0, .q 1])), (1, .e (.a (.q 2)))] rfl w25 rfl rfl fun I w => ?_
    refine WP.seq ?_
    refine WP.region ?_
    refine WPl.l 3 4 rfl rfl rfl (o_boxg rfl) ?_
    refine WPl.l 4 5 rfl rfl rfl (o_boxa rfl (.inl ⟨_, (lx rfl), PL.one⟩)) ?_
    refine WPl.v rfl (o_assign rfl) ?_
    refine WPl.v rfl (o_assign rfl) ?_
    refine WPl.nil ?_
    refine EX.then ?_
    refine WP.seq ?_
    refine WP.region ?_
    refine WPl.v rfl (o_ldpa G31 rfl rfl rfl) ?_
    refine WPl.imp (Imp.frzb (E := EP.box (PL (EP.sl EP.int) (plan))) (y := ()) 4 5 6 rfl rfl (bok_box (lx rfl)) rfl rfl rfl) ?_
    refine WPl.x 6 7 rfl rfl rfl (o_mkfva (svs := fun (r : Option Nat) => [.e (.a (.q 0))]) (X0 := fun (r : Option Nat) => [(0, PP (EWk r) (f))]) (sv := fun (r : Option Nat) => .b ((f.wPlan plan))) (X := fun (r : Option Nat) => []) (cs := [.e (.a (.q 1))]) (Xc := [(1, PP (EP.box (PL (EP.sl EP.int) (plan))) ())]) 6 (ren [(1, 5)]) (fun (r : Option Nat) => (c93 f r plan hf)) e93 (fun _ => rfl) rfl SvsOK.rf (fun _ => (by simp [SV.res, El.res, At.res, keys])) (by simp [SV.res, El.res, At.res, keys]) ⟨(lx rfl), trivial⟩) ?_
    refine WPl.cM 9 (o_sigm (J := [0]) 7 8 (ren [(0, 0), (1, 1), (2, 6)]) (c76C f (f.wPlan plan) hf hv) e76 rfl rfl SvsOK.rf w76C ⟨(lx rfl), (lx rfl), (lx rfl), trivial⟩ (fun _ => rfl) (by simp [SV.res, El.res, At.res, keys]) rfl) rfl rfl rfl fun b11 => ?_
    refine WPl.v rfl (o_move rfl) ?_
    refine WPl.v rfl (o_extract rfl rfl) ?_
    refine WPl.v rfl (o_extract rfl rfl) ?_
    refine WPl.v rfl (o_assign rfl) ?_
    refine WPl.v rfl (o_assign rfl) ?_
    refine WPl.nil ?_
    refine EX.then ?_
    refine WP.seq ?_
    refine WP.seq ?_
    refine WP.region ?_
    refine WPl.v rfl (o_move rfl) ?_
    refine WPl.v rfl (o_neq rfl rfl) ?_
    refine WPl.nil ?_
    refine EX.then ?_
    refine WP.cond rfl (fun hc1 => ?_) (fun hc1 => ?_)
    · try simp only [decide_eq_true_eq, decide_eq_false_iff_not, Bool.and_eq_true, Bool.or_eq_true, Bool.and_eq_false_iff, Bool.or_eq_false_iff, Bool.not_eq_true', Bool.not_eq_false', ne_eq, Decidable.not_not] at hc1
      simp at hc1
    · try simp only [decide_eq_true_eq, decide_eq_false_iff_not, Bool.and_eq_true, Bool.or_eq_true, Bool.and_eq_false_iff, Bool.or_eq_false_iff, Bool.not_eq_true', Bool.not_eq_false', ne_eq, Decidable.not_not] at hc1
      have hp := wPlanB hf hv
      have hcb := Fnd.chkB hf
      have htb := tl_bnd (Fnd.shopOK hf)
      have hpg := Shop.pigsOK (Fnd.shopOK hf)
      refine WP.skip ?_
      refine EX.then ?_
      refine WP.seq ?_
      refine WP.region ?_
      refine WPl.v rfl (o_move rfl) ?_
      refine WPl.x 9 10 rfl rfl rfl (o_ldqx S32 rfl (lx rfl) boxx) ?_
      refine WPl.cs 11 rfl rfl rfl rfl (o_sig 10 (ren [(0, 7), (1, 9)]) (c89 f (some b11) plan hf hp) e89 rfl rfl rfl w89 ⟨(lx rfl), (lx rfl), trivial⟩ r89) ?_
      refine WPl.v rfl (o_assign rfl) ?_
      refine WPl.v rfl (o_assign rfl) ?_
      refine WPl.nil ?_
      refine EX.then ?_
      refine WP.ret ?_
      have he : f.wOpen (f.wPlan plan) = 0 := by simp [Fnd.wOpen, hf, hv]
      rw [he, show f.wFailsV plan = f.wFails plan from by simp [Fnd.wFailsV, he]]
      exact EX.fin (ren [(0, 10)]) (.inl rfl) rfl (.tmp rfl (.tmp rfl .nil)) rfl (by simp [SV.res, El.res, At.res, keys]) ⟨(lx rfl), trivial⟩ (by simp) (by simp)
theorem w23 {f : Fnd} {plan : List (List Int)} : ∀ x ∈ ([.e (.g [ai (f.shop.pounds), ai (f.shop.tl), ai (f.shop.th), ai (f.shop.al), ai (f.shop.ah), ai (f.shop.room), ai (f.shop.tpl), ai (f.shop.tph), ai (f.shop.apl), ai (f.shop.aph), .q 0, .q 1]), .e (.a (.q 2))] : List SV), x.res (keys (α := Pred) [(0, PL EPig (f.shop.pigs)), (1, PL ENight (f.nights)), (2, PL (EP.sl EP.int) (plan))]) := by simp [SV.res, El.res, At.res, keys]
theorem r23 {f : Fnd} {plan : List (List Int)} : SV.res (keys (α := Pred) []) (.t [.a (ai (f.wSafeV plan)), .a (ai (f.wOpen (f.wPlan plan)))]) := by simp [SV.res, El.res, At.res, keys]
set_option maxHeartbeats 4000000 in
theorem c23 (f : Fnd) (plan : List (List Int)) (hl : f.shop.pigs.length ≤ 40) : Sig Try.prog 23 [.e (.g [ai (f.shop.pounds), ai (f.shop.tl), ai (f.shop.th), ai (f.shop.al), ai (f.shop.ah), ai (f.shop.room), ai (f.shop.tpl), ai (f.shop.tph), ai (f.shop.apl), ai (f.shop.aph), .q 0, .q 1]), .e (.a (.q 2))] [(0, PL EPig (f.shop.pigs)), (1, PL ENight (f.nights)), (2, PL (EP.sl EP.int) (plan))] (.t [.a (ai (f.wSafeV plan)), .a (ai (f.wOpen (f.wPlan plan)))]) [] := by
  rcases (show f.chk = false ∨ (f.chk = true ∧ (f.wPlan plan) = false) ∨ (f.chk = true ∧ (f.wPlan plan) = true) from by cases f.chk <;> cases (f.wPlan plan) <;> simp) with hf | ⟨hf, hv⟩ | ⟨hf, hv⟩
  · skip
    refine Sig.intro Try.func23 rfl 3 [(0, .e (.g [ai (f.shop.pounds), ai (f.shop.tl), ai (f.shop.th), ai (f.shop.al), ai (f.shop.ah), ai (f.shop.room), ai (f.shop.tpl), ai (f.shop.tph), ai (f.shop.apl), ai (f.shop.aph), .q 0, .q 1])), (1, .e (.a (.q 2)))] rfl w23 rfl rfl fun I w => ?_
    refine WP.seq ?_
    refine WP.region ?_
    refine WPl.l 3 4 rfl rfl rfl (o_boxg rfl) ?_
    refine WPl.l 4 5 rfl rfl rfl (o_boxa rfl (.inl ⟨_, (lx rfl), PL.one⟩)) ?_
    refine WPl.v rfl (o_assign rfl) ?_
    refine WPl.v rfl (o_assign rfl) ?_
    refine WPl.nil ?_
    refine EX.then ?_
    refine WP.seq ?_
    refine WP.region ?_
    refine WPl.v rfl (o_ldpa G31 rfl rfl rfl) ?_
    refine WPl.imp (Imp.frzb (E := EP.box (PL (EP.sl EP.int) (plan))) (y := ()) 4 5 6 rfl rfl (bok_box (lx rfl)) rfl rfl rfl) ?_
    refine WPl.x 6 7 rfl rfl rfl (o_mkfn0 6 rfl) ?_
    refine WPl.cs 7 rfl rfl rfl rfl (o_sig 7 (ren [(0, 0), (1, 1), (2, 6)]) (c76CE f hf hl) e76 rfl rfl rfl w76CE ⟨(lx rfl), (lx rfl), (lx rfl), trivial⟩ r76CE) ?_
    refine WPl.v rfl (o_move rfl) ?_
    refine WPl.v rfl (o_extract rfl rfl) ?_
    refine WPl.v rfl (o_extract rfl rfl) ?_
    refine WPl.v rfl (o_assign rfl) ?_
    refine WPl.v rfl (o_assign rfl) ?_
    refine WPl.nil ?_
    refine EX.then ?_
    refine WP.seq ?_
    refine WP.seq ?_
    refine WP.region ?_
    refine WPl.v rfl (o_move rfl) ?_
    refine WPl.v rfl (o_neq rfl rfl) ?_
    refine WPl.nil ?_
    refine EX.then ?_
    refine WP.cond rfl (fun hc1 => ?_) (fun hc1 => ?_)
    · try simp only [decide_eq_true_eq, decide_eq_false_iff_not, Bool.and_eq_true, Bool.or_eq_true, Bool.and_eq_false_iff, Bool.or_eq_false_iff, Bool.not_eq_true', Bool.not_eq_false', ne_eq, Decidable.not_not] at hc1
      refine WP.seq ?_
      refine WP.region ?_
      refine WPl.v rfl (o_move rfl) ?_
      refine WPl.v rfl (o_assign rfl) ?_
      refine WPl.v rfl (o_assign rfl) ?_
      refine WPl.nil ?_
      refine EX.then ?_
      refine WP.ret ?_
      refine EX.ret_then ?_
      have he : f.wOpen (f.wPlan plan) = 130 := by simp [Fnd.wOpen, hf]
      rw [he, show f.wSafeV plan = 0 from by simp [Fnd.wSafeV, he]]
      exact EX.fin id (.inl rfl) rfl (.tmp rfl (.tmp rfl .nil)) rfl (by simp [SV.res, El.res, At.res, keys]) trivial (by simp) (by simp)
    · try simp only [decide_eq_true_eq, decide_eq_false_iff_not, Bool.and_eq_true, Bool.or_eq_true, Bool.and_eq_false_iff, Bool.or_eq_false_iff, Bool.not_eq_true', Bool.not_eq_false', ne_eq, Decidable.not_not] at hc1
      simp at hc1
  · skip
    refine Sig.intro Try.func23 rfl 3 [(0, .e (.g [ai (f.shop.pounds), ai (f.shop.tl), ai (f.shop.th), ai (f.shop.al), ai (f.shop.ah), ai (f.shop.room), ai (f.shop.tpl), ai (f.shop.tph), ai (f.shop.apl), ai (f.shop.aph), .q 0, .q 1])), (1, .e (.a (.q 2)))] rfl w23 rfl rfl fun I w => ?_
    refine WP.seq ?_
    refine WP.region ?_
    refine WPl.l 3 4 rfl rfl rfl (o_boxg rfl) ?_
    refine WPl.l 4 5 rfl rfl rfl (o_boxa rfl (.inl ⟨_, (lx rfl), PL.one⟩)) ?_
    refine WPl.v rfl (o_assign rfl) ?_
    refine WPl.v rfl (o_assign rfl) ?_
    refine WPl.nil ?_
    refine EX.then ?_
    refine WP.seq ?_
    refine WP.region ?_
    refine WPl.v rfl (o_ldpa G31 rfl rfl rfl) ?_
    refine WPl.imp (Imp.frzb (E := EP.box (PL (EP.sl EP.int) (plan))) (y := ()) 4 5 6 rfl rfl (bok_box (lx rfl)) rfl rfl rfl) ?_
    refine WPl.x 6 7 rfl rfl rfl (o_mkfva (svs := fun (r : Option Nat) => [.e (.a (.q 0))]) (X0 := fun (r : Option Nat) => [(0, PP (EWk r) (f))]) (sv := fun (r : Option Nat) => .b ((f.wPlan plan))) (X := fun (r : Option Nat) => []) (cs := [.e (.a (.q 1))]) (Xc := [(1, PP (EP.box (PL (EP.sl EP.int) (plan))) ())]) 6 (ren [(1, 5)]) (fun (r : Option Nat) => (c87 f r plan hf)) e87 (fun _ => rfl) rfl SvsOK.rf (fun _ => (by simp [SV.res, El.res, At.res, keys])) (by simp [SV.res, El.res, At.res, keys]) ⟨(lx rfl), trivial⟩) ?_
    refine WPl.cs 7 rfl rfl rfl rfl (o_sig 7 (ren [(0, 0), (1, 1), (2, 6)]) (c76CF f (f.wPlan plan) hf hv) e76 rfl rfl rfl w76CF ⟨(lx rfl), (lx rfl), (lx rfl), trivial⟩ r76CF) ?_
    refine WPl.v rfl (o_move rfl) ?_
    refine WPl.v rfl (o_extract rfl rfl) ?_
    refine WPl.v rfl (o_extract rfl rfl) ?_
    refine WPl.v rfl (o_assign rfl) ?_
    refine WPl.v rfl (o_assign rfl) ?_
    refine WPl.nil ?_
    refine EX.then ?_
    refine WP.seq ?_
    refine WP.seq ?_
    refine WP.region ?_
    refine WPl.v rfl (o_move rfl) ?_
    refine WPl.v rfl (o_neq rfl rfl) ?_
    refine WPl.nil ?_
    refine EX.then ?_
    refine WP.cond rfl (fun hc1 => ?_) (fun hc1 => ?_)
    · try simp only [decide_eq_true_eq, decide_eq_false_iff_not, Bool.and_eq_true, Bool.or_eq_true, Bool.and_eq_false_iff, Bool.or_eq_false_iff, Bool.not_eq_true', Bool.not_eq_false', ne_eq, Decidable.not_not] at hc1
      refine WP.seq ?_
      refine WP.region ?_
      refine WPl.v rfl (o_move rfl) ?_
      refine WPl.v rfl (o_assign rfl) ?_
      refine WPl.v rfl (o_assign rfl) ?_
      refine WPl.nil ?_
      refine EX.then ?_
      refine WP.ret ?_
      refine EX.ret_then ?_
      have he : f.wOpen (f.wPlan plan) = 1 := by simp [Fnd.wOpen, hf, hv]
      rw [he, show f.wSafeV plan = 0 from by simp [Fnd.wSafeV, he]]
      exact EX.fin id (.inl rfl) rfl (.tmp rfl (.tmp rfl .nil)) rfl (by simp [SV.res, El.res, At.res, keys]) trivial (by simp) (by simp)
    · try simp only [decide_eq_true_eq, decide_eq_false_iff_not, Bool.and_eq_true, Bool.or_eq_true, Bool.and_eq_false_iff, Bool.or_eq_false_iff, Bool.not_eq_true', Bool.not_eq_false', ne_eq, Decidable.not_not] at hc1
      simp at hc1
  · skip
    refine Sig.intro Try.func23 rfl 3 [(0, .e (.g [ai (f.shop.pounds), ai (f.shop.tl), ai (f.shop.th), ai (f.shop.al), ai (f.shop.ah), ai (f.shop.room), ai (f.shop.tpl), ai (f.shop.tph), ai (f.shop.apl), ai (f.shop.aph), .q 0, .q 1])), (1, .e (.a (.q 2)))] rfl w23 rfl rfl fun I w => ?_
    refine WP.seq ?_
    refine WP.region ?_
    refine WPl.l 3 4 rfl rfl rfl (o_boxg rfl) ?_
    refine WPl.l 4 5 rfl rfl rfl (o_boxa rfl (.inl ⟨_, (lx rfl), PL.one⟩)) ?_
    refine WPl.v rfl (o_assign rfl) ?_
    refine WPl.v rfl (o_assign rfl) ?_
    refine WPl.nil ?_
    refine EX.then ?_
    refine WP.seq ?_
    refine WP.region ?_
    refine WPl.v rfl (o_ldpa G31 rfl rfl rfl) ?_
    refine WPl.imp (Imp.frzb (E := EP.box (PL (EP.sl EP.int) (plan))) (y := ()) 4 5 6 rfl rfl (bok_box (lx rfl)) rfl rfl rfl) ?_
    refine WPl.x 6 7 rfl rfl rfl (o_mkfva (svs := fun (r : Option Nat) => [.e (.a (.q 0))]) (X0 := fun (r : Option Nat) => [(0, PP (EWk r) (f))]) (sv := fun (r : Option Nat) => .b ((f.wPlan plan))) (X := fun (r : Option Nat) => []) (cs := [.e (.a (.q 1))]) (Xc := [(1, PP (EP.box (PL (EP.sl EP.int) (plan))) ())]) 6 (ren [(1, 5)]) (fun (r : Option Nat) => (c87 f r plan hf)) e87 (fun _ => rfl) rfl SvsOK.rf (fun _ => (by simp [SV.res, El.res, At.res, keys])) (by simp [SV.res, El.res, At.res, keys]) ⟨(lx rfl), trivial⟩) ?_
    refine WPl.cM 9 (o_sigm (J := [0]) 7 8 (ren [(0, 0), (1, 1), (2, 6)]) (c76C f (f.wPlan plan) hf hv) e76 rfl rfl SvsOK.rf w76C ⟨(lx rfl), (lx rfl), (lx rfl), trivial⟩ (fun _ => rfl) (by simp [SV.res, El.res, At.res, keys]) rfl) rfl rfl rfl fun b13 => ?_
    refine WPl.v rfl (o_move rfl) ?_
    refine WPl.v rfl (o_extract rfl rfl) ?_
    refine WPl.v rfl (o_extract rfl rfl) ?_
    refine WPl.v rfl (o_assign rfl) ?_
    refine WPl.v rfl (o_assign rfl) ?_
    refine WPl.nil ?_
    refine EX.then ?_
    refine WP.seq ?_
    refine WP.seq ?_
    refine WP.region ?_
    refine WPl.v rfl (o_move rfl) ?_
    refine WPl.v rfl (o_neq rfl rfl) ?_
    refine WPl.nil ?_
    refine EX.then ?_
    refine WP.cond rfl (fun hc1 => ?_) (fun hc1 => ?_)
    · try simp only [decide_eq_true_eq, decide_eq_false_iff_not, Bool.and_eq_true, Bool.or_eq_true, Bool.and_eq_false_iff, Bool.or_eq_false_iff, Bool.not_eq_true', Bool.not_eq_false', ne_eq, Decidable.not_not] at hc1
      simp at hc1
    · try simp only [decide_eq_true_eq, decide_eq_false_iff_not, Bool.and_eq_true, Bool.or_eq_true, Bool.and_eq_false_iff, Bool.or_eq_false_iff, Bool.not_eq_true', Bool.not_eq_false', ne_eq, Decidable.not_not] at hc1
      have hp := wPlanB hf hv
      have hcb := Fnd.chkB hf
      have htb := tl_bnd (Fnd.shopOK hf)
      have hpg := Shop.pigsOK (Fnd.shopOK hf)
      refine WP.skip ?_
      refine EX.then ?_
      refine WP.seq ?_
      refine WP.seq ?_
      refine WP.region ?_
      refine WPl.v rfl (o_move rfl) ?_
      refine WPl.cs 9 rfl rfl rfl rfl (o_sig 9 (ren [(0, 7)]) (c88 f (some b13) (by omega)) e88 rfl rfl rfl w88 ⟨(lx rfl), trivial⟩ r88) ?_
      refine WPl.v rfl (o_move rfl) ?_
      refine WPl.v rfl (o_extract rfl rfl) ?_
      refine WPl.v rfl (o_extract rfl rfl) ?_
      refine WPl.l 9 10 rfl rfl rfl (o_alloc Z105) ?_
      refine WPl.l 10 11 rfl rfl rfl (o_alloc Z110) ?_
      refine WPl.s1 (o_stag G105 rfl rfl rfl ⟨rfl, rfl, rfl, rfl, rfl, rfl, rfl, trivial⟩ rfl rfl) ?_
      refine WPl.s1 (o_stag G110 rfl rfl rfl ⟨rfl, rfl, rfl, rfl, trivial⟩ rfl rfl) ?_
      refine WPl.nil ?_
      refine EX.then ?_
      refine WP.block ?_
      refine WP.seq ?_
      refine WP.region ?_
      refine WPl.v rfl (o_move rfl) ?_
      refine WPl.x 11 12 rfl rfl rfl (o_ldqx S32 rfl (lx rfl) boxx) ?_
      refine WPl.cs 13 rfl rfl rfl rfl (o_sig 12 (ren [(0, 7), (1, 11)]) (c89 f (some b13) plan hf hp) e89 rfl rfl rfl w89 ⟨(lx rfl), (lx rfl), trivial⟩ r89) ?_
      refine WPl.v rfl (o_lenq L44 rfl (lx rfl)) ?_
      refine WPl.v rfl (o_eql rfl rfl) ?_
      refine WPl.v rfl (o_assign rfl) ?_
      refine WPl.nil ?_
      refine EX.then ?_
      refine WP.cond rfl (fun hc2 => ?_) (fun hc2 => ?_)
      · try simp only [decide_eq_true_eq, decide_eq_false_iff_not, Bool.and_eq_true, Bool.or_eq_true, Bool.and_eq_false_iff, Bool.or_eq_false_iff, Bool.not_eq_true', Bool.not_eq_false', ne_eq, Decidable.not_not] at hc2
        refine WP.seq ?_
        refine WP.region ?_
        refine WPl.v rfl (o_assign rfl) ?_
        refine WPl.v rfl (o_assign rfl) ?_
        refine WPl.nil ?_
        refine EX.then ?_
        refine WP.ret ?_
        refine EX.ret_blk ?_
        refine EX.ret_then ?_
        have hz : (f.wFails plan).length = 0 := by omega
        have he : f.wOpen (f.wPlan plan) = 0 := by simp [Fnd.wOpen, hf, hv]
        rw [he, show f.wSafeV plan = 1 from by simp [Fnd.wSafeV, he, List.length_eq_zero_iff.1 hz]]
        exact EX.fin id (.inl rfl) rfl (.tmp rfl (.tmp rfl .nil)) rfl (by simp [SV.res, El.res, At.res, keys]) trivial (by simp) (by simp)
      · try simp only [decide_eq_true_eq, decide_eq_false_iff_not, Bool.and_eq_true, Bool.or_eq_true, Bool.and_eq_false_iff, Bool.or_eq_false_iff, Bool.not_eq_true', Bool.not_eq_false', ne_eq, Decidable.not_not] at hc2
        refine WP.seq ?_
        refine WP.region ?_
        refine WPl.v rfl (o_move rfl) ?_
        refine WPl.x 13 14 rfl rfl rfl (o_ldqx S32 rfl (lx rfl) boxx) ?_
        refine WPl.v rfl (o_fldp F105_1 rfl) ?_
        refine WPl.v rfl (o_ldpg G23 rfl rfl rfl) ?_
        refine WPl.v rfl (o_fldp F105_2 rfl) ?_
        refine WPl.v rfl (o_ldpg G23 rfl rfl rfl) ?_
        refine WPl.v rfl (o_fldp F105_0 rfl) ?_
        refine WPl.v rfl (o_ldp S3 rfl rfl rfl) ?_
        refine WPl.v rfl (o_build B105 rfl ⟨rfl, trivial⟩ rfl rfl) ?_
        refine WPl.cs 14 rfl rfl rfl rfl (o_sig 14 (ren [(0, 7), (1, 13)]) (c90 f (some b13) plan 0 f.nights.length f.shop.tl f.shop.th f.shop.al f.shop.ah (⟨f.shop.pounds, 0, 0, 0, 0, 0, 0⟩ : Pt) hf hp (by omega) (by omega) (by unfold PtB; simp only []; omega) (by unfold SB; omega) (by unfold SB; omega)) e90 rfl rfl rfl w90 ⟨(lx rfl), (lx rfl), trivial⟩ r90) ?_
        refine WPl.v rfl (o_assign rfl) ?_
        refine WPl.nil ?_
        refine EX.then ?_
        refine WP.cond rfl (fun hc3 => ?_) (fun hc3 => ?_)
        · try simp only [decide_eq_true_eq, decide_eq_false_iff_not, Bool.and_eq_true, Bool.or_eq_true, Bool.and_eq_false_iff, Bool.or_eq_false_iff, Bool.not_eq_true', Bool.not_eq_false', ne_eq, Decidable.not_not] at hc3
          refine WP.seq ?_
          refine WP.region ?_
          refine WPl.v rfl (o_assign rfl) ?_
          refine WPl.v rfl (o_assign rfl) ?_
          refine WPl.nil ?_
          refine EX.then ?_
          refine WP.ret ?_
          refine EX.ret_blk ?_
          refine EX.ret_then ?_
          have hz : ¬ (f.wFails plan).length = 0 := by omega
          have hc : f.wCan plan = true := hc3
          have he : f.wOpen (f.wPlan plan) = 0 := by simp [Fnd.wOpen, hf, hv]
          rw [he, show f.wSafeV plan = 3 from by simp only [Fnd.wSafeV, he, if_neg hz, hc]; rfl]
          exact EX.fin id (.inl rfl) rfl (.tmp rfl (.tmp rfl .nil)) rfl (by simp [SV.res, El.res, At.res, keys]) trivial (by simp) (by simp)
        · try simp only [decide_eq_true_eq, decide_eq_false_iff_not, Bool.and_eq_true, Bool.or_eq_true, Bool.and_eq_false_iff, Bool.or_eq_false_iff, Bool.not_eq_true', Bool.not_eq_false', ne_eq, Decidable.not_not] at hc3
          refine WP.skip ?_
          refine EX.blk ?_
          refine EX.then ?_
          refine WP.seq ?_
          refine WP.region ?_
          refine WPl.v rfl (o_assign rfl) ?_
          refine WPl.v rfl (o_assign rfl) ?_
          refine WPl.nil ?_
          refine EX.then ?_
          refine WP.ret ?_
          have hz : ¬ (f.wFails plan).length = 0 := by omega
          have hc : f.wCan plan = false := hc3
          have he : f.wOpen (f.wPlan plan) = 0 := by simp [Fnd.wOpen, hf, hv]
          rw [he, show f.wSafeV plan = 2 from by simp only [Fnd.wSafeV, he, if_neg hz, hc]; rfl]
          exact EX.fin id (.inl rfl) rfl (.tmp rfl (.tmp rfl .nil)) rfl (by simp [SV.res, El.res, At.res, keys]) trivial (by simp) (by simp)
end Go.Flong
