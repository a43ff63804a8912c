/- Walks (printed by gen.py off the specs). -/
import Derived.Test.YtglbnodjcngefaaFL1
import Derived.Test.YtglbnodjcngefaaBase9
import Derived.Test.YtglbnodjcngefaaBase10
import Derived.Test.YtglbnodjcngefaaProg
set_option linter.unusedSimpArgs false
set_option linter.unusedVariables false
namespace Go.Flong
open Go Go.Eng Go.Proofs
theorem e14 : Enters' Try.prog 14 := Try.call14
theorem e63 : Enters' Try.prog 63 := Try.call63
theorem e47 : Enters' Try.prog 47 := Try.call47
theorem w32 {f : Fnd} : ∀ x ∈ ([.e (.g [ai (f.shop.pounds), ai (f.shop.tl), ai (f.shop.th), ai (f.shop.al), ai (f.shop.ah), ai (f.shop.room), ai (f.shop.tpl), ai (f.shop.tph), ai (f.shop.apl), ai (f.shop.aph), .q 0, .q 1])] : List SV), x.res (keys (α := Pred) [(0, PL EPig (f.shop.pigs)), (1, PL ENight (f.nights))]) := by simp [SV.res, El.res, At.res, keys]
theorem r32 {f : Fnd} : SV.res (keys (α := Pred) []) (.b (f.rdy)) := by simp [SV.res, El.res, At.res, keys]
set_option maxHeartbeats 4000000 in
theorem c32 (f : Fnd)  : Sig Try.prog 32 [.e (.g [ai (f.shop.pounds), ai (f.shop.tl), ai (f.shop.th), ai (f.shop.al), ai (f.shop.ah), ai (f.shop.room), ai (f.shop.tpl), ai (f.shop.tph), ai (f.shop.apl), ai (f.shop.aph), .q 0, .q 1])] [(0, PL EPig (f.shop.pigs)), (1, PL ENight (f.nights))] (.b (f.rdy)) [] := by
  refine Sig.intro Try.func32 rfl 2 [(0, .e (.g [ai (f.shop.pounds), ai (f.shop.tl), ai (f.shop.th), ai (f.shop.al), ai (f.shop.ah), ai (f.shop.room), ai (f.shop.tpl), ai (f.shop.tph), ai (f.shop.apl), ai (f.shop.aph), .q 0, .q 1]))] rfl w32 rfl rfl fun I w => ?_
  refine WP.seq ?_
  refine WP.region ?_
  refine WPl.l 2 3 rfl rfl rfl (o_boxg rfl) ?_
  refine WPl.v rfl (o_assign rfl) ?_
  refine WPl.nil ?_
  refine EX.then ?_
  refine WP.seq ?_
  refine WP.region ?_
  refine WPl.v rfl (o_ldpa G31 rfl rfl rfl) ?_
  refine WPl.cs 3 rfl rfl rfl rfl (o_sig 3 (ren [(0, 0), (1, 1)]) (c14 f) e14 rfl rfl rfl w14 ⟨(lx rfl), (lx rfl), trivial⟩ r14) ?_
  refine WPl.v rfl (o_not rfl) ?_
  refine WPl.v rfl (o_move rfl) ?_
  refine WPl.bit 3 4 (!f.far) rfl rfl ?_
  refine WPl.gv 3 rfl rfl (.plain rfl Iff.rfl rfl) (fun hb => o_ldpa G31 rfl rfl rfl) ?_
  refine WPl.gc0 3 rfl rfl (.plain rfl Iff.rfl rfl) (fun hb => o_sig 4 (ren [(0, 0), (1, 1)]) (c22 f) e22 rfl rfl rfl w22 ⟨(lx rfl), (lx rfl), trivial⟩ r22) ?_
  refine WPl.gv 3 rfl rfl (.plain rfl Iff.rfl rfl) (fun hb => o_eql rfl rfl) ?_
  refine WPl.v rfl (o_and rfl rfl rfl id) ?_
  refine WPl.v rfl (o_assign rfl) ?_
  refine WPl.nil ?_
  refine EX.then ?_
  refine WP.ret ?_
  rw [show f.rdy = ((!f.far) && decide (errW f.chk = 0)) from by unfold Fnd.rdy; cases f.chk <;> simp [errW]]
  exact EX.fin id (.inl rfl) rfl (.tmp rfl .nil) rfl (by simp [SV.res, El.res, At.res, keys]) trivial (by simp) (by simp)
theorem w50 {e : Int} : ∀ x ∈ ([.i (e)] : List SV), x.res (keys (α := Pred) []) := by simp [SV.res, El.res, At.res, keys]
theorem r50 {e : Int} : SV.res (keys (α := Pred) []) (.b (knownB e)) := by simp [SV.res, El.res, At.res, keys]
set_option maxHeartbeats 4000000 in
theorem c50 (e : Int)  : Sig Try.prog 50 [.i (e)] [] (.b (knownB e)) [] := by
  refine Sig.intro Try.func50 rfl 0 [(0, .i (e))] rfl w50 rfl rfl fun I w => ?_
  refine WP.seq ?_
  refine WP.region ?_
  refine WPl.v rfl (o_assign rfl) ?_
  refine WPl.nil ?_
  refine EX.then ?_
  refine WP.seq ?_
  refine WP.region ?_
  refine WPl.v rfl (o_move rfl) ?_
  refine WPl.v rfl (o_eql rfl rfl) ?_
  refine WPl.v rfl (o_move rfl) ?_
  refine WPl.bit 0 1 (!(decide (e = 0))) rfl rfl ?_
  refine WPl.gv 0 rfl rfl (.plain rfl (by simp) rfl) (fun hb => o_move rfl) ?_
  refine WPl.gv 0 rfl rfl (.plain rfl (by simp) rfl) (fun hb => o_eql rfl rfl) ?_
  refine WPl.v rfl (o_or rfl rfl rfl (by first | (simp; done) | simp_all)) ?_
  refine WPl.v rfl (o_assign rfl) ?_
  refine WPl.nil ?_
  refine EX.then ?_
  refine WP.ret ?_
  exact EX.fin id (.inl rfl) rfl (.tmp rfl .nil) rfl r50 trivial (by simp) (by simp)
theorem w63 {n e : Int} : ∀ x ∈ ([.i (n), .i (e)] : List SV), x.res (keys (α := Pred) []) := by simp [SV.res, El.res, At.res, keys]
theorem r63 {n e : Int} : SV.res (keys (α := Pred) []) (.t [.a (ai (costN n e)), .a (.v (.bool (costB n e)))]) := by simp [SV.res, El.res, At.res, keys]
set_option maxHeartbeats 4000000 in
theorem c63 (n e : Int)  : Sig Try.prog 63 [.i (n), .i (e)] [] (.t [.a (ai (costN n e)), .a (.v (.bool (costB n e)))]) [] := by
  refine Sig.intro Try.func63 rfl 0 [(0, .i (n)), (1, .i (e))] rfl w63 rfl rfl fun I w => ?_
  refine WP.seq ?_
  refine WP.region ?_
  refine WPl.v rfl (o_assign rfl) ?_
  refine WPl.v rfl (o_assign rfl) ?_
  refine WPl.nil ?_
  refine EX.then ?_
  refine WP.seq ?_
  refine WP.seq ?_
  refine WP.region ?_
  refine WPl.v rfl (o_move rfl) ?_
  refine WPl.v rfl (o_eql rfl rfl) ?_
  refine WPl.nil ?_
  refine EX.then ?_
  refine WP.cond rfl (fun hc1 => ?_) (fun hc1 => ?_)
  · try simp only [decide_eq_true_eq, decide_eq_false_iff_not, Bool.and_eq_true, Bool.or_eq_true, Bool.and_eq_false_iff, Bool.or_eq_false_iff, Bool.not_eq_true', Bool.not_eq_false', ne_eq, Decidable.not_not] at hc1
    refine WP.seq ?_
    refine WP.region ?_
    refine WPl.v rfl (o_assign rfl) ?_
    refine WPl.v rfl (o_assign rfl) ?_
    refine WPl.nil ?_
    refine EX.then ?_
    refine WP.ret ?_
    refine EX.ret_then ?_
    rw [show costN n e = 1000000 from if_pos hc1, show costB n e = true from if_pos hc1]
    exact EX.fin id (.inl rfl) rfl (.tmp rfl (.tmp rfl .nil)) rfl (by simp [SV.res, El.res, At.res, keys]) trivial (by simp) (by simp)
  · try simp only [decide_eq_true_eq, decide_eq_false_iff_not, Bool.and_eq_true, Bool.or_eq_true, Bool.and_eq_false_iff, Bool.or_eq_false_iff, Bool.not_eq_true', Bool.not_eq_false', ne_eq, Decidable.not_not] at hc1
    refine WP.skip ?_
    refine EX.then ?_
    refine WP.seq ?_
    refine WP.region ?_
    refine WPl.v rfl (o_move rfl) ?_
    refine WPl.v rfl (o_move rfl) ?_
    refine WPl.v rfl (o_eql rfl rfl) ?_
    refine WPl.v rfl (o_move rfl) ?_
    refine WPl.bit 0 1 (decide (e = 0)) rfl rfl ?_
    refine WPl.gv 0 rfl rfl (.plain rfl Iff.rfl rfl) (fun hb => o_move rfl) ?_
    refine WPl.gv 0 rfl rfl (.plain rfl Iff.rfl rfl) (fun hb => o_geq rfl rfl) ?_
    refine WPl.v rfl (o_and rfl rfl rfl id) ?_
    refine WPl.v rfl (o_move rfl) ?_
    refine WPl.bit 1 2 ((decide (e = 0)) && (decide (0 ≤ n))) rfl rfl ?_
    refine WPl.gv 1 rfl rfl (.plain rfl Iff.rfl rfl) (fun hb => o_move rfl) ?_
    refine WPl.gv 1 rfl rfl (.plain rfl Iff.rfl rfl) (fun hb => o_lss rfl rfl) ?_
    refine WPl.v rfl (o_and rfl rfl rfl id) ?_
    refine WPl.v rfl (o_assign rfl) ?_
    refine WPl.v rfl (o_assign rfl) ?_
    refine WPl.nil ?_
    refine EX.then ?_
    refine WP.ret ?_
    rw [show costN n e = n from if_neg hc1, show costB n e = (decide (e = 0) && decide (0 ≤ n) && decide (n < 1000000)) from if_neg hc1]
    exact EX.fin id (.inl rfl) rfl (.tmp rfl (.tmp rfl .nil)) rfl (by simp [SV.res, El.res, At.res, keys]) trivial (by simp) (by simp)
theorem w49 {f : Fnd} : ∀ x ∈ ([.e (.g [ai (f.shop.pounds), ai (f.shop.tl), ai (f.shop.th), ai (f.shop.al), ai (f.shop.ah), ai (f.shop.room), ai (f.shop.tpl), ai (f.shop.tph), ai (f.shop.apl), ai (f.shop.aph), .q 0, .q 1])] : List SV), x.res (keys (α := Pred) [(0, PL EPig (f.shop.pigs)), (1, PL ENight (f.nights))]) := by simp [SV.res, El.res, At.res, keys]
theorem r49 {f : Fnd} : SV.res (keys (α := Pred) []) (.t [.a (ai (f.cheapC)), .a (ai (f.onceC)), .a (ai (f.knownC)), .a (.v (.bool (true)))]) := by simp [SV.res, El.res, At.res, keys]
set_option maxHeartbeats 4000000 in
theorem c49 (f : Fnd) (hl : f.shop.pigs.length ≤ 40) (law : CostsLaw f) : Sig Try.prog 49 [.e (.g [ai (f.shop.pounds), ai (f.shop.tl), ai (f.shop.th), ai (f.shop.al), ai (f.shop.ah), ai (f.shop.room), ai (f.shop.tpl), ai (f.shop.tph), ai (f.shop.apl), ai (f.shop.aph), .q 0, .q 1])] [(0, PL EPig (f.shop.pigs)), (1, PL ENight (f.nights))] (.t [.a (ai (f.cheapC)), .a (ai (f.onceC)), .a (ai (f.knownC)), .a (.v (.bool (true)))]) [] := by
  refine Sig.intro Try.func49 rfl 2 [(0, .e (.g [ai (f.shop.pounds), ai (f.shop.tl), ai (f.shop.th), ai (f.shop.al), ai (f.shop.ah), ai (f.shop.room), ai (f.shop.tpl), ai (f.shop.tph), ai (f.shop.apl), ai (f.shop.aph), .q 0, .q 1]))] rfl w49 rfl rfl fun I w => ?_
  refine WP.seq ?_
  refine WP.region ?_
  refine WPl.l 2 3 rfl rfl rfl (o_boxg rfl) ?_
  refine WPl.v rfl (o_assign rfl) ?_
  refine WPl.v rfl (o_assign rfl) ?_
  refine WPl.v rfl (o_assign rfl) ?_
  refine WPl.v rfl (o_assign rfl) ?_
  refine WPl.nil ?_
  refine EX.then ?_
  refine WP.seq ?_
  refine WP.region ?_
  refine WPl.v rfl (o_ldpa G31 rfl rfl rfl) ?_
  refine WPl.cs 3 rfl rfl rfl rfl (o_sig 3 (ren [(0, 0), (1, 1)]) (c43 f hl) e43 rfl rfl rfl w43 ⟨(lx rfl), (lx rfl), trivial⟩ r43) ?_
  refine WPl.v rfl (o_extract rfl rfl) ?_
  refine WPl.v rfl (o_extract rfl rfl) ?_
  refine WPl.cs 3 rfl rfl rfl rfl (o_sig 3 id (c63 (f.leastV costG) (f.leastE costG)) e63 rfl rfl rfl w63 trivial r63) ?_
  refine WPl.v rfl (o_move rfl) ?_
  refine WPl.v rfl (o_extract rfl rfl) ?_
  refine WPl.v rfl (o_extract rfl rfl) ?_
  refine WPl.imp (Imp.bitF 16 (b' := true) rfl law.a) ?_
  refine WPl.v rfl (o_assign rfl) ?_
  refine WPl.v rfl (o_assign rfl) ?_
  refine WPl.nil ?_
  refine EX.then ?_
  refine WP.seq ?_
  refine WP.region ?_
  refine WPl.v rfl (o_ldpa G31 rfl rfl rfl) ?_
  refine WPl.cs 3 rfl rfl rfl rfl (o_sig 3 (ren [(0, 0), (1, 1)]) (c47 f hl) e47 rfl rfl rfl w47 ⟨(lx rfl), (lx rfl), trivial⟩ r47) ?_
  refine WPl.v rfl (o_extract rfl rfl) ?_
  refine WPl.v rfl (o_extract rfl rfl) ?_
  refine WPl.cs 3 rfl rfl rfl rfl (o_sig 3 id (c63 (f.leastV onceG) (f.leastE onceG)) e63 rfl rfl rfl w63 trivial r63) ?_
  refine WPl.v rfl (o_move rfl) ?_
  refine WPl.v rfl (o_extract rfl rfl) ?_
  refine WPl.v rfl (o_extract rfl rfl) ?_
  refine WPl.imp (Imp.bitF 24 (b' := true) rfl law.b) ?_
  refine WPl.v rfl (o_assign rfl) ?_
  refine WPl.v rfl (o_assign rfl) ?_
  refine WPl.nil ?_
  refine EX.then ?_
  refine WP.seq ?_
  refine WP.region ?_
  refine WPl.v rfl (o_ldpa G31 rfl rfl rfl) ?_
  refine WPl.cs 3 rfl rfl rfl rfl (o_sig 3 (ren [(0, 0), (1, 1)]) (c57 f hl) e57 rfl rfl rfl w57 ⟨(lx rfl), (lx rfl), trivial⟩ r57) ?_
  refine WPl.v rfl (o_extract rfl rfl) ?_
  refine WPl.v rfl (o_extract rfl rfl) ?_
  refine WPl.cs 3 rfl rfl rfl rfl (o_sig 3 id (c63 f.wKnownV f.wKnownE) e63 rfl rfl rfl w63 trivial r63) ?_
  refine WPl.v rfl (o_move rfl) ?_
  refine WPl.v rfl (o_extract rfl rfl) ?_
  refine WPl.v rfl (o_extract rfl rfl) ?_
  refine WPl.imp (Imp.bitF 32 (b' := true) rfl law.c) ?_
  refine WPl.v rfl (o_assign rfl) ?_
  refine WPl.v rfl (o_assign rfl) ?_
  refine WPl.nil ?_
  refine EX.then ?_
  refine WP.seq ?_
  refine WP.region ?_
  refine WPl.v rfl (o_move rfl) ?_
  refine WPl.v rfl (o_move rfl) ?_
  refine WPl.v rfl (o_move rfl) ?_
  refine WPl.v rfl (o_move rfl) ?_
  refine WPl.v rfl (o_move rfl) ?_
  refine WPl.on rfl ⟨_, _, rfl, rfl, rfl⟩ (o_move rfl) ?_
  refine WPl.v rfl (o_pickT rfl rfl) ?_
  refine WPl.v rfl (o_move rfl) ?_
  refine WPl.on rfl ⟨_, _, rfl, rfl, rfl⟩ (o_move rfl) ?_
  refine WPl.v rfl (o_pickT rfl rfl) ?_
  refine WPl.v rfl (o_move rfl) ?_
  refine WPl.on rfl ⟨_, _, rfl, rfl, rfl⟩ (o_move rfl) ?_
  refine WPl.on rfl ⟨_, _, rfl, rfl, rfl⟩ (o_eql rfl rfl) ?_
  refine WPl.on rfl ⟨_, _, rfl, rfl, rfl⟩ (o_move rfl) ?_
  refine WPl.on rfl ⟨_, _, rfl, rfl, rfl⟩ (o_eql rfl rfl) ?_
  refine WPl.on rfl ⟨_, _, rfl, rfl, rfl⟩ (o_eqb Try.underlying4 rfl rfl) ?_
  refine WPl.v rfl (o_pickT rfl rfl) ?_
  refine WPl.imp (Imp.bitF 49 (b' := true) rfl (beq_iff_eq.2 law.d)) ?_
  refine WPl.v rfl (o_assign rfl) ?_
  refine WPl.v rfl (o_assign rfl) ?_
  refine WPl.v rfl (o_assign rfl) ?_
  refine WPl.v rfl (o_assign rfl) ?_
  refine WPl.nil ?_
  refine EX.then ?_
  refine WP.ret ?_
  exact EX.fin id (.inl rfl) rfl (.tmp rfl (.tmp rfl (.tmp rfl (.tmp rfl .nil)))) rfl r49 trivial (by simp) (by simp)
end Go.Flong
