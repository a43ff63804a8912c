/- WeeksCalm returns true for every input and leaves its arguments as they were. No condition. -/
import Derived.Test.YtglbnodjcngefaaZK5
set_option linter.unusedSimpArgs false
set_option linter.unusedVariables false
namespace Go.Flong
open Go Go.Eng Go.Proofs
theorem F139_0 : Fld Try.prog 139 0 0 := .mk Try.underlying139 rfl rfl rfl Try.sizeOf28 rfl
abbrev PigQ (q : Pig → Int) : Pred := Pred.all fun (x : Pig) => FvP Try.prog [.e (.g [ai (x.pounds), ai (x.tin), ai (x.ant), ai (x.pence), ai (x.many)])] [] (.i (q x)) []
theorem e153 : Enters' Try.prog 153 := Try.call153
theorem G139 : TyG Try.prog 139 11 := ⟨Try.isAgg139, Try.sizeOf139⟩
theorem e151 : Enters' Try.prog 151 := Try.call151
theorem Z25 : Zero Try.prog 25 [ai (0), ai (0), ai (0), ai (0), ai (0)] := .mk Try.zeroValue25 rfl rfl
theorem e155 : Enters' Try.prog 155 := Try.call155
theorem e156 : Enters' Try.prog 156 := Try.call156
theorem e154 : Enters' Try.prog 154 := Try.call154
theorem e157 : Enters' Try.prog 157 := Try.call157
theorem e158 : Enters' Try.prog 158 := Try.call158
theorem Z139 : Zero Try.prog 139 [ai (0), ai (0), ai (0), ai (0), ai (0), ai (0), ai (0), ai (0), ai (0), ai (0), .v (.slice none 0 0)] := .mk Try.zeroValue139 rfl rfl
theorem B139 : BldT Try.prog 139 [(0, 11)] [.int .i64 0, .int .i64 0, .int .i64 0, .int .i64 0, .int .i64 0, .int .i64 0, .int .i64 0, .int .i64 0, .int .i64 0, .int .i64 0, .slice none 0 0] := BldT.mk (ns := [11]) Try.underlying139 ⟨Try.sizeOf28, trivial⟩ rfl Try.zeroValue139 rfl
abbrev IsS (s : Shop) (v : Bool) : Pred := FvP Try.prog [.e (.g [ai (s.pounds), ai (s.tl), ai (s.th), ai (s.al), ai (s.ah), ai (s.room), ai (s.tpl), ai (s.tph), ai (s.apl), ai (s.aph), .q 0])] [(0, PL EPig (s.pigs))] (.b (v)) []
theorem e117 : Enters' Try.prog 117 := Try.call117
theorem e152 : Enters' Try.prog 152 := Try.call152
theorem e166 : Enters' Try.prog 166 := Try.call166
theorem e165 : Enters' Try.prog 165 := Try.call165
theorem e115 : Enters' Try.prog 115 := Try.call115
theorem e149 : Enters' Try.prog 149 := Try.call149
theorem S137 : TyS Try.prog 137 := ⟨Try.isAgg137, Try.sizeOf137⟩
abbrev OfM (s : Shop) (g : List Int → List Int) : Pred := Pred.all fun (x : AdL s) => FvP Try.prog [.e (.g [ai (s.pounds), ai (s.tl), ai (s.th), ai (s.al), ai (s.ah), ai (s.room), ai (s.tpl), ai (s.tph), ai (s.apl), ai (s.aph), .q 0]), .e (.a (.q 1))] [(0, PL EPig (s.pigs)), (1, PL EP.int (x.1))] (.e (.a (.q 0))) [(0, PL EP.int (g x.1))]
theorem e118 : Enters' Try.prog 118 := Try.call118
theorem e119 : Enters' Try.prog 119 := Try.call119
theorem e150 : Enters' Try.prog 150 := Try.call150
theorem w153 {p : Pig} : ∀ x ∈ ([.e (.g [ai (p.pounds), ai (p.tin), ai (p.ant), ai (p.pence), ai (p.many)])] : List SV), x.res (keys (α := Pred) []) := by simp [SV.res, El.res, At.res, keys]
theorem r153 {p : Pig} : SV.res (keys (α := Pred) []) (.i (p.pounds)) := by simp [SV.res, El.res, At.res, keys]
set_option maxHeartbeats 4000000 in
theorem c153 (p : Pig)  : Sig Try.prog 153 [.e (.g [ai (p.pounds), ai (p.tin), ai (p.ant), ai (p.pence), ai (p.many)])] [] (.i (p.pounds)) [] := by
  refine Sig.intro Try.func153 rfl 0 [(0, .e (.g [ai (p.pounds), ai (p.tin), ai (p.ant), ai (p.pence), ai (p.many)]))] rfl w153 rfl rfl fun I w => ?_
  refine WP.seq ?_
  refine WP.region ?_
  refine WPl.l 0 1 rfl rfl rfl (o_boxg rfl) ?_
  refine WPl.v rfl (o_assign rfl) ?_
  refine WPl.nil ?_
  refine EX.then ?_
  refine WP.seq ?_
  refine WP.region ?_
  refine WPl.v rfl (o_fldp F78_0 rfl) ?_
  refine WPl.v rfl (o_ldp S3 rfl rfl rfl) ?_
  refine WPl.v rfl (o_assign rfl) ?_
  refine WPl.nil ?_
  refine EX.then ?_
  refine WP.ret ?_
  exact EX.fin id (.inl rfl) rfl (.tmp rfl .nil) rfl r153 trivial (by simp) (by simp)
theorem w155 {p : Pig} : ∀ x ∈ ([.e (.g [ai (p.pounds), ai (p.tin), ai (p.ant), ai (p.pence), ai (p.many)])] : List SV), x.res (keys (α := Pred) []) := by simp [SV.res, El.res, At.res, keys]
theorem r155 {p : Pig} : SV.res (keys (α := Pred) []) (.i (p.tin)) := by simp [SV.res, El.res, At.res, keys]
set_option maxHeartbeats 4000000 in
theorem c155 (p : Pig)  : Sig Try.prog 155 [.e (.g [ai (p.pounds), ai (p.tin), ai (p.ant), ai (p.pence), ai (p.many)])] [] (.i (p.tin)) [] := by
  refine Sig.intro Try.func155 rfl 0 [(0, .e (.g [ai (p.pounds), ai (p.tin), ai (p.ant), ai (p.pence), ai (p.many)]))] rfl w155 rfl rfl fun I w => ?_
  refine WP.seq ?_
  refine WP.region ?_
  refine WPl.l 0 1 rfl rfl rfl (o_boxg rfl) ?_
  refine WPl.v rfl (o_assign rfl) ?_
  refine WPl.nil ?_
  refine EX.then ?_
  refine WP.seq ?_
  refine WP.region ?_
  refine WPl.v rfl (o_fldp F78_1 rfl) ?_
  refine WPl.v rfl (o_ldp S3 rfl rfl rfl) ?_
  refine WPl.v rfl (o_assign rfl) ?_
  refine WPl.nil ?_
  refine EX.then ?_
  refine WP.ret ?_
  exact EX.fin id (.inl rfl) rfl (.tmp rfl .nil) rfl r155 trivial (by simp) (by simp)
theorem w156 {p : Pig} : ∀ x ∈ ([.e (.g [ai (p.pounds), ai (p.tin), ai (p.ant), ai (p.pence), ai (p.many)])] : List SV), x.res (keys (α := Pred) []) := by simp [SV.res, El.res, At.res, keys]
theorem r156 {p : Pig} : SV.res (keys (α := Pred) []) (.i (p.ant)) := by simp [SV.res, El.res, At.res, keys]
set_option maxHeartbeats 4000000 in
theorem c156 (p : Pig)  : Sig Try.prog 156 [.e (.g [ai (p.pounds), ai (p.tin), ai (p.ant), ai (p.pence), ai (p.many)])] [] (.i (p.ant)) [] := by
  refine Sig.intro Try.func156 rfl 0 [(0, .e (.g [ai (p.pounds), ai (p.tin), ai (p.ant), ai (p.pence), ai (p.many)]))] rfl w156 rfl rfl fun I w => ?_
  refine WP.seq ?_
  refine WP.region ?_
  refine WPl.l 0 1 rfl rfl rfl (o_boxg rfl) ?_
  refine WPl.v rfl (o_assign rfl) ?_
  refine WPl.nil ?_
  refine EX.then ?_
  refine WP.seq ?_
  refine WP.region ?_
  refine WPl.v rfl (o_fldp F78_2 rfl) ?_
  refine WPl.v rfl (o_ldp S3 rfl rfl rfl) ?_
  refine WPl.v rfl (o_assign rfl) ?_
  refine WPl.nil ?_
  refine EX.then ?_
  refine WP.ret ?_
  exact EX.fin id (.inl rfl) rfl (.tmp rfl .nil) rfl r156 trivial (by simp) (by simp)
theorem w152 {p : Pig} : ∀ x ∈ ([.e (.g [ai (p.pounds), ai (p.tin), ai (p.ant), ai (p.pence), ai (p.many)])] : List SV), x.res (keys (α := Pred) []) := by simp [SV.res, El.res, At.res, keys]
theorem r152 {p : Pig} : SV.res (keys (α := Pred) []) (.i (p.pence)) := by simp [SV.res, El.res, At.res, keys]
set_option maxHeartbeats 4000000 in
theorem c152 (p : Pig)  : Sig Try.prog 152 [.e (.g [ai (p.pounds), ai (p.tin), ai (p.ant), ai (p.pence), ai (p.many)])] [] (.i (p.pence)) [] := by
  refine Sig.intro Try.func152 rfl 0 [(0, .e (.g [ai (p.pounds), ai (p.tin), ai (p.ant), ai (p.pence), ai (p.many)]))] rfl w152 rfl rfl fun I w => ?_
  refine WP.seq ?_
  refine WP.region ?_
  refine WPl.l 0 1 rfl rfl rfl (o_boxg rfl) ?_
  refine WPl.v rfl (o_assign rfl) ?_
  refine WPl.nil ?_
  refine EX.then ?_
  refine WP.seq ?_
  refine WP.region ?_
  refine WPl.v rfl (o_fldp F78_3 rfl) ?_
  refine WPl.v rfl (o_ldp S3 rfl rfl rfl) ?_
  refine WPl.v rfl (o_assign rfl) ?_
  refine WPl.nil ?_
  refine EX.then ?_
  refine WP.ret ?_
  exact EX.fin id (.inl rfl) rfl (.tmp rfl .nil) rfl r152 trivial (by simp) (by simp)
theorem w151 {s : Shop} {add : List Int} {q : Pig → Int} : ∀ x ∈ ([.e (.g [ai (s.pounds), ai (s.tl), ai (s.th), ai (s.al), ai (s.ah), ai (s.room), ai (s.tpl), ai (s.tph), ai (s.apl), ai (s.aph), .q 0]), .e (.a (.q 1)), .e (.a (.q 2))] : List SV), x.res (keys (α := Pred) [(0, PL EPig (s.pigs)), (1, PL EP.int (add)), (2, PigQ q)]) := by simp [SV.res, El.res, At.res, keys]
theorem r151 {s : Shop} {add : List Int} {q : Pig → Int} : SV.res (keys (α := Pred) []) (.i (sumOf q s.pigs add)) := by simp [SV.res, El.res, At.res, keys]
set_option maxHeartbeats 4000000 in
theorem c151 (s : Shop) (add : List Int) (q : Pig → Int) (hs : PigsOK s.pigs) (ha : bnd add 1000) (hl : add.length ≤ s.pigs.length) (hq : ∀ p : Pig, p.chk = true → 0 ≤ q p ∧ q p ≤ 99) : Sig Try.prog 151 [.e (.g [ai (s.pounds), ai (s.tl), ai (s.th), ai (s.al), ai (s.ah), ai (s.room), ai (s.tpl), ai (s.tph), ai (s.apl), ai (s.aph), .q 0]), .e (.a (.q 1)), .e (.a (.q 2))] [(0, PL EPig (s.pigs)), (1, PL EP.int (add)), (2, PigQ q)] (.i (sumOf q s.pigs add)) [] := by
  have hl2 := hs.2
  have hf : ∀ j : Nat, j < add.length → 0 ≤ q (nth s.pigs j) ∧ q (nth s.pigs j) ≤ 99 := fun j hj => hq _ (hs.at (show j < s.pigs.length by omega))
  have hsum := sumTo_bnd (f := q) ha hf
  refine Sig.intro Try.func151 rfl 3 [(0, .e (.g [ai (s.pounds), ai (s.tl), ai (s.th), ai (s.al), ai (s.ah), ai (s.room), ai (s.tpl), ai (s.tph), ai (s.apl), ai (s.aph), .q 0])), (1, .e (.a (.q 1))), (2, .e (.a (.q 2)))] rfl w151 rfl rfl fun I w => ?_
  refine WP.seq ?_
  refine WP.region ?_
  refine WPl.l 3 4 rfl rfl rfl (o_boxg rfl) ?_
  refine WPl.v rfl (o_assign rfl) ?_
  refine WPl.nil ?_
  refine EX.then ?_
  refine WP.seq ?_
  refine WP.region ?_
  refine WPl.v rfl (o_assign rfl) ?_
  refine WPl.nil ?_
  refine EX.then ?_
  refine WP.seq ?_
  refine WP.seq ?_
  refine WP.region ?_
  refine WPl.v rfl (o_move rfl) ?_
  refine WPl.v rfl (o_lenq L44 rfl (lx rfl)) ?_
  refine WPl.v rfl (o_move rfl) ?_
  refine WPl.nil ?_
  refine EX.then ?_
  refine WP.block ?_
  refine WP.loop (Gh := Nat) (fun i => ⟨4, [(2, .e (.a (.q 2))), (3, .e (.a (.p 3 (0)))), (6, .i (0)), (7, .i (sumTo q s.pigs add i)), (10, .e (.a (.q 1))), (11, .i ((add.length : Int))), (12, .i ((i : Int)))], [(0, PL EPig (s.pigs)), (1, PL EP.int (add)), (2, PigQ q)], [(3, .blk [ai (s.pounds), ai (s.tl), ai (s.th), ai (s.al), ai (s.ah), ai (s.room), ai (s.tpl), ai (s.tph), ai (s.apl), ai (s.aph), .q 0] 139)], [], []⟩) (fun i => i ≤ add.length) (fun i => add.length - i) (0) id ?_ (LeR.of ⟨rfl, rfl, rfl, rfl, rfl, rfl, rfl, trivial⟩ ⟨(lx rfl), (lx rfl), (lx rfl), trivial⟩ ⟨rfl, trivial⟩ rfl rfl rfl rfl rfl) ?_
  · first | trivial | omega | (constructor <;> omega) | simp
  intro i hφ
  have hi : i ≤ add.length := hφ
  refine WP.seq ?_
  refine WP.region ?_
  refine WPl.v rfl (o_lss rfl rfl) ?_
  refine WPl.nil ?_
  refine EX.then ?_
  refine WP.seq ?_
  refine WP.cond rfl (fun hc1 => ?_) (fun hc1 => ?_)
  · try simp only [decide_eq_true_eq, decide_eq_false_iff_not, Bool.and_eq_true, Bool.or_eq_true, Bool.and_eq_false_iff, Bool.or_eq_false_iff, Bool.not_eq_true', Bool.not_eq_false', ne_eq, Decidable.not_not] at hc1
    refine WP.skip ?_
    refine EX.then ?_
    refine WP.seq ?_
    refine WP.block ?_
    refine WP.seq ?_
    refine WP.region ?_
    refine WPl.v rfl (o_move rfl) ?_
    refine WPl.x 4 5 rfl rfl rfl (o_idx L44 rfl (lx rfl) rfl (by first | omega | (simp; omega)) (by first | omega | (simp; omega))) ?_
    refine WPl.v rfl (o_ldq S3 rfl (lx rfl) intc) ?_
    refine WPl.v rfl (o_assign rfl) ?_
    refine WPl.v rfl (o_assign rfl) ?_
    refine WPl.nil ?_
    refine EX.then ?_
    refine WP.region ?_
    refine WPl.v rfl (o_move rfl) ?_
    refine WPl.v rfl (o_move rfl) ?_
    refine WPl.v rfl (o_move rfl) ?_
    refine WPl.v rfl (o_fldp F139_0 rfl) ?_
    refine WPl.v rfl (o_fldp F28_4 rfl) ?_
    refine WPl.v rfl (o_ldp S26 rfl rfl rfl) ?_
    refine WPl.v rfl (o_move rfl) ?_
    refine WPl.x 5 6 rfl rfl rfl (o_idx L26 rfl (lx rfl) rfl (by first | omega | (simp; omega)) (by first | omega | (simp; omega))) ?_
    refine WPl.v rfl (o_ldqg G78 rfl (lx rfl) (strG rfl) rfl rfl) ?_
    have h1 := ha i (by omega)
    have h2 := hf i (by omega)
    have h3 := mulb h1.1 h1.2 h2.1 h2.2
    have h4 := hsum i (by omega)
    refine WPl.cs 6 rfl rfl rfl rfl (o_callfv (svs := [.e (.g [ai ((nth s.pigs (i : Int)).pounds), ai ((nth s.pigs (i : Int)).tin), ai ((nth s.pigs (i : Int)).ant), ai ((nth s.pigs (i : Int)).pence), ai ((nth s.pigs (i : Int)).many)])]) 6 id rfl (Has.of (lx rfl) fun _ _ h => h ((nth s.pigs (i : Int)))) rfl rfl SvsOK.rf (by simp [SV.res, El.res, At.res, keys]) trivial (by simp [SV.res, El.res, At.res, keys])) ?_
    refine WPl.v rfl (o_mul rfl rfl (by first | omega | (simp; omega)) (by first | omega | (simp; omega))) ?_
    refine WPl.v rfl (o_add rfl rfl (by first | omega | (simp; omega)) (by first | omega | (simp; omega))) ?_
    refine WPl.v rfl (o_assign rfl) ?_
    refine WPl.nil ?_
    refine EX.blk ?_
    refine EX.then ?_
    refine WP.region ?_
    refine WPl.v rfl (o_add rfl rfl (by first | omega | (simp; omega)) (by first | omega | (simp; omega))) ?_
    refine WPl.v rfl (o_move rfl) ?_
    refine WPl.nil ?_
    refine EX.again (i + 1) id (by first | omega | (constructor <;> omega)) (by omega) (LeR.of ⟨rfl, rfl, rfl, rfl, rfl, rfl, rfl, trivial⟩ ⟨(lx rfl), (lx rfl), (lx rfl), trivial⟩ ⟨rfl, trivial⟩ rfl rfl rfl rfl rfl)
  · try simp only [decide_eq_true_eq, decide_eq_false_iff_not, Bool.and_eq_true, Bool.or_eq_true, Bool.and_eq_false_iff, Bool.or_eq_false_iff, Bool.not_eq_true', Bool.not_eq_false', ne_eq, Decidable.not_not] at hc1
    refine WP.exit ?_
    refine EX.exit_then ?_
    refine EX.exit_then ?_
    refine EX.exit_blk ?_
    refine EX.then ?_
    refine WP.seq ?_
    refine WP.region ?_
    refine WPl.v rfl (o_move rfl) ?_
    refine WPl.v rfl (o_assign rfl) ?_
    refine WPl.nil ?_
    refine EX.then ?_
    refine WP.ret ?_
    have he : i = add.length := by omega
    subst he
    exact EX.fin id (.inl rfl) rfl (.tmp rfl .nil) rfl (by simp [SV.res, El.res, At.res, keys]) trivial (by simp) (by simp)
theorem w117 {s : Shop} {add : List Int} : ∀ x ∈ ([.e (.g [ai (s.pounds), ai (s.tl), ai (s.th), ai (s.al), ai (s.ah), ai (s.room), ai (s.tpl), ai (s.tph), ai (s.apl), ai (s.aph), .q 0]), .e (.a (.q 1))] : List SV), x.res (keys (α := Pred) [(0, PL EPig (s.pigs)), (1, PL EP.int (add))]) := by simp [SV.res, El.res, At.res, keys]
theorem r117 {s : Shop} {add : List Int} : SV.res (keys (α := Pred) []) (.b (isAdd s add)) := by simp [SV.res, El.res, At.res, keys]
set_option maxHeartbeats 4000000 in
theorem c117 (s : Shop) (add : List Int) (hs : s.chk = true) : Sig Try.prog 117 [.e (.g [ai (s.pounds), ai (s.tl), ai (s.th), ai (s.al), ai (s.ah), ai (s.room), ai (s.tpl), ai (s.tph), ai (s.apl), ai (s.aph), .q 0]), .e (.a (.q 1))] [(0, PL EPig (s.pigs)), (1, PL EP.int (add))] (.b (isAdd s add)) [] := by
  have hpg := Shop.pigsOK hs
  have hp4 := hpg.2
  have htb := tl_bnd hs
  refine Sig.intro Try.func117 rfl 2 [(0, .e (.g [ai (s.pounds), ai (s.tl), ai (s.th), ai (s.al), ai (s.ah), ai (s.room), ai (s.tpl), ai (s.tph), ai (s.apl), ai (s.aph), .q 0])), (1, .e (.a (.q 1)))] rfl w117 rfl rfl fun I w => ?_
  refine WP.seq ?_
  refine WP.region ?_
  refine WPl.l 2 3 rfl rfl rfl (o_boxg rfl) ?_
  refine WPl.v rfl (o_assign rfl) ?_
  refine WPl.nil ?_
  refine EX.then ?_
  refine WP.seq ?_
  refine WP.seq ?_
  refine WP.region ?_
  refine WPl.v rfl (o_move rfl) ?_
  refine WPl.v rfl (o_lenq L44 rfl (lx rfl)) ?_
  refine WPl.v rfl (o_fldp F139_0 rfl) ?_
  refine WPl.v rfl (o_fldp F28_4 rfl) ?_
  refine WPl.v rfl (o_ldp S26 rfl rfl rfl) ?_
  refine WPl.v rfl (o_lenq L26 rfl (lx rfl)) ?_
  refine WPl.v rfl (o_neq rfl rfl) ?_
  refine WPl.nil ?_
  refine EX.then ?_
  refine WP.cond rfl (fun hc1 => ?_) (fun hc1 => ?_)
  · try simp only [decide_eq_true_eq, decide_eq_false_iff_not, Bool.and_eq_true, Bool.or_eq_true, Bool.and_eq_false_iff, Bool.or_eq_false_iff, Bool.not_eq_true', Bool.not_eq_false', ne_eq, Decidable.not_not] at hc1
    refine WP.seq ?_
    refine WP.region ?_
    refine WPl.v rfl (o_assign rfl) ?_
    refine WPl.nil ?_
    refine EX.then ?_
    refine WP.ret ?_
    refine EX.ret_then ?_
    rw [show isAdd s add = false from by simp [isAdd]; (try simp at hc1); grind]
    exact EX.fin id (.inl rfl) rfl (.tmp rfl .nil) rfl (by simp [SV.res, El.res, At.res, keys]) trivial (by simp) (by simp)
  · try simp only [decide_eq_true_eq, decide_eq_false_iff_not, Bool.and_eq_true, Bool.or_eq_true, Bool.and_eq_false_iff, Bool.or_eq_false_iff, Bool.not_eq_true', Bool.not_eq_false', ne_eq, Decidable.not_not] at hc1
    refine WP.skip ?_
    refine EX.then ?_
    refine WP.seq ?_
    refine WP.seq ?_
    refine WP.region ?_
    refine WPl.v rfl (o_move rfl) ?_
    refine WPl.v rfl (o_lenq L44 rfl (lx rfl)) ?_
    refine WPl.v rfl (o_move rfl) ?_
    refine WPl.nil ?_
    refine EX.then ?_
    refine WP.block ?_
    refine WP.loop (Gh := Nat) (fun i => ⟨3, [(1, .e (.a (.q 1))), (2, .e (.a (.p 2 (0)))), (4, .b (false)), (14, .e (.a (.q 1))), (15, .i ((add.length : Int))), (16, .i ((i : Int)))], [(0, PL EPig (s.pigs)), (1, PL EP.int (add))], [(2, .blk [ai (s.pounds), ai (s.tl), ai (s.th), ai (s.al), ai (s.ah), ai (s.room), ai (s.tpl), ai (s.tph), ai (s.apl), ai (s.aph), .q 0] 139)], [], []⟩) (fun i => i ≤ add.length ∧ allI (fitsMany s.pigs add) i = true) (fun i => add.length - i) (0) id ?_ (LeR.of ⟨rfl, rfl, rfl, rfl, rfl, rfl, trivial⟩ ⟨(lx rfl), (lx rfl), trivial⟩ ⟨rfl, trivial⟩ rfl rfl rfl rfl rfl) ?_
    · exact ⟨by omega, rfl⟩
    intro i hφ
    have hi : i ≤ add.length := hφ.1
    have hall := hφ.2
    have hlen : (add.length : Int) = s.pigs.length := by simpa using hc1
    refine WP.seq ?_
    refine WP.region ?_
    refine WPl.v rfl (o_lss rfl rfl) ?_
    refine WPl.nil ?_
    refine EX.then ?_
    refine WP.seq ?_
    refine WP.cond rfl (fun hc2 => ?_) (fun hc2 => ?_)
    · try simp only [decide_eq_true_eq, decide_eq_false_iff_not, Bool.and_eq_true, Bool.or_eq_true, Bool.and_eq_false_iff, Bool.or_eq_false_iff, Bool.not_eq_true', Bool.not_eq_false', ne_eq, Decidable.not_not] at hc2
      refine WP.skip ?_
      refine EX.then ?_
      refine WP.seq ?_
      refine WP.block ?_
      refine WP.seq ?_
      refine WP.region ?_
      refine WPl.v rfl (o_move rfl) ?_
      refine WPl.x 3 4 rfl rfl rfl (o_idx L44 rfl (lx rfl) rfl (by first | omega | (simp; omega)) (by first | omega | (simp; omega))) ?_
      refine WPl.v rfl (o_ldq S3 rfl (lx rfl) intc) ?_
      refine WPl.v rfl (o_assign rfl) ?_
      refine WPl.v rfl (o_assign rfl) ?_
      refine WPl.nil ?_
      refine EX.then ?_
      refine WP.seq ?_
      refine WP.region ?_
      refine WPl.v rfl (o_move rfl) ?_
      refine WPl.v rfl (o_fldp F139_0 rfl) ?_
      refine WPl.v rfl (o_fldp F28_4 rfl) ?_
      refine WPl.v rfl (o_ldp S26 rfl rfl rfl) ?_
      refine WPl.v rfl (o_move rfl) ?_
      refine WPl.x 4 5 rfl rfl rfl (o_idx L26 rfl (lx rfl) rfl (by first | omega | (simp; omega)) (by first | omega | (simp; omega))) ?_
      refine WPl.v rfl (o_fldq F78_4 rfl (lx rfl)) ?_
      refine WPl.v rfl (o_lde S3 rfl (lx rfl) (strI rfl)) ?_
      refine WPl.cs 5 rfl rfl rfl rfl (o_sig 5 id (c133 (nth add (i : Int)) 0 ((nth s.pigs (i : Int)).many)) e133 rfl rfl rfl w133 trivial r133) ?_
      refine WPl.v rfl (o_not rfl) ?_
      refine WPl.nil ?_
      refine EX.then ?_
      refine WP.cond rfl (fun hc3 => ?_) (fun hc3 => ?_)
      · try simp only [decide_eq_true_eq, decide_eq_false_iff_not, Bool.and_eq_true, Bool.or_eq_true, Bool.and_eq_false_iff, Bool.or_eq_false_iff, Bool.not_eq_true', Bool.not_eq_false', ne_eq, Decidable.not_not] at hc3
        refine WP.seq ?_
        refine WP.region ?_
        refine WPl.v rfl (o_assign rfl) ?_
        refine WPl.nil ?_
        refine EX.then ?_
        refine WP.ret ?_
        refine EX.ret_blk ?_
        refine EX.ret_then ?_
        refine EX.ret_then ?_
        refine EX.ret_blk ?_
        refine EX.ret_then ?_
        rw [show isAdd s add = false from by simp only [isAdd, not_allI (show i < add.length by omega) (show fitsMany s.pigs add i = false from hc3)]; simp]
        exact EX.fin id (.inl rfl) rfl (.tmp rfl .nil) rfl (by simp [SV.res, El.res, At.res, keys]) trivial (by simp) (by simp)
      · try simp only [decide_eq_true_eq, decide_eq_false_iff_not, Bool.and_eq_true, Bool.or_eq_true, Bool.and_eq_false_iff, Bool.or_eq_false_iff, Bool.not_eq_true', Bool.not_eq_false', ne_eq, Decidable.not_not] at hc3
        refine WP.skip ?_
        refine EX.blk ?_
        refine EX.then ?_
        refine WP.region ?_
        refine WPl.v rfl (o_add rfl rfl (by first | omega | (simp; omega)) (by first | omega | (simp; omega))) ?_
        refine WPl.v rfl (o_move rfl) ?_
        refine WPl.nil ?_
        refine EX.again (i + 1) id (by exact ⟨by omega, by simp only [allI, hall, Bool.true_and]; exact hc3⟩) (by omega) (LeR.of ⟨rfl, rfl, rfl, rfl, rfl, rfl, trivial⟩ ⟨(lx rfl), (lx rfl), trivial⟩ ⟨rfl, trivial⟩ rfl rfl rfl rfl rfl)
    · try simp only [decide_eq_true_eq, decide_eq_false_iff_not, Bool.and_eq_true, Bool.or_eq_true, Bool.and_eq_false_iff, Bool.or_eq_false_iff, Bool.not_eq_true', Bool.not_eq_false', ne_eq, Decidable.not_not] at hc2
      refine WP.exit ?_
      refine EX.exit_then ?_
      refine EX.exit_then ?_
      refine EX.exit_blk ?_
      refine EX.then ?_
      refine WP.seq ?_
      refine WP.imp (Imp.nam 3 4 (.func (.func 153) #[] #[]) (R := (PigQ Pig.pounds).and (Pred.is (.func (.func 153) #[] #[]))) (fun I => FvP.namea (fun (x : Pig) => (c153 x)) e153 (fun _ => (by simp [SV.res, El.res, At.res, keys])) I) rfl rfl) ?_
      refine WP.draw (nf := 4) [⟨[36, 37, 38, 40, 41, 42], [], [], [], []⟩, ⟨[36, 37, 38, 40, 41, 42], [], [], [], [0]⟩, ⟨[36, 37, 38, 40, 41, 42], [], [], [], [0, 1]⟩, ⟨[36, 37, 38, 40, 41, 42], [], [], [], [0, 1, 2]⟩, ⟨[32, 33, 34, 35, 37, 40, 41, 42], [], [], [], []⟩, ⟨[32, 33, 34, 35, 36, 40, 41, 42], [], [], [], []⟩, ⟨[32, 33, 34, 35, 40, 41, 42], [], [], [], [4, 5]⟩, ⟨[40, 41, 42], [], [], [], [0, 1, 2, 3, 4, 5, 6]⟩, ⟨[32, 33, 34, 35, 36, 37, 38, 39], [], [], [], []⟩, ⟨[32, 33, 34, 35, 36, 37, 38, 39], [], [], [], [8]⟩, ⟨[32, 33, 34, 35, 36, 37, 38, 39], [], [], [], [8, 9]⟩, ⟨[], [], [], [], [0, 1, 2, 3, 4, 5, 6, 7, 8, 9, 10]⟩, ⟨[], [], [], [], [0, 1, 2, 3, 4, 5, 6, 7, 8, 9, 10, 11]⟩] (by kernel_rfl) (by kernel_rfl) ?_
      have he : i = add.length := by omega
      subst he
      have hbn := fits_bnd hpg (by omega) hall
      have hsum := sumOf_bnd (f := Pig.pounds) hpg (by omega) hbn (fun p h => by have := Pig.bnds h; omega)
      refine DRQ.v rfl rfl rfl (o_fldp F139_0 rfl) ?_
      refine DRQ.v rfl rfl rfl (o_fldp F28_0 rfl) ?_
      refine DRQ.v rfl rfl rfl (o_fldp F25_0 rfl) ?_
      refine DRQ.v rfl rfl rfl (o_ldp S3 rfl rfl rfl) ?_
      refine DRQ.v rfl rfl rfl (o_ldpa G139 rfl rfl rfl) ?_
      refine DRQ.v rfl rfl rfl (o_move rfl) ?_
      refine DRQ.cs rfl rfl rfl rfl (o_sigc 4 (ren [(0, 0), (1, 1), (2, 3)]) (c151 s add Pig.pounds hpg hbn (by omega) (fun p h => by have := Pig.bnds h; (show 0 ≤ p.pounds ∧ p.pounds ≤ 99); omega)) e151 rfl rfl ⟨.inl rfl, .inl rfl, .inr ⟨_, _, rfl, fun _ => rfl, (lxr rfl)⟩, trivial⟩ w151 ⟨(lx rfl), (lx rfl), (lxl rfl), trivial⟩ r151) ?_
      refine DRQ.v rfl rfl rfl (o_add rfl rfl (by first | omega | (simp; omega)) (by first | omega | (simp; omega))) ?_
      refine DRQ.v rfl rfl rfl (o_fldp F139_0 rfl) ?_
      refine DRQ.v rfl rfl rfl (o_fldp F28_1 rfl) ?_
      refine DRQ.v rfl rfl rfl (o_ldp S3 rfl rfl rfl) ?_
      refine DRQ.v rfl rfl rfl (o_leq rfl rfl) ?_
      refine DRQ.v rfl rfl rfl (o_assign rfl) ?_
      refine DRQ.nil' ?_
      refine EX.then ?_
      refine WP.ret ?_
      rw [show isAdd s add = decide (s.pounds + sumOf Pig.pounds s.pigs add ≤ s.room) from by simp [isAdd, hall, hlen]]
      exact EX.fin id (.inl rfl) rfl (.tmp rfl .nil) rfl (by simp [SV.res, El.res, At.res, keys]) trivial (by simp) (by simp)
theorem w154 {a b n : Int} : ∀ x ∈ ([.e (.g [ai (a), ai (b)]), .i (n)] : List SV), x.res (keys (α := Pred) []) := by simp [SV.res, El.res, At.res, keys]
theorem r154 {a b n : Int} : SV.res (keys (α := Pred) []) (.e (.g [ai (a + n), ai (b + n)])) := by simp [SV.res, El.res, At.res, keys]
set_option maxHeartbeats 4000000 in
theorem c154 (a b n : Int) (h1 : -1000000000 ≤ a ∧ a ≤ 1000000000) (h2 : -1000000000 ≤ b ∧ b ≤ 1000000000) (h3 : -1000000000 ≤ n ∧ n ≤ 1000000000) : Sig Try.prog 154 [.e (.g [ai (a), ai (b)]), .i (n)] [] (.e (.g [ai (a + n), ai (b + n)])) [] := by
  refine Sig.intro Try.func154 rfl 0 [(0, .e (.g [ai (a), ai (b)])), (1, .i (n))] rfl w154 rfl rfl fun I w => ?_
  refine WP.seq ?_
  refine WP.region ?_
  refine WPl.l 0 1 rfl rfl rfl (o_boxg rfl) ?_
  refine WPl.l 1 2 rfl rfl rfl (o_alloc Z23) ?_
  refine WPl.nil ?_
  refine EX.then ?_
  refine WP.seq ?_
  refine WP.region ?_
  refine WPl.v rfl (o_fldp F23_0 rfl) ?_
  refine WPl.v rfl (o_ldp S3 rfl rfl rfl) ?_
  refine WPl.v rfl (o_move rfl) ?_
  refine WPl.v rfl (o_add rfl rfl (by first | omega | (simp; omega)) (by first | omega | (simp; omega))) ?_
  refine WPl.v rfl (o_fldp F23_1 rfl) ?_
  refine WPl.v rfl (o_ldp S3 rfl rfl rfl) ?_
  refine WPl.v rfl (o_move rfl) ?_
  refine WPl.v rfl (o_add rfl rfl (by first | omega | (simp; omega)) (by first | omega | (simp; omega))) ?_
  refine WPl.v rfl (o_build B23 rfl ⟨rfl, rfl, trivial⟩ rfl rfl) ?_
  refine WPl.s1 (o_stag G23 rfl rfl rfl ⟨rfl, rfl, trivial⟩ rfl rfl) ?_
  refine WPl.nil ?_
  refine EX.then ?_
  refine WP.ret ?_
  exact EX.fin id (.inl rfl) rfl (.cellg G23 rfl rfl rfl (.nil)) rfl r154 trivial (by simp) (by simp)
theorem w118 {s : Shop} {add : List Int} : ∀ x ∈ ([.e (.g [ai (s.pounds), ai (s.tl), ai (s.th), ai (s.al), ai (s.ah), ai (s.room), ai (s.tpl), ai (s.tph), ai (s.apl), ai (s.aph), .q 0]), .e (.a (.q 1))] : List SV), x.res (keys (α := Pred) [(0, PL EPig (s.pigs)), (1, PL EP.int (add))]) := by simp [SV.res, El.res, At.res, keys]
theorem r118 {s : Shop} {add : List Int} : SV.res (keys (α := Pred) []) (.e (.g [ai ((s.aft add).pounds), ai ((s.aft add).tl), ai ((s.aft add).th), ai ((s.aft add).al), ai ((s.aft add).ah)])) := by simp [SV.res, El.res, At.res, keys]
set_option maxHeartbeats 4000000 in
theorem c118 (s : Shop) (add : List Int) (hs : s.chk = true) (hl : add.length ≤ s.pigs.length) (hb : bnd add 1000) : Sig Try.prog 118 [.e (.g [ai (s.pounds), ai (s.tl), ai (s.th), ai (s.al), ai (s.ah), ai (s.room), ai (s.tpl), ai (s.tph), ai (s.apl), ai (s.aph), .q 0]), .e (.a (.q 1))] [(0, PL EPig (s.pigs)), (1, PL EP.int (add))] (.e (.g [ai ((s.aft add).pounds), ai ((s.aft add).tl), ai ((s.aft add).th), ai ((s.aft add).al), ai ((s.aft add).ah)])) [] := by
  have hpg := Shop.pigsOK hs
  have htb := tl_bnd hs
  have hs0 := sumOf_bnd (f := Pig.pounds) hpg hl hb (fun p h => by have := Pig.bnds h; omega)
  have hs1 := sumOf_bnd (f := Pig.tin) hpg hl hb (fun p h => by have := Pig.bnds h; omega)
  have hs2 := sumOf_bnd (f := Pig.ant) hpg hl hb (fun p h => by have := Pig.bnds h; omega)
  refine Sig.intro Try.func118 rfl 2 [(0, .e (.g [ai (s.pounds), ai (s.tl), ai (s.th), ai (s.al), ai (s.ah), ai (s.room), ai (s.tpl), ai (s.tph), ai (s.apl), ai (s.aph), .q 0])), (1, .e (.a (.q 1)))] rfl w118 rfl rfl fun I w => ?_
  refine WP.seq ?_
  refine WP.region ?_
  refine WPl.l 2 3 rfl rfl rfl (o_boxg rfl) ?_
  refine WPl.l 3 4 rfl rfl rfl (o_alloc Z25) ?_
  refine WPl.nil ?_
  refine EX.then ?_
  refine WP.seq ?_
  refine WP.imp (Imp.nam 4 5 (.func (.func 153) #[] #[]) (R := (PigQ Pig.pounds).and (Pred.is (.func (.func 153) #[] #[]))) (fun I => FvP.namea (fun (x : Pig) => (c153 x)) e153 (fun _ => (by simp [SV.res, El.res, At.res, keys])) I) rfl rfl) ?_
  refine WP.imp (Imp.nam 5 6 (.func (.func 155) #[] #[]) (R := (PigQ Pig.tin).and (Pred.is (.func (.func 155) #[] #[]))) (fun I => FvP.namea (fun (x : Pig) => (c155 x)) e155 (fun _ => (by simp [SV.res, El.res, At.res, keys])) I) rfl rfl) ?_
  refine WP.imp (Imp.nam 6 7 (.func (.func 156) #[] #[]) (R := (PigQ Pig.ant).and (Pred.is (.func (.func 156) #[] #[]))) (fun I => FvP.namea (fun (x : Pig) => (c156 x)) e156 (fun _ => (by simp [SV.res, El.res, At.res, keys])) I) rfl rfl) ?_
  refine WP.draw (nf := 7) [⟨[9, 10, 11, 13, 14, 15, 16, 17, 18, 19, 20, 21, 22, 23, 24, 25, 26, 27, 28], [], [], [], []⟩, ⟨[9, 10, 11, 13, 14, 15, 16, 17, 18, 19, 20, 21, 22, 23, 24, 25, 26, 27, 28], [], [], [], [0]⟩, ⟨[9, 10, 11, 13, 14, 15, 16, 17, 18, 19, 20, 21, 22, 23, 24, 25, 26, 27, 28], [], [], [], [0, 1]⟩, ⟨[9, 10, 11, 13, 14, 15, 16, 17, 18, 19, 20, 21, 22, 23, 24, 25, 26, 27, 28], [], [], [], [0, 1, 2]⟩, ⟨[5, 6, 7, 8, 10, 13, 14, 15, 16, 17, 18, 21, 22, 23, 24, 25, 26], [], [], [], []⟩, ⟨[5, 6, 7, 8, 9, 13, 14, 15, 16, 17, 18, 21, 22, 23, 24, 25, 26], [], [], [], []⟩, ⟨[5, 6, 7, 8, 13, 14, 15, 16, 17, 18, 21, 22, 23, 24, 25, 26], [], [], [], [4, 5]⟩, ⟨[13, 14, 15, 16, 17, 18, 19, 20, 21, 22, 23, 24, 25, 26, 27, 28], [], [], [], [0, 1, 2, 3, 4, 5, 6]⟩, ⟨[5, 6, 7, 8, 9, 10, 11, 12, 17, 18, 19, 21, 22, 23, 24, 25, 26], [], [], [], []⟩, ⟨[5, 6, 7, 8, 9, 10, 11, 12, 17, 18, 19, 21, 22, 23, 24, 25, 26], [], [], [], [8]⟩, ⟨[5, 6, 7, 8, 9, 10, 11, 12, 17, 18, 19, 21, 22, 23, 24, 25, 26], [], [], [], [8, 9]⟩, ⟨[5, 6, 7, 8, 9, 10, 11, 12, 17, 18, 19, 21, 22, 23, 24, 25, 26], [], [], [], [8, 9, 10]⟩, ⟨[5, 6, 7, 8, 9, 10, 11, 12, 13, 14, 15, 16, 18, 21, 22, 23, 24, 25, 26], [], [], [], []⟩, ⟨[5, 6, 7, 8, 9, 10, 11, 12, 13, 14, 15, 16, 17, 21, 22, 23, 24, 25, 26], [], [], [], []⟩, ⟨[5, 6, 7, 8, 12, 13, 14, 15, 16, 21, 22, 23, 24, 25, 26], [], [], [], [4, 5, 6, 12, 13]⟩, ⟨[5, 6, 7, 8, 12, 21, 22, 23, 24, 25, 26], [], [], [], [4, 5, 6, 8, 9, 10, 11, 12, 13, 14]⟩, ⟨[5, 6, 7, 8, 9, 10, 11, 12, 13, 14, 15, 16, 17, 18, 19, 20, 25, 26, 27], [], [], [], []⟩, ⟨[5, 6, 7, 8, 9, 10, 11, 12, 13, 14, 15, 16, 17, 18, 19, 20, 25, 26, 27], [], [], [], [16]⟩, ⟨[5, 6, 7, 8, 9, 10, 11, 12, 13, 14, 15, 16, 17, 18, 19, 20, 25, 26, 27], [], [], [], [16, 17]⟩, ⟨[5, 6, 7, 8, 9, 10, 11, 12, 13, 14, 15, 16, 17, 18, 19, 20, 25, 26, 27], [], [], [], [16, 17, 18]⟩, ⟨[5, 6, 7, 8, 9, 10, 11, 12, 13, 14, 15, 16, 17, 18, 19, 20, 21, 22, 23, 24, 26], [], [], [], []⟩, ⟨[5, 6, 7, 8, 9, 10, 11, 12, 13, 14, 15, 16, 17, 18, 19, 20, 21, 22, 23, 24, 25], [], [], [], []⟩, ⟨[5, 6, 7, 8, 12, 21, 22, 23, 24], [], [], [], [4, 5, 6, 8, 9, 10, 11, 12, 13, 14, 15, 20, 21]⟩, ⟨[5, 6, 7, 8, 12], [], [], [], [4, 5, 6, 8, 9, 10, 11, 12, 13, 14, 15, 16, 17, 18, 19, 20, 21, 22]⟩, ⟨[], [], [], [], [0, 1, 2, 3, 4, 5, 6, 7, 8, 9, 10, 11, 12, 13, 14, 15, 16, 17, 18, 19, 20, 21, 22, 23]⟩, ⟨[], [], [], [3], [0, 1, 2, 3, 4, 5, 6, 7, 8, 9, 10, 11, 12, 13, 14, 15, 16, 17, 18, 19, 20, 21, 22, 23, 24]⟩] (by kernel_rfl) (by kernel_rfl) ?_
  refine DRQ.v rfl rfl rfl (o_fldp F139_0 rfl) ?_
  refine DRQ.v rfl rfl rfl (o_fldp F28_0 rfl) ?_
  refine DRQ.v rfl rfl rfl (o_fldp F25_0 rfl) ?_
  refine DRQ.v rfl rfl rfl (o_ldp S3 rfl rfl rfl) ?_
  refine DRQ.v rfl rfl rfl (o_ldpa G139 rfl rfl rfl) ?_
  refine DRQ.v rfl rfl rfl (o_move rfl) ?_
  refine DRQ.cs rfl rfl rfl rfl (o_sigc 7 (ren [(0, 0), (1, 1), (2, 4)]) (c151 s add Pig.pounds hpg hb hl (fun p h => by have := Pig.bnds h; (show 0 ≤ p.pounds ∧ p.pounds ≤ 99); omega)) e151 rfl rfl ⟨.inl rfl, .inl rfl, .inr ⟨_, _, rfl, fun _ => rfl, (lxr rfl)⟩, trivial⟩ w151 ⟨(lx rfl), (lx rfl), (lxl rfl), trivial⟩ r151) ?_
  refine DRQ.v rfl rfl rfl (o_add rfl rfl (by first | omega | (simp; omega)) (by first | omega | (simp; omega))) ?_
  refine DRQ.v rfl rfl rfl (o_fldp F139_0 rfl) ?_
  refine DRQ.v rfl rfl rfl (o_fldp F28_0 rfl) ?_
  refine DRQ.v rfl rfl rfl (o_fldp F25_1 rfl) ?_
  refine DRQ.v rfl rfl rfl (o_ldpg G23 rfl rfl rfl) ?_
  refine DRQ.v rfl rfl rfl (o_ldpa G139 rfl rfl rfl) ?_
  refine DRQ.v rfl rfl rfl (o_move rfl) ?_
  refine DRQ.cs rfl rfl rfl rfl (o_sigc 7 (ren [(0, 0), (1, 1), (2, 5)]) (c151 s add Pig.tin hpg hb hl (fun p h => by have := Pig.bnds h; (show 0 ≤ p.tin ∧ p.tin ≤ 99); omega)) e151 rfl rfl ⟨.inl rfl, .inl rfl, .inr ⟨_, _, rfl, fun _ => rfl, (lxr rfl)⟩, trivial⟩ w151 ⟨(lx rfl), (lx rfl), (lxl rfl), trivial⟩ r151) ?_
  refine DRQ.cs rfl rfl rfl rfl (o_sig 7 id (c154 s.tl s.th (sumOf Pig.tin s.pigs add) (by omega) (by omega) (by omega)) e154 rfl rfl rfl w154 trivial r154) ?_
  refine DRQ.v rfl rfl rfl (o_fldp F139_0 rfl) ?_
  refine DRQ.v rfl rfl rfl (o_fldp F28_0 rfl) ?_
  refine DRQ.v rfl rfl rfl (o_fldp F25_2 rfl) ?_
  refine DRQ.v rfl rfl rfl (o_ldpg G23 rfl rfl rfl) ?_
  refine DRQ.v rfl rfl rfl (o_ldpa G139 rfl rfl rfl) ?_
  refine DRQ.v rfl rfl rfl (o_move rfl) ?_
  refine DRQ.cs rfl rfl rfl rfl (o_sigc 7 (ren [(0, 0), (1, 1), (2, 6)]) (c151 s add Pig.ant hpg hb hl (fun p h => by have := Pig.bnds h; (show 0 ≤ p.ant ∧ p.ant ≤ 99); omega)) e151 rfl rfl ⟨.inl rfl, .inl rfl, .inr ⟨_, _, rfl, fun _ => rfl, (lxr rfl)⟩, trivial⟩ w151 ⟨(lx rfl), (lx rfl), (lxl rfl), trivial⟩ r151) ?_
  refine DRQ.cs rfl rfl rfl rfl (o_sig 7 id (c154 s.al s.ah (sumOf Pig.ant s.pigs add) (by omega) (by omega) (by omega)) e154 rfl rfl rfl w154 trivial r154) ?_
  refine DRQ.v rfl rfl rfl (o_build B25 rfl ⟨rfl, trivial⟩ rfl rfl) ?_
  refine DRQ.s 3 rfl rfl rfl (o_stag G25 rfl rfl rfl ⟨rfl, rfl, rfl, rfl, rfl, trivial⟩ rfl rfl) ?_
  refine DRQ.nil' ?_
  refine EX.then ?_
  refine WP.ret ?_
  exact EX.fin id (.inl rfl) rfl (.cellg G25 rfl rfl rfl (.nil)) rfl r118 trivial (by simp) (by simp)
theorem w158 {s : Shop} {p : Po} {n : Int} : ∀ x ∈ ([.e (.g [ai (s.pounds), ai (s.tl), ai (s.th), ai (s.al), ai (s.ah), ai (s.room), ai (s.tpl), ai (s.tph), ai (s.apl), ai (s.aph), .q 0]), .e (.g [ai (p.pounds), ai (p.tl), ai (p.th), ai (p.al), ai (p.ah)]), .i (n)] : List SV), x.res (keys (α := Pred) [(0, PL EPig (s.pigs))]) := by simp [SV.res, El.res, At.res, keys]
theorem r158 {s : Shop} {p : Po} {n : Int} : SV.res (keys (α := Pred) []) (.b (s.failsP p n)) := by simp [SV.res, El.res, At.res, keys]
set_option maxHeartbeats 4000000 in
theorem c158 (s : Shop) (p : Po) (n : Int) (hs : s.chk = true) (hp : PoB p) : Sig Try.prog 158 [.e (.g [ai (s.pounds), ai (s.tl), ai (s.th), ai (s.al), ai (s.ah), ai (s.room), ai (s.tpl), ai (s.tph), ai (s.apl), ai (s.aph), .q 0]), .e (.g [ai (p.pounds), ai (p.tl), ai (p.th), ai (p.al), ai (p.ah)]), .i (n)] [(0, PL EPig (s.pigs))] (.b (s.failsP p n)) [] := by
  have htb := tl_bnd hs
  unfold PoB at hp
  have m0 := mulb (a := p.pounds) (A := 1000000) (b := s.tpl) (B := 1000) (by omega) (by omega) (by omega) (by omega)
  have m1 := mulb (a := p.pounds) (A := 1000000) (b := s.tph) (B := 1000) (by omega) (by omega) (by omega) (by omega)
  have m2 := mulb (a := p.pounds) (A := 1000000) (b := s.apl) (B := 1000) (by omega) (by omega) (by omega) (by omega)
  have m3 := mulb (a := p.pounds) (A := 1000000) (b := s.aph) (B := 1000) (by omega) (by omega) (by omega) (by omega)
  refine Sig.intro Try.func158 rfl 1 [(0, .e (.g [ai (s.pounds), ai (s.tl), ai (s.th), ai (s.al), ai (s.ah), ai (s.room), ai (s.tpl), ai (s.tph), ai (s.apl), ai (s.aph), .q 0])), (1, .e (.g [ai (p.pounds), ai (p.tl), ai (p.th), ai (p.al), ai (p.ah)])), (2, .i (n))] rfl w158 rfl rfl fun I w => ?_
  refine WP.seq ?_
  refine WP.region ?_
  refine WPl.l 1 2 rfl rfl rfl (o_boxg rfl) ?_
  refine WPl.l 2 3 rfl rfl rfl (o_boxg rfl) ?_
  refine WPl.v rfl (o_assign rfl) ?_
  refine WPl.nil ?_
  refine EX.then ?_
  refine WP.seq ?_
  refine WP.seq ?_
  refine WP.region ?_
  refine WPl.v rfl (o_move rfl) ?_
  refine WPl.nil ?_
  refine EX.then ?_
  refine WP.block ?_
  refine WP.seq ?_
  refine WP.region ?_
  refine WPl.v rfl (o_eql rfl rfl) ?_
  refine WPl.v rfl (o_assign rfl) ?_
  refine WPl.nil ?_
  refine EX.then ?_
  refine WP.cond rfl (fun hc1 => ?_) (fun hc1 => ?_)
  · try simp only [decide_eq_true_eq, decide_eq_false_iff_not, Bool.and_eq_true, Bool.or_eq_true, Bool.and_eq_false_iff, Bool.or_eq_false_iff, Bool.not_eq_true', Bool.not_eq_false', ne_eq, Decidable.not_not] at hc1
    refine WP.seq ?_
    refine WP.region ?_
    refine WPl.v rfl (o_fldp F25_1 rfl) ?_
    refine WPl.v rfl (o_fldp F23_0 rfl) ?_
    refine WPl.v rfl (o_ldp S3 rfl rfl rfl) ?_
    refine WPl.v rfl (o_mul rfl rfl (by first | omega | (simp; omega)) (by first | omega | (simp; omega))) ?_
    refine WPl.v rfl (o_fldp F25_0 rfl) ?_
    refine WPl.v rfl (o_ldp S3 rfl rfl rfl) ?_
    refine WPl.v rfl (o_fldp F139_0 rfl) ?_
    refine WPl.v rfl (o_fldp F28_2 rfl) ?_
    refine WPl.v rfl (o_fldp F23_0 rfl) ?_
    refine WPl.v rfl (o_ldp S3 rfl rfl rfl) ?_
    refine WPl.v rfl (o_mul rfl rfl (by first | omega | (simp; omega)) (by first | omega | (simp; omega))) ?_
    refine WPl.v rfl (o_lss rfl rfl) ?_
    refine WPl.v rfl (o_assign rfl) ?_
    refine WPl.nil ?_
    refine EX.then ?_
    refine WP.ret ?_
    refine EX.ret_blk ?_
    refine EX.ret_then ?_
    rw [show s.failsP p n = decide (1000 * p.tl < p.pounds * s.tpl) from if_pos hc1]
    exact EX.fin id (.inl rfl) rfl (.tmp rfl .nil) rfl (by simp [SV.res, El.res, At.res, keys]) trivial (by simp) (by simp)
  · try simp only [decide_eq_true_eq, decide_eq_false_iff_not, Bool.and_eq_true, Bool.or_eq_true, Bool.and_eq_false_iff, Bool.or_eq_false_iff, Bool.not_eq_true', Bool.not_eq_false', ne_eq, Decidable.not_not] at hc1
    refine WP.seq ?_
    refine WP.region ?_
    refine WPl.v rfl (o_eql rfl rfl) ?_
    refine WPl.v rfl (o_assign rfl) ?_
    refine WPl.nil ?_
    refine EX.then ?_
    refine WP.cond rfl (fun hc2 => ?_) (fun hc2 => ?_)
    · try simp only [decide_eq_true_eq, decide_eq_false_iff_not, Bool.and_eq_true, Bool.or_eq_true, Bool.and_eq_false_iff, Bool.or_eq_false_iff, Bool.not_eq_true', Bool.not_eq_false', ne_eq, Decidable.not_not] at hc2
      refine WP.seq ?_
      refine WP.region ?_
      refine WPl.v rfl (o_fldp F25_1 rfl) ?_
      refine WPl.v rfl (o_fldp F23_1 rfl) ?_
      refine WPl.v rfl (o_ldp S3 rfl rfl rfl) ?_
      refine WPl.v rfl (o_mul rfl rfl (by first | omega | (simp; omega)) (by first | omega | (simp; omega))) ?_
      refine WPl.v rfl (o_fldp F25_0 rfl) ?_
      refine WPl.v rfl (o_ldp S3 rfl rfl rfl) ?_
      refine WPl.v rfl (o_fldp F139_0 rfl) ?_
      refine WPl.v rfl (o_fldp F28_2 rfl) ?_
      refine WPl.v rfl (o_fldp F23_1 rfl) ?_
      refine WPl.v rfl (o_ldp S3 rfl rfl rfl) ?_
      refine WPl.v rfl (o_mul rfl rfl (by first | omega | (simp; omega)) (by first | omega | (simp; omega))) ?_
      refine WPl.v rfl (o_gtr rfl rfl) ?_
      refine WPl.v rfl (o_assign rfl) ?_
      refine WPl.nil ?_
      refine EX.then ?_
      refine WP.ret ?_
      refine EX.ret_blk ?_
      refine EX.ret_then ?_
      rw [show s.failsP p n = decide (p.pounds * s.tph < 1000 * p.th) from by unfold Shop.failsP; rw [if_neg hc1, if_pos hc2]]
      exact EX.fin id (.inl rfl) rfl (.tmp rfl .nil) rfl (by simp [SV.res, El.res, At.res, keys]) trivial (by simp) (by simp)
    · try simp only [decide_eq_true_eq, decide_eq_false_iff_not, Bool.and_eq_true, Bool.or_eq_true, Bool.and_eq_false_iff, Bool.or_eq_false_iff, Bool.not_eq_true', Bool.not_eq_false', ne_eq, Decidable.not_not] at hc2
      refine WP.seq ?_
      refine WP.region ?_
      refine WPl.v rfl (o_eql rfl rfl) ?_
      refine WPl.v rfl (o_assign rfl) ?_
      refine WPl.nil ?_
      refine EX.then ?_
      refine WP.cond rfl (fun hc3 => ?_) (fun hc3 => ?_)
      · try simp only [decide_eq_true_eq, decide_eq_false_iff_not, Bool.and_eq_true, Bool.or_eq_true, Bool.and_eq_false_iff, Bool.or_eq_false_iff, Bool.not_eq_true', Bool.not_eq_false', ne_eq, Decidable.not_not] at hc3
        refine WP.seq ?_
        refine WP.region ?_
        refine WPl.v rfl (o_fldp F25_2 rfl) ?_
        refine WPl.v rfl (o_fldp F23_0 rfl) ?_
        refine WPl.v rfl (o_ldp S3 rfl rfl rfl) ?_
        refine WPl.v rfl (o_mul rfl rfl (by first | omega | (simp; omega)) (by first | omega | (simp; omega))) ?_
        refine WPl.v rfl (o_fldp F25_0 rfl) ?_
        refine WPl.v rfl (o_ldp S3 rfl rfl rfl) ?_
        refine WPl.v rfl (o_fldp F139_0 rfl) ?_
        refine WPl.v rfl (o_fldp F28_3 rfl) ?_
        refine WPl.v rfl (o_fldp F23_0 rfl) ?_
        refine WPl.v rfl (o_ldp S3 rfl rfl rfl) ?_
        refine WPl.v rfl (o_mul rfl rfl (by first | omega | (simp; omega)) (by first | omega | (simp; omega))) ?_
        refine WPl.v rfl (o_lss rfl rfl) ?_
        refine WPl.v rfl (o_assign rfl) ?_
        refine WPl.nil ?_
        refine EX.then ?_
        refine WP.ret ?_
        refine EX.ret_blk ?_
        refine EX.ret_then ?_
        rw [show s.failsP p n = decide (1000 * p.al < p.pounds * s.apl) from by unfold Shop.failsP; rw [if_neg hc1, if_neg hc2, if_pos hc3]]
        exact EX.fin id (.inl rfl) rfl (.tmp rfl .nil) rfl (by simp [SV.res, El.res, At.res, keys]) trivial (by simp) (by simp)
      · try simp only [decide_eq_true_eq, decide_eq_false_iff_not, Bool.and_eq_true, Bool.or_eq_true, Bool.and_eq_false_iff, Bool.or_eq_false_iff, Bool.not_eq_true', Bool.not_eq_false', ne_eq, Decidable.not_not] at hc3
        refine WP.skip ?_
        refine EX.blk ?_
        refine EX.then ?_
        refine WP.seq ?_
        refine WP.region ?_
        refine WPl.v rfl (o_fldp F25_2 rfl) ?_
        refine WPl.v rfl (o_fldp F23_1 rfl) ?_
        refine WPl.v rfl (o_ldp S3 rfl rfl rfl) ?_
        refine WPl.v rfl (o_mul rfl rfl (by first | omega | (simp; omega)) (by first | omega | (simp; omega))) ?_
        refine WPl.v rfl (o_fldp F25_0 rfl) ?_
        refine WPl.v rfl (o_ldp S3 rfl rfl rfl) ?_
        refine WPl.v rfl (o_fldp F139_0 rfl) ?_
        refine WPl.v rfl (o_fldp F28_3 rfl) ?_
        refine WPl.v rfl (o_fldp F23_1 rfl) ?_
        refine WPl.v rfl (o_ldp S3 rfl rfl rfl) ?_
        refine WPl.v rfl (o_mul rfl rfl (by first | omega | (simp; omega)) (by first | omega | (simp; omega))) ?_
        refine WPl.v rfl (o_gtr rfl rfl) ?_
        refine WPl.v rfl (o_assign rfl) ?_
        refine WPl.nil ?_
        refine EX.then ?_
        refine WP.ret ?_
        rw [show s.failsP p n = decide (p.pounds * s.aph < 1000 * p.ah) from by unfold Shop.failsP; rw [if_neg hc1, if_neg hc2, if_neg hc3]]
        exact EX.fin id (.inl rfl) rfl (.tmp rfl .nil) rfl (by simp [SV.res, El.res, At.res, keys]) trivial (by simp) (by simp)
theorem w157  : ∀ x ∈ ([] : List SV), x.res (keys (α := Pred) []) := by simp [SV.res, El.res, At.res, keys]
set_option maxHeartbeats 4000000 in
theorem c157   : SigI Try.prog 157 [] [] (limItems) := by
  refine SigI.intro Try.func157 rfl 1 0 w157 rfl rfl rfl fun I w l Y K F0 hround => ?_
  have hF : ∀ c, F0 c → F0 c := fun _ h => h
  refine WP.seq ?_
  refine WP.region ?_
  refine WPl.v rfl (o_assign rfl) ?_
  refine WPl.nil ?_
  refine EX.then ?_
  refine WP.block ?_
  refine WP.loop (Gh := Nat × (Nat → Prop)) (fun (⟨i, F⟩ : Nat × (Nat → Prop)) => ⟨1, [(0, .e (.a (.v (yv l)))), (2, .i ((i : Int) + 1))], [], [(0, .ext ((Y i).xp F))], [], []⟩) (fun (⟨i, F⟩ : Nat × (Nat → Prop)) => i ≤ 4 ∧ ∀ c, F0 c → F c) (fun (⟨i, F⟩ : Nat × (Nat → Prop)) => 4 - i) ((0, F0)) id ?_ (LeR.of ⟨rfl, rfl, trivial⟩ trivial ⟨rfl, trivial⟩ rfl rfl rfl rfl rfl) ?_
  · exact ⟨by omega, fun _ h => h⟩
  rintro ⟨i, F⟩ hφ
  obtain ⟨hi, hF⟩ : i ≤ 4 ∧ ∀ c, F0 c → F c := hφ
  refine WP.seq ?_
  refine WP.seq ?_
  refine WP.region ?_
  refine WPl.v rfl (o_move rfl) ?_
  refine WPl.v rfl (o_leq rfl rfl) ?_
  refine WPl.nil ?_
  refine EX.then ?_
  refine WP.cond rfl (fun hc1 => ?_) (fun hc1 => ?_)
  · try simp only [decide_eq_true_eq, decide_eq_false_iff_not, Bool.and_eq_true, Bool.or_eq_true, Bool.and_eq_false_iff, Bool.or_eq_false_iff, Bool.not_eq_true', Bool.not_eq_false', ne_eq, Decidable.not_not] at hc1
    refine WP.skip ?_
    refine EX.then ?_
    refine WP.seq ?_
    refine WP.block ?_
    refine WP.seq ?_
    refine WP.region ?_
    refine WPl.v rfl (o_move rfl) ?_
    refine WPl.v rfl (o_move rfl) ?_
    refine WPl.yield (Y' := Y (i + 1)) (K' := K) 0 rfl rfl rfl rfl rfl rfl (yieldH (ky := 0) (J := []) (it := ⟨[.i ((i : Int) + 1)], [], []⟩) id (hround (i) _ (range_at (by omega))) rfl (hF) SvsOK.rf (by simp [SV.res, El.res, At.res, keys]) trivial trivial) fun by9 F1 hF1 => ?_
    have hF : ∀ c, F0 c → F1 c := fun c hc => hF1 c (hF c hc)
    cases by9
    · skip
      refine WPl.v rfl (o_not rfl) ?_
      refine WPl.nil ?_
      refine EX.then ?_
      refine WP.cond rfl (fun _ => ?_) (fun h => by cases h)
      refine WP.ret ?_
      refine EX.ret_blk ?_
      refine EX.ret_then ?_
      refine EX.ret_then ?_
      refine EX.ret_blk ?_
      exact EX.finI (.inl rfl) rfl rfl (ky := 0) (Y := K) rfl (fun _ _ h => .inr h)
    · skip
      refine WPl.v rfl (o_not rfl) ?_
      refine WPl.nil ?_
      refine EX.then ?_
      refine WP.cond rfl (fun h => by cases h) (fun _ => ?_)
      refine WP.skip ?_
      refine EX.blk ?_
      refine EX.then ?_
      refine WP.region ?_
      refine WPl.v rfl (o_move rfl) ?_
      refine WPl.v rfl (o_add rfl rfl (by first | omega | (simp; omega)) (by first | omega | (simp; omega))) ?_
      refine WPl.v rfl (o_assign rfl) ?_
      refine WPl.nil ?_
      refine EX.again ((i + 1, F1)) id (by exact ⟨by omega, hF⟩) (by first | omega | (dsimp only; omega) | (simp only []; omega)) (LeR.of ⟨rfl, (congrArg (fun z => some (SV.i z)) (show (((i : Int) + 1) + 1) = ((fun (⟨i, F⟩ : Nat × (Nat → Prop)) => (i : Int) + 1) (i + 1, F1)) from by show (i : Int) + 1 + 1 = ((i + 1 : Nat) : Int) + 1; omega)), trivial⟩ trivial ⟨rfl, trivial⟩ rfl rfl rfl rfl rfl)
  · try simp only [decide_eq_true_eq, decide_eq_false_iff_not, Bool.and_eq_true, Bool.or_eq_true, Bool.and_eq_false_iff, Bool.or_eq_false_iff, Bool.not_eq_true', Bool.not_eq_false', ne_eq, Decidable.not_not] at hc1
    refine WP.exit ?_
    refine EX.exit_then ?_
    refine EX.exit_then ?_
    refine EX.exit_blk ?_
    have hend : i = limItems.length := by simp [limItems]; omega
    exact EX.finI (.inr rfl) rfl rfl (ky := 0) (Y := Y (i)) rfl (fun _ _ h => .inl (by rw [hend] at h; exact h))
theorem w119 {s : Shop} {p : Po} : ∀ x ∈ ([.e (.g [ai (s.pounds), ai (s.tl), ai (s.th), ai (s.al), ai (s.ah), ai (s.room), ai (s.tpl), ai (s.tph), ai (s.apl), ai (s.aph), .q 0]), .e (.g [ai (p.pounds), ai (p.tl), ai (p.th), ai (p.al), ai (p.ah)])] : List SV), x.res (keys (α := Pred) [(0, PL EPig (s.pigs))]) := by simp [SV.res, El.res, At.res, keys]
theorem r119 {s : Shop} {p : Po} : SV.res (keys (α := Pred) []) (.b (s.safeP p)) := by simp [SV.res, El.res, At.res, keys]
set_option maxHeartbeats 4000000 in
theorem c119 (s : Shop) (p : Po) (hs : s.chk = true) (hp : PoB p) : Sig Try.prog 119 [.e (.g [ai (s.pounds), ai (s.tl), ai (s.th), ai (s.al), ai (s.ah), ai (s.room), ai (s.tpl), ai (s.tph), ai (s.apl), ai (s.aph), .q 0]), .e (.g [ai (p.pounds), ai (p.tl), ai (p.th), ai (p.al), ai (p.ah)])] [(0, PL EPig (s.pigs))] (.b (s.safeP p)) [] := by
  refine Sig.intro Try.func119 rfl 1 [(0, .e (.g [ai (s.pounds), ai (s.tl), ai (s.th), ai (s.al), ai (s.ah), ai (s.room), ai (s.tpl), ai (s.tph), ai (s.apl), ai (s.aph), .q 0])), (1, .e (.g [ai (p.pounds), ai (p.tl), ai (p.th), ai (p.al), ai (p.ah)]))] rfl w119 rfl rfl fun I w => ?_
  refine WP.seq ?_
  refine WP.region ?_
  refine WPl.l 1 2 rfl rfl rfl (o_boxg rfl) ?_
  refine WPl.l 2 3 rfl rfl rfl (o_boxg rfl) ?_
  refine WPl.l 3 4 rfl rfl rfl (o_alloc Z4) ?_
  refine WPl.nil ?_
  refine EX.then ?_
  refine WP.seq ?_
  refine WP.block ?_
  refine WP.leR (S' := ⟨4, [(2, .e (.a (.p 1 (0)))), (3, .e (.a (.p 2 (0)))), (4, .e (.a (.p 3 (0))))], [(0, PL EPig (s.pigs))], [(1, .blk [ai (s.pounds), ai (s.tl), ai (s.th), ai (s.al), ai (s.ah), ai (s.room), ai (s.tpl), ai (s.tph), ai (s.apl), ai (s.aph), .q 0] 139), (2, .blk [ai (p.pounds), ai (p.tl), ai (p.th), ai (p.al), ai (p.ah)] 25), (3, .blk [.v (.bool (false))] 4)], [], []⟩) id (LeR.of ⟨rfl, rfl, rfl, trivial⟩ ⟨(lx rfl), trivial⟩ ⟨rfl, rfl, rfl, trivial⟩ rfl rfl rfl rfl rfl) ?_
  refine WP.imp (Imp.nam 4 5 (.bool true) (R := Pred.pure (allI (fun j => !s.failsP p ((j : Int) + 1)) 0 = true)) (fun _ => rfl) rfl rfl) ?_
  refine WP.rangeV 8 0 (4) (fun g => ⟨[.i ((g : Int) + 1)], [], []⟩) (fun g => ⟨8, [(2, .e (.a (.p 1 (0)))), (3, .e (.a (.p 2 (0)))), (4, .e (.a (.p 3 (0))))], [(0, PL EPig (s.pigs)), (7, Pred.pure (allI (fun j => !s.failsP p ((j : Int) + 1)) g = true))], [(1, .blk [ai (s.pounds), ai (s.tl), ai (s.th), ai (s.al), ai (s.ah), ai (s.room), ai (s.tpl), ai (s.tph), ai (s.apl), ai (s.aph), .q 0] 139), (2, .blk [ai (p.pounds), ai (p.tl), ai (p.th), ai (p.al), ai (p.ah)] 25), (3, .blk [.v (.bool (false))] 4), (5, .ob (.deferred (some [])))], [5], []⟩) (fun c T => (s.safeP p = false ∧ c = .ret ∧ T = ⟨8, [(2, .e (.a (.p 1 (0)))), (3, .e (.a (.p 2 (0)))), (4, .e (.a (.p 3 (0))))], [(0, PL EPig (s.pigs))], [(1, .blk [ai (s.pounds), ai (s.tl), ai (s.th), ai (s.al), ai (s.ah), ai (s.room), ai (s.tpl), ai (s.tph), ai (s.apl), ai (s.aph), .q 0] 139), (2, .blk [ai (p.pounds), ai (p.tl), ai (p.th), ai (p.al), ai (p.ah)] 25), (3, .blk [.v (.bool (false))] 4), (5, .ob (.deferred (some [])))], [5], []⟩)) rfl (fv := .e (.a (.f 157 [])))  rfl (SigI.hit c157 e157) (rfl) (fun _ => RSt.of rfl rfl rfl rfl rfl rfl) ((by rintro c T (⟨_, rfl, rfl⟩) <;> exact RSt.of rfl rfl rfl rfl rfl rfl)) rfl rfl rfl (fun _ _ => ItemOK.of rfl) rfl rfl (ren [(7, 4)]) (LeR.of ⟨rfl, rfl, rfl, trivial⟩ ⟨(lx rfl), (lx rfl), trivial⟩ ⟨rfl, rfl, rfl, rfl, trivial⟩ rfl rfl rfl rfl rfl) ?_ ?_ ?_
  · intro g hg w1 E1 I1 R1 pβ1 pν1 us1
    refine WP.pure 7 (lx rfl) fun hinv1 => ?_
    refine WP.region ?_
    refine WPl.v rfl (o_assign rfl) ?_
    refine WPl.nil ?_
    refine EX.beg rfl ?_
    refine WP.block ?_
    refine WP.seq ?_
    refine WP.region ?_
    refine WPl.v rfl (o_ldpa G139 rfl rfl rfl) ?_
    refine WPl.v rfl (o_ldpa G25 rfl rfl rfl) ?_
    refine WPl.v rfl (o_move rfl) ?_
    refine WPl.cs 8 rfl rfl rfl rfl (o_sig 8 (ren [(0, 0)]) (c158 s p ((g : Int) + 1) hs hp) e158 rfl rfl rfl w158 ⟨(lx rfl), trivial⟩ r158) ?_
    refine WPl.nil ?_
    refine EX.then ?_
    refine WP.cond rfl (fun hc1 => ?_) (fun hc1 => ?_)
    · try simp only [decide_eq_true_eq, decide_eq_false_iff_not, Bool.and_eq_true, Bool.or_eq_true, Bool.and_eq_false_iff, Bool.or_eq_false_iff, Bool.not_eq_true', Bool.not_eq_false', ne_eq, Decidable.not_not] at hc1
      refine WP.seq ?_
      refine WP.region ?_
      refine WPl.s1 (o_sta S4 rfl rfl rfl rfl rfl) ?_
      refine WPl.nil ?_
      refine EX.then ?_
      refine WP.ret ?_
      refine EX.ret_blk ?_
      exact EX.jret id ⟨(by exact not_allI hg (by simpa using hc1)), rfl, rfl⟩ (LeR.of trivial ⟨(lx rfl), trivial⟩ ⟨rfl, rfl, rfl, rfl, rfl, trivial⟩ rfl rfl rfl rfl rfl)
    · try simp only [decide_eq_true_eq, decide_eq_false_iff_not, Bool.and_eq_true, Bool.or_eq_true, Bool.and_eq_false_iff, Bool.or_eq_false_iff, Bool.not_eq_true', Bool.not_eq_false', ne_eq, Decidable.not_not] at hc1
      refine WP.skip ?_
      refine EX.blk ?_
      have hinvn : allI (fun j => !s.failsP p ((j : Int) + 1)) (g + 1) = true := by simp only [allI, hinv1, Bool.true_and]; simpa using hc1
      refine EX.imp (Imp.nam 8 9 (.bool true) (R := Pred.pure (allI (fun j => !s.failsP p ((j : Int) + 1)) (g + 1) = true)) (fun _ => hinvn) rfl rfl) ?_
      exact EX.next (ren [(7, 8)]) (LeR.of trivial ⟨(lx rfl), (lx rfl), trivial⟩ ⟨rfl, rfl, rfl, rfl, rfl, trivial⟩ rfl rfl rfl rfl rfl)
  · rintro c T (⟨hj, rfl, rfl⟩)
    · skip
      refine WP.ret ?_
      refine EX.ret_blk ?_
      refine EX.ret_then ?_
      rw [hj]
      exact EX.fin id (.inl rfl) rfl (.cell1 S4 rfl rfl (.nil)) rfl (by simp [SV.res, El.res, At.res, keys]) trivial (marks rfl) (by simp)
  · refine EX.pure 7 (lx rfl) fun hinv1 => ?_
    refine EX.blk ?_
    refine EX.then ?_
    refine WP.seq ?_
    refine WP.region ?_
    refine WPl.s1 (o_sta S4 rfl rfl rfl rfl rfl) ?_
    refine WPl.nil ?_
    refine EX.then ?_
    refine WP.ret ?_
    rw [show s.safeP p = true from hinv1]
    exact EX.fin id (.inl rfl) rfl (.cell1 S4 rfl rfl (.nil)) rfl (by simp [SV.res, El.res, At.res, keys]) trivial (marks rfl) (by simp)
theorem w121 {a b n : Int} : ∀ x ∈ ([.e (.g [ai (a), ai (b)]), .i (n)] : List SV), x.res (keys (α := Pred) []) := by simp [SV.res, El.res, At.res, keys]
theorem r121 {a b n : Int} : SV.res (keys (α := Pred) []) (.e (.g [ai (justL a n), ai (justH b n)])) := by simp [SV.res, El.res, At.res, keys]
set_option maxHeartbeats 4000000 in
theorem c121 (a b n : Int) (h1 : 0 ≤ a ∧ a ≤ 1000) (h2 : 0 ≤ b ∧ b ≤ 1000) (h3 : 0 ≤ n ∧ n ≤ 1000000) : Sig Try.prog 121 [.e (.g [ai (a), ai (b)]), .i (n)] [] (.e (.g [ai (justL a n), ai (justH b n)])) [] := by
  have m1 := mulb (a := n) (A := 1000000) (b := a) (B := 1000) (by omega) (by omega) (by omega) (by omega)
  have m2 := mulb (a := n) (A := 1000000) (b := b) (B := 1000) (by omega) (by omega) (by omega) (by omega)
  have q1 := Int.tdiv_nonneg (show 0 ≤ n * a + 1000 - 1 by omega) (show (0 : Int) ≤ 1000 by omega)
  have q2 := Int.tdiv_le_self 1000 (show 0 ≤ n * a + 1000 - 1 by omega)
  have q3 := Int.tdiv_nonneg m2.1 (show (0 : Int) ≤ 1000 by omega)
  have q4 := Int.tdiv_le_self 1000 m2.1
  refine Sig.intro Try.func121 rfl 0 [(0, .e (.g [ai (a), ai (b)])), (1, .i (n))] rfl w121 rfl rfl fun I w => ?_
  refine WP.seq ?_
  refine WP.region ?_
  refine WPl.l 0 1 rfl rfl rfl (o_boxg rfl) ?_
  refine WPl.l 1 2 rfl rfl rfl (o_alloc Z23) ?_
  refine WPl.nil ?_
  refine EX.then ?_
  refine WP.seq ?_
  refine WP.region ?_
  refine WPl.v rfl (o_move rfl) ?_
  refine WPl.v rfl (o_fldp F23_0 rfl) ?_
  refine WPl.v rfl (o_ldp S3 rfl rfl rfl) ?_
  refine WPl.v rfl (o_mul rfl rfl (by first | omega | (simp; omega)) (by first | omega | (simp; omega))) ?_
  refine WPl.v rfl (o_add rfl rfl (by first | omega | (simp; omega)) (by first | omega | (simp; omega))) ?_
  refine WPl.v rfl (o_sub rfl rfl (by first | omega | (simp; omega)) (by first | omega | (simp; omega))) ?_
  refine WPl.v rfl (o_quo rfl rfl (by first | omega | (simp; omega)) (by first | omega | (simp; omega)) (by first | omega | (simp; omega))) ?_
  refine WPl.v rfl (o_move rfl) ?_
  refine WPl.v rfl (o_fldp F23_1 rfl) ?_
  refine WPl.v rfl (o_ldp S3 rfl rfl rfl) ?_
  refine WPl.v rfl (o_mul rfl rfl (by first | omega | (simp; omega)) (by first | omega | (simp; omega))) ?_
  refine WPl.v rfl (o_quo rfl rfl (by first | omega | (simp; omega)) (by first | omega | (simp; omega)) (by first | omega | (simp; omega))) ?_
  refine WPl.v rfl (o_build B23 rfl ⟨rfl, rfl, trivial⟩ rfl rfl) ?_
  refine WPl.s1 (o_stag G23 rfl rfl rfl ⟨rfl, rfl, trivial⟩ rfl rfl) ?_
  refine WPl.nil ?_
  refine EX.then ?_
  refine WP.ret ?_
  exact EX.fin id (.inl rfl) rfl (.cellg G23 rfl rfl rfl (.nil)) rfl r121 trivial (by simp) (by simp)
theorem w120 {a b c d : Int} : ∀ x ∈ ([.e (.g [ai (a), ai (b)]), .e (.g [ai (c), ai (d)])] : List SV), x.res (keys (α := Pred) []) := by simp [SV.res, El.res, At.res, keys]
theorem r120 {a b c d : Int} : SV.res (keys (α := Pred) []) (.b (decide (max a c ≤ min b d))) := by simp [SV.res, El.res, At.res, keys]
set_option maxHeartbeats 4000000 in
theorem c120 (a b c d : Int)  : Sig Try.prog 120 [.e (.g [ai (a), ai (b)]), .e (.g [ai (c), ai (d)])] [] (.b (decide (max a c ≤ min b d))) [] := by
  refine Sig.intro Try.func120 rfl 0 [(0, .e (.g [ai (a), ai (b)])), (1, .e (.g [ai (c), ai (d)]))] rfl w120 rfl rfl fun I w => ?_
  refine WP.seq ?_
  refine WP.region ?_
  refine WPl.l 0 1 rfl rfl rfl (o_boxg rfl) ?_
  refine WPl.l 1 2 rfl rfl rfl (o_boxg rfl) ?_
  refine WPl.v rfl (o_assign rfl) ?_
  refine WPl.nil ?_
  refine EX.then ?_
  refine WP.seq ?_
  refine WP.region ?_
  refine WPl.v rfl (o_fldp F23_0 rfl) ?_
  refine WPl.v rfl (o_ldp S3 rfl rfl rfl) ?_
  refine WPl.v rfl (o_fldp F23_0 rfl) ?_
  refine WPl.v rfl (o_ldp S3 rfl rfl rfl) ?_
  refine WPl.v rfl (o_max rfl rfl) ?_
  refine WPl.v rfl (o_fldp F23_1 rfl) ?_
  refine WPl.v rfl (o_ldp S3 rfl rfl rfl) ?_
  refine WPl.v rfl (o_fldp F23_1 rfl) ?_
  refine WPl.v rfl (o_ldp S3 rfl rfl rfl) ?_
  refine WPl.v rfl (o_min rfl rfl) ?_
  refine WPl.v rfl (o_leq rfl rfl) ?_
  refine WPl.v rfl (o_assign rfl) ?_
  refine WPl.nil ?_
  refine EX.then ?_
  refine WP.ret ?_
  exact EX.fin id (.inl rfl) rfl (.tmp rfl .nil) rfl r120 trivial (by simp) (by simp)
theorem w115N {s : Shop} : ∀ x ∈ ([.e (.g [ai (s.pounds), ai (s.tl), ai (s.th), ai (s.al), ai (s.ah), ai (s.room), ai (s.tpl), ai (s.tph), ai (s.apl), ai (s.aph), .q 0]), .e (.a (.v (.nilFunc)))] : List SV), x.res (keys (α := Pred) [(0, PL EPig (s.pigs))]) := by simp [SV.res, El.res, At.res, keys]
theorem r115N {s : Shop} : SV.res (keys (α := Pred) [(0, PL EPig (s.pigs))]) (.t [.g [ai (s.pounds), ai (s.tl), ai (s.th), ai (s.al), ai (s.ah), ai (s.room), ai (s.tpl), ai (s.tph), ai (s.apl), ai (s.aph), .q 0], .a (ai (errM s.chk))]) := by simp [SV.res, El.res, At.res, keys]
set_option maxHeartbeats 4000000 in
theorem c115N (s : Shop) (hl : s.pigs.length ≤ 40) : Sig Try.prog 115 [.e (.g [ai (s.pounds), ai (s.tl), ai (s.th), ai (s.al), ai (s.ah), ai (s.room), ai (s.tpl), ai (s.tph), ai (s.apl), ai (s.aph), .q 0]), .e (.a (.v (.nilFunc)))] [(0, PL EPig (s.pigs))] (.t [.g [ai (s.pounds), ai (s.tl), ai (s.th), ai (s.al), ai (s.ah), ai (s.room), ai (s.tpl), ai (s.tph), ai (s.apl), ai (s.aph), .q 0], .a (ai (errM s.chk))]) [(0, PL EPig (s.pigs))] := by
  refine Sig.intro Try.func115 rfl 1 [(0, .e (.g [ai (s.pounds), ai (s.tl), ai (s.th), ai (s.al), ai (s.ah), ai (s.room), ai (s.tpl), ai (s.tph), ai (s.apl), ai (s.aph), .q 0])), (1, .e (.a (.v (.nilFunc))))] rfl w115N rfl rfl fun I w => ?_
  refine WP.seq ?_
  refine WP.region ?_
  refine WPl.l 1 2 rfl rfl rfl (o_boxg rfl) ?_
  refine WPl.l 2 3 rfl rfl rfl (o_alloc Z139) ?_
  refine WPl.v rfl (o_assign rfl) ?_
  refine WPl.nil ?_
  refine EX.then ?_
  refine WP.seq ?_
  refine WP.region ?_
  refine WPl.v rfl (o_ldpa G28 rfl rfl rfl) ?_
  refine WPl.v rfl (o_build B139 rfl trivial rfl rfl) ?_
  refine WPl.l 3 4 rfl rfl rfl (o_alloc Z139) ?_
  refine WPl.s1 (o_stag G139 rfl rfl rfl ⟨rfl, rfl, rfl, rfl, rfl, rfl, rfl, rfl, rfl, rfl, (.inl ⟨_, (lx rfl), PL.one⟩), trivial⟩ rfl rfl) ?_
  refine WPl.nil ?_
  refine EX.then ?_
  refine WP.seq ?_
  refine WP.seq ?_
  refine WP.region ?_
  refine WPl.v rfl (o_ldpa G28 rfl rfl rfl) ?_
  refine WPl.cs 4 rfl rfl rfl rfl (o_sig 4 (ren [(0, 0)]) (c84 s hl) e84 rfl rfl rfl w84 ⟨(lx rfl), trivial⟩ r84) ?_
  refine WPl.v rfl (o_assign rfl) ?_
  refine WPl.nil ?_
  refine EX.then ?_
  refine WP.seq ?_
  refine WP.region ?_
  refine WPl.v rfl (o_move rfl) ?_
  refine WPl.v rfl (o_neq rfl rfl) ?_
  refine WPl.nil ?_
  refine EX.then ?_
  refine WP.cond rfl (fun hc1 => ?_) (fun hc1 => ?_)
  · try simp only [decide_eq_true_eq, decide_eq_false_iff_not, Bool.and_eq_true, Bool.or_eq_true, Bool.and_eq_false_iff, Bool.or_eq_false_iff, Bool.not_eq_true', Bool.not_eq_false', ne_eq, Decidable.not_not] at hc1
    refine WP.seq ?_
    refine WP.region ?_
    refine WPl.v rfl (o_ldpa G139 rfl rfl rfl) ?_
    refine WPl.v rfl (o_move rfl) ?_
    refine WPl.s1 (o_stag G139 rfl rfl rfl ⟨rfl, rfl, rfl, rfl, rfl, rfl, rfl, rfl, rfl, rfl, (.inl ⟨_, (lx rfl), PL.one⟩), trivial⟩ rfl rfl) ?_
    refine WPl.v rfl (o_assign rfl) ?_
    refine WPl.nil ?_
    refine EX.then ?_
    refine WP.ret ?_
    refine EX.ret_then ?_
    exact EX.fin (ren [(0, 0)]) (.inl rfl) rfl (.cellg G139 rfl rfl rfl (.tmp rfl .nil)) rfl r115N ⟨(lx rfl), trivial⟩ (by simp) (by simp)
  · try simp only [decide_eq_true_eq, decide_eq_false_iff_not, Bool.and_eq_true, Bool.or_eq_true, Bool.and_eq_false_iff, Bool.or_eq_false_iff, Bool.not_eq_true', Bool.not_eq_false', ne_eq, Decidable.not_not] at hc1
    refine WP.skip ?_
    refine EX.then ?_
    refine WP.seq ?_
    refine WP.seq ?_
    refine WP.region ?_
    refine WPl.v rfl (o_move rfl) ?_
    refine WPl.v rfl (o_nenil Try.underlying143 rfl) ?_
    refine WPl.v rfl (o_move rfl) ?_
    refine WPl.off rfl ⟨_, _, rfl, rfl, rfl⟩ ?_
    refine WPl.off rfl ⟨_, _, rfl, rfl, rfl⟩ ?_
    refine WPl.off rfl ⟨_, _, rfl, rfl, rfl⟩ ?_
    refine WPl.off rfl ⟨_, _, rfl, rfl, rfl⟩ ?_
    refine WPl.v rfl (o_pickF rfl rfl) ?_
    refine WPl.nil ?_
    refine EX.then ?_
    refine WP.cond rfl (fun h => by cases h) (fun _ => ?_)
    refine WP.skip ?_
    refine EX.then ?_
    refine WP.seq ?_
    refine WP.region ?_
    refine WPl.v rfl (o_ldpa G139 rfl rfl rfl) ?_
    refine WPl.s1 (o_stag G139 rfl rfl rfl ⟨rfl, rfl, rfl, rfl, rfl, rfl, rfl, rfl, rfl, rfl, (.inl ⟨_, (lx rfl), PL.one⟩), trivial⟩ rfl rfl) ?_
    refine WPl.v rfl (o_assign rfl) ?_
    refine WPl.nil ?_
    refine EX.then ?_
    refine WP.ret ?_
    rw [show errM s.chk = 0 from by simpa using hc1]
    exact EX.fin (ren [(0, 0)]) (.inl rfl) rfl (.cellg G139 rfl rfl rfl (.tmp rfl .nil)) rfl (by simp [SV.res, El.res, At.res, keys]) ⟨(lx rfl), trivial⟩ (by simp) (by simp)
theorem w115CE {s : Shop} : ∀ x ∈ ([.e (.g [ai (s.pounds), ai (s.tl), ai (s.th), ai (s.al), ai (s.ah), ai (s.room), ai (s.tpl), ai (s.tph), ai (s.apl), ai (s.aph), .q 0]), .e (.a (.q 1))] : List SV), x.res (keys (α := Pred) [(0, PL EPig (s.pigs)), (1, Pred.fn)]) := by simp [SV.res, El.res, At.res, keys]
theorem r115CE {s : Shop} : SV.res (keys (α := Pred) [(0, PL EPig (s.pigs))]) (.t [.g [ai (s.pounds), ai (s.tl), ai (s.th), ai (s.al), ai (s.ah), ai (s.room), ai (s.tpl), ai (s.tph), ai (s.apl), ai (s.aph), .q 0], .a (ai (10))]) := by simp [SV.res, El.res, At.res, keys]
set_option maxHeartbeats 4000000 in
theorem c115CE (s : Shop) (hf : s.chk = false) (hl : s.pigs.length ≤ 40) : Sig Try.prog 115 [.e (.g [ai (s.pounds), ai (s.tl), ai (s.th), ai (s.al), ai (s.ah), ai (s.room), ai (s.tpl), ai (s.tph), ai (s.apl), ai (s.aph), .q 0]), .e (.a (.q 1))] [(0, PL EPig (s.pigs)), (1, Pred.fn)] (.t [.g [ai (s.pounds), ai (s.tl), ai (s.th), ai (s.al), ai (s.ah), ai (s.room), ai (s.tpl), ai (s.tph), ai (s.apl), ai (s.aph), .q 0], .a (ai (10))]) [(0, PL EPig (s.pigs))] := by
  have hch : errM s.chk = 10 := by simp [hf, errM]
  refine Sig.intro Try.func115 rfl 2 [(0, .e (.g [ai (s.pounds), ai (s.tl), ai (s.th), ai (s.al), ai (s.ah), ai (s.room), ai (s.tpl), ai (s.tph), ai (s.apl), ai (s.aph), .q 0])), (1, .e (.a (.q 1)))] rfl w115CE rfl rfl fun I w => ?_
  refine WP.seq ?_
  refine WP.region ?_
  refine WPl.l 2 3 rfl rfl rfl (o_boxg rfl) ?_
  refine WPl.l 3 4 rfl rfl rfl (o_alloc Z139) ?_
  refine WPl.v rfl (o_assign rfl) ?_
  refine WPl.nil ?_
  refine EX.then ?_
  refine WP.seq ?_
  refine WP.region ?_
  refine WPl.v rfl (o_ldpa G28 rfl rfl rfl) ?_
  refine WPl.v rfl (o_build B139 rfl trivial rfl rfl) ?_
  refine WPl.l 4 5 rfl rfl rfl (o_alloc Z139) ?_
  refine WPl.s1 (o_stag G139 rfl rfl rfl ⟨rfl, rfl, rfl, rfl, rfl, rfl, rfl, rfl, rfl, rfl, (.inl ⟨_, (lx rfl), PL.one⟩), trivial⟩ rfl rfl) ?_
  refine WPl.nil ?_
  refine EX.then ?_
  refine WP.seq ?_
  refine WP.seq ?_
  refine WP.region ?_
  refine WPl.v rfl (o_ldpa G28 rfl rfl rfl) ?_
  refine WPl.cs 5 rfl rfl rfl rfl (o_sig 5 (ren [(0, 0)]) (c84 s hl) e84 rfl rfl rfl w84 ⟨(lx rfl), trivial⟩ r84) ?_
  refine WPl.v rfl (o_assign rfl) ?_
  refine WPl.nil ?_
  refine EX.then ?_
  refine WP.seq ?_
  refine WP.region ?_
  refine WPl.v rfl (o_move rfl) ?_
  refine WPl.v rfl (o_neq rfl rfl) ?_
  refine WPl.nil ?_
  refine EX.then ?_
  refine WP.cond rfl (fun hc1 => ?_) (fun hc1 => ?_)
  · try simp only [decide_eq_true_eq, decide_eq_false_iff_not, Bool.and_eq_true, Bool.or_eq_true, Bool.and_eq_false_iff, Bool.or_eq_false_iff, Bool.not_eq_true', Bool.not_eq_false', ne_eq, Decidable.not_not] at hc1
    refine WP.seq ?_
    refine WP.region ?_
    refine WPl.v rfl (o_ldpa G139 rfl rfl rfl) ?_
    refine WPl.v rfl (o_move rfl) ?_
    refine WPl.s1 (o_stag G139 rfl rfl rfl ⟨rfl, rfl, rfl, rfl, rfl, rfl, rfl, rfl, rfl, rfl, (.inl ⟨_, (lx rfl), PL.one⟩), trivial⟩ rfl rfl) ?_
    refine WPl.v rfl (o_assign rfl) ?_
    refine WPl.nil ?_
    refine EX.then ?_
    refine WP.ret ?_
    refine EX.ret_then ?_
    rw [hch]
    exact EX.fin (ren [(0, 0)]) (.inl rfl) rfl (.cellg G139 rfl rfl rfl (.tmp rfl .nil)) rfl (by simp [SV.res, El.res, At.res, keys]) ⟨(lx rfl), trivial⟩ (by simp) (by simp)
  · try simp only [decide_eq_true_eq, decide_eq_false_iff_not, Bool.and_eq_true, Bool.or_eq_true, Bool.and_eq_false_iff, Bool.or_eq_false_iff, Bool.not_eq_true', Bool.not_eq_false', ne_eq, Decidable.not_not] at hc1
    simp [hch] at hc1
theorem w115C {s : Shop} {v : Bool} : ∀ x ∈ ([.e (.g [ai (s.pounds), ai (s.tl), ai (s.th), ai (s.al), ai (s.ah), ai (s.room), ai (s.tpl), ai (s.tph), ai (s.apl), ai (s.aph), .q 0]), .e (.a (.q 1))] : List SV), x.res (keys (α := Pred) [(0, PL EPig (s.pigs)), (1, IsS s v)]) := by simp [SV.res, El.res, At.res, keys]
theorem r115C {s : Shop} {v : Bool} : SV.res (keys (α := Pred) [(0, PL EPig (s.pigs))]) (.t [.g [ai (s.pounds), ai (s.tl), ai (s.th), ai (s.al), ai (s.ah), ai (s.room), ai (s.tpl), ai (s.tph), ai (s.apl), ai (s.aph), .q 0], .a (ai (opV v))]) := by simp [SV.res, El.res, At.res, keys]
set_option maxHeartbeats 4000000 in
theorem c115C (s : Shop) (v : Bool) (hf : s.chk = true) : Sig Try.prog 115 [.e (.g [ai (s.pounds), ai (s.tl), ai (s.th), ai (s.al), ai (s.ah), ai (s.room), ai (s.tpl), ai (s.tph), ai (s.apl), ai (s.aph), .q 0]), .e (.a (.q 1))] [(0, PL EPig (s.pigs)), (1, IsS s v)] (.t [.g [ai (s.pounds), ai (s.tl), ai (s.th), ai (s.al), ai (s.ah), ai (s.room), ai (s.tpl), ai (s.tph), ai (s.apl), ai (s.aph), .q 0], .a (ai (opV v))]) [(0, PL EPig (s.pigs))] := by
  have hch : errM s.chk = 0 := by simp [hf, errM]
  refine Sig.intro Try.func115 rfl 2 [(0, .e (.g [ai (s.pounds), ai (s.tl), ai (s.th), ai (s.al), ai (s.ah), ai (s.room), ai (s.tpl), ai (s.tph), ai (s.apl), ai (s.aph), .q 0])), (1, .e (.a (.q 1)))] rfl w115C rfl rfl fun I w => ?_
  refine WP.seq ?_
  refine WP.region ?_
  refine WPl.l 2 3 rfl rfl rfl (o_boxg rfl) ?_
  refine WPl.l 3 4 rfl rfl rfl (o_alloc Z139) ?_
  refine WPl.v rfl (o_assign rfl) ?_
  refine WPl.nil ?_
  refine EX.then ?_
  refine WP.seq ?_
  refine WP.region ?_
  refine WPl.v rfl (o_ldpa G28 rfl rfl rfl) ?_
  refine WPl.v rfl (o_build B139 rfl trivial rfl rfl) ?_
  refine WPl.l 4 5 rfl rfl rfl (o_alloc Z139) ?_
  refine WPl.s1 (o_stag G139 rfl rfl rfl ⟨rfl, rfl, rfl, rfl, rfl, rfl, rfl, rfl, rfl, rfl, (.inl ⟨_, (lx rfl), PL.one⟩), trivial⟩ rfl rfl) ?_
  refine WPl.nil ?_
  refine EX.then ?_
  refine WP.seq ?_
  refine WP.seq ?_
  refine WP.region ?_
  refine WPl.v rfl (o_ldpa G28 rfl rfl rfl) ?_
  refine WPl.cs 5 rfl rfl rfl rfl (o_sig 5 (ren [(0, 0)]) (c84 s (by have := (Shop.pigsOK hf).2; omega)) e84 rfl rfl rfl w84 ⟨(lx rfl), trivial⟩ r84) ?_
  refine WPl.v rfl (o_assign rfl) ?_
  refine WPl.nil ?_
  refine EX.then ?_
  refine WP.seq ?_
  refine WP.region ?_
  refine WPl.v rfl (o_move rfl) ?_
  refine WPl.v rfl (o_neq rfl rfl) ?_
  refine WPl.nil ?_
  refine EX.then ?_
  refine WP.cond rfl (fun hc1 => ?_) (fun hc1 => ?_)
  · try simp only [decide_eq_true_eq, decide_eq_false_iff_not, Bool.and_eq_true, Bool.or_eq_true, Bool.and_eq_false_iff, Bool.or_eq_false_iff, Bool.not_eq_true', Bool.not_eq_false', ne_eq, Decidable.not_not] at hc1
    simp [hch] at hc1
  · try simp only [decide_eq_true_eq, decide_eq_false_iff_not, Bool.and_eq_true, Bool.or_eq_true, Bool.and_eq_false_iff, Bool.or_eq_false_iff, Bool.not_eq_true', Bool.not_eq_false', ne_eq, Decidable.not_not] at hc1
    refine WP.skip ?_
    refine EX.then ?_
    refine WP.seq ?_
    refine WP.seq ?_
    refine WP.region ?_
    refine WPl.v rfl (o_move rfl) ?_
    refine WPl.v rfl (o_nefn Try.underlying143 rfl ((lx rfl).of FvP.fn)) ?_
    refine WPl.v rfl (o_move rfl) ?_
    refine WPl.on rfl ⟨_, _, rfl, rfl, rfl⟩ (o_move rfl) ?_
    refine WPl.on rfl ⟨_, _, rfl, rfl, rfl⟩ (o_ldpa G139 rfl rfl rfl) ?_
    refine WPl.cL 6 rfl rfl rfl rfl ⟨_, _, rfl, rfl, rfl⟩ (o_callfv (svs := [.e (.g [ai (s.pounds), ai (s.tl), ai (s.th), ai (s.al), ai (s.ah), ai (s.room), ai (s.tpl), ai (s.tph), ai (s.apl), ai (s.aph), .q 0])]) 5 (ren [(0, 0)]) rfl (lx rfl) rfl rfl SvsOK.rf (by simp [SV.res, El.res, At.res, keys]) ⟨(lx rfl), trivial⟩ (by simp [SV.res, El.res, At.res, keys])) ?_
    refine WPl.on rfl ⟨_, _, rfl, rfl, rfl⟩ (o_not rfl) ?_
    refine WPl.v rfl (o_pickT rfl rfl) ?_
    refine WPl.nil ?_
    refine EX.then ?_
    refine WP.cond rfl (fun hc2 => ?_) (fun hc2 => ?_)
    · try simp only [decide_eq_true_eq, decide_eq_false_iff_not, Bool.and_eq_true, Bool.or_eq_true, Bool.and_eq_false_iff, Bool.or_eq_false_iff, Bool.not_eq_true', Bool.not_eq_false', ne_eq, Decidable.not_not] at hc2
      refine WP.seq ?_
      refine WP.region ?_
      refine WPl.v rfl (o_ldpa G139 rfl rfl rfl) ?_
      refine WPl.s1 (o_stag G139 rfl rfl rfl ⟨rfl, rfl, rfl, rfl, rfl, rfl, rfl, rfl, rfl, rfl, (.inl ⟨_, (lx rfl), PL.one⟩), trivial⟩ rfl rfl) ?_
      refine WPl.v rfl (o_assign rfl) ?_
      refine WPl.nil ?_
      refine EX.then ?_
      refine WP.ret ?_
      refine EX.ret_then ?_
      rw [show opV v = 1 from by rw [show v = false from hc2]; rfl]
      exact EX.fin (ren [(0, 0)]) (.inl rfl) rfl (.cellg G139 rfl rfl rfl (.tmp rfl .nil)) rfl (by simp [SV.res, El.res, At.res, keys]) ⟨(lx rfl), trivial⟩ (by simp) (by simp)
    · try simp only [decide_eq_true_eq, decide_eq_false_iff_not, Bool.and_eq_true, Bool.or_eq_true, Bool.and_eq_false_iff, Bool.or_eq_false_iff, Bool.not_eq_true', Bool.not_eq_false', ne_eq, Decidable.not_not] at hc2
      refine WP.skip ?_
      refine EX.then ?_
      refine WP.seq ?_
      refine WP.region ?_
      refine WPl.v rfl (o_ldpa G139 rfl rfl rfl) ?_
      refine WPl.s1 (o_stag G139 rfl rfl rfl ⟨rfl, rfl, rfl, rfl, rfl, rfl, rfl, rfl, rfl, rfl, (.inl ⟨_, (lx rfl), PL.one⟩), trivial⟩ rfl rfl) ?_
      refine WPl.v rfl (o_assign rfl) ?_
      refine WPl.nil ?_
      refine EX.then ?_
      refine WP.ret ?_
      rw [show opV v = 0 from by rw [show v = true from hc2]; rfl]
      exact EX.fin (ren [(0, 0)]) (.inl rfl) rfl (.cellg G139 rfl rfl rfl (.tmp rfl .nil)) rfl (by simp [SV.res, El.res, At.res, keys]) ⟨(lx rfl), trivial⟩ (by simp) (by simp)
theorem w116 {s : Shop} {add : List Int} : ∀ x ∈ ([.e (.g [ai (s.pounds), ai (s.tl), ai (s.th), ai (s.al), ai (s.ah), ai (s.room), ai (s.tpl), ai (s.tph), ai (s.apl), ai (s.aph), .q 0]), .e (.a (.q 1))] : List SV), x.res (keys (α := Pred) [(0, PL EPig (s.pigs)), (1, PP (EP.box (PL EP.int (add))) ())]) := by simp [SV.res, El.res, At.res, keys]
theorem r116 {s : Shop} {add : List Int} : SV.res (keys (α := Pred) []) (.b (isAdd s add)) := by simp [SV.res, El.res, At.res, keys]
set_option maxHeartbeats 4000000 in
theorem c116 (s : Shop) (add : List Int) (hs : s.chk = true) : Sig Try.prog 116 [.e (.g [ai (s.pounds), ai (s.tl), ai (s.th), ai (s.al), ai (s.ah), ai (s.room), ai (s.tpl), ai (s.tph), ai (s.apl), ai (s.aph), .q 0]), .e (.a (.q 1))] [(0, PL EPig (s.pigs)), (1, PP (EP.box (PL EP.int (add))) ())] (.b (isAdd s add)) [] := by
  refine Sig.intro Try.func116 rfl 2 [(0, .e (.g [ai (s.pounds), ai (s.tl), ai (s.th), ai (s.al), ai (s.ah), ai (s.room), ai (s.tpl), ai (s.tph), ai (s.apl), ai (s.aph), .q 0])), (1, .e (.a (.q 1)))] rfl w116 rfl rfl fun I w => ?_
  refine WP.seq ?_
  refine WP.region ?_
  refine WPl.l 2 3 rfl rfl rfl (o_boxg rfl) ?_
  refine WPl.v rfl (o_assign rfl) ?_
  refine WPl.nil ?_
  refine EX.then ?_
  refine WP.seq ?_
  refine WP.region ?_
  refine WPl.v rfl (o_ldpa G139 rfl rfl rfl) ?_
  refine WPl.x 3 4 rfl rfl rfl (o_ldqx S44 rfl (lx rfl) boxx) ?_
  refine WPl.cs 4 rfl rfl rfl rfl (o_sig 4 (ren [(0, 0), (1, 3)]) (c117 s add hs) e117 rfl rfl rfl w117 ⟨(lx rfl), (lx rfl), trivial⟩ r117) ?_
  refine WPl.v rfl (o_assign rfl) ?_
  refine WPl.nil ?_
  refine EX.then ?_
  refine WP.ret ?_
  exact EX.fin id (.inl rfl) rfl (.tmp rfl .nil) rfl r116 trivial (by simp) (by simp)
theorem w114 {s : Shop} {z : AdL s} : ∀ x ∈ ([.e (.g [ai (s.pounds), ai (s.tl), ai (s.th), ai (s.al), ai (s.ah), ai (s.room), ai (s.tpl), ai (s.tph), ai (s.apl), ai (s.aph), .q 0]), .e (.a (.q 1))] : List SV), x.res (keys (α := Pred) [(0, PL EPig (s.pigs)), (1, PL EP.int (z.1))]) := by simp [SV.res, El.res, At.res, keys]
theorem r114 {s : Shop} {z : AdL s} : SV.res (keys (α := Pred) [(0, PL EP.int (priceG s z.1))]) (.e (.a (.q 0))) := by simp [SV.res, El.res, At.res, keys]
set_option maxHeartbeats 4000000 in
theorem c114 (s : Shop) (z : AdL s) (hs : s.chk = true) : Sig Try.prog 114 [.e (.g [ai (s.pounds), ai (s.tl), ai (s.th), ai (s.al), ai (s.ah), ai (s.room), ai (s.tpl), ai (s.tph), ai (s.apl), ai (s.aph), .q 0]), .e (.a (.q 1))] [(0, PL EPig (s.pigs)), (1, PL EP.int (z.1))] (.e (.a (.q 0))) [(0, PL EP.int (priceG s z.1))] := by
  have hpg := Shop.pigsOK hs
  have hx := z.2
  refine Sig.intro Try.func114 rfl 2 [(0, .e (.g [ai (s.pounds), ai (s.tl), ai (s.th), ai (s.al), ai (s.ah), ai (s.room), ai (s.tpl), ai (s.tph), ai (s.apl), ai (s.aph), .q 0])), (1, .e (.a (.q 1)))] rfl w114 rfl rfl fun I w => ?_
  refine WP.seq ?_
  refine WP.region ?_
  refine WPl.l 2 3 rfl rfl rfl (o_boxg rfl) ?_
  refine WPl.v rfl (o_assign rfl) ?_
  refine WPl.nil ?_
  refine EX.then ?_
  refine WP.seq ?_
  refine WP.imp (Imp.nam 3 4 (.func (.func 152) #[] #[]) (R := (PigQ Pig.pence).and (Pred.is (.func (.func 152) #[] #[]))) (fun I => FvP.namea (fun (x : Pig) => (c152 x)) e152 (fun _ => (by simp [SV.res, El.res, At.res, keys])) I) rfl rfl) ?_
  refine WP.imp (Imp.nam 4 5 (.func (.func 153) #[] #[]) (R := (PigQ Pig.pounds).and (Pred.is (.func (.func 153) #[] #[]))) (fun I => FvP.namea (fun (x : Pig) => (c153 x)) e153 (fun _ => (by simp [SV.res, El.res, At.res, keys])) I) rfl rfl) ?_
  refine WP.draw (nf := 6) [⟨[6, 8, 9], [], [], [], []⟩, ⟨[5, 8, 9], [], [], [], []⟩, ⟨[8, 9], [], [], [], [0, 1]⟩, ⟨[5, 6, 7, 9], [], [], [], []⟩, ⟨[5, 6, 7, 8], [], [], [], []⟩, ⟨[], [], [], [], [0, 1, 2, 3, 4]⟩, ⟨[], [], [5], [5], [0, 1, 2, 3, 4, 5]⟩, ⟨[], [], [], [], [0, 1, 2, 3, 4, 5, 6]⟩] (by kernel_rfl) (by kernel_rfl) ?_
  refine DRQ.v rfl rfl rfl (o_ldpa G139 rfl rfl rfl) ?_
  refine DRQ.v rfl rfl rfl (o_move rfl) ?_
  refine DRQ.cs rfl rfl rfl rfl (o_sigc 5 (ren [(0, 0), (1, 1), (2, 3)]) (c151 s z.1 Pig.pence hpg hx.2 (by omega) (fun p h => by have := Pig.bnds h; (show 0 ≤ p.pence ∧ p.pence ≤ 99); omega)) e151 rfl rfl ⟨.inl rfl, .inl rfl, .inr ⟨_, _, rfl, fun _ => rfl, (lxr rfl)⟩, trivial⟩ w151 ⟨(lx rfl), (lx rfl), (lxl rfl), trivial⟩ r151) ?_
  refine DRQ.v rfl rfl rfl (o_ldpa G139 rfl rfl rfl) ?_
  refine DRQ.v rfl rfl rfl (o_move rfl) ?_
  refine DRQ.cs rfl rfl rfl rfl (o_sigc 5 (ren [(0, 0), (1, 1), (2, 4)]) (c151 s z.1 Pig.pounds hpg hx.2 (by omega) (fun p h => by have := Pig.bnds h; (show 0 ≤ p.pounds ∧ p.pounds ≤ 99); omega)) e151 rfl rfl ⟨.inl rfl, .inl rfl, .inr ⟨_, _, rfl, fun _ => rfl, (lxr rfl)⟩, trivial⟩ w151 ⟨(lx rfl), (lx rfl), (lxl rfl), trivial⟩ r151) ?_
  refine DRQ.l 5 rfl rfl rfl rfl (o_bsl (E := EP.int) (l := [sumOf Pig.pence s.pigs z.1, sumOf Pig.pounds s.pigs z.1]) R44 rfl rfl (.cons (rfl) rfl (eok_int) (.cons (rfl) rfl (eok_int) (.nil))) rfl rfl) ?_
  refine DRQ.v rfl rfl rfl (o_assign rfl) ?_
  refine DRQ.nil' ?_
  refine EX.then ?_
  refine WP.ret ?_
  refine EX.imp (Imp.frz (E := EP.int) (l := [sumOf Pig.pence s.pigs z.1, sumOf Pig.pounds s.pigs z.1]) 5 rfl rfl) ?_
  exact EX.fin (ren [(0, 5)]) (.inl rfl) rfl (.tmp rfl .nil) rfl r114 ⟨(lx rfl), trivial⟩ (by simp) (by simp)
theorem w166 {n : Int} : ∀ x ∈ ([.i (n)] : List SV), x.res (keys (α := Pred) []) := by simp [SV.res, El.res, At.res, keys]
theorem r166  : SV.res (keys (α := Pred) []) (.b (false)) := by simp [SV.res, El.res, At.res, keys]
set_option maxHeartbeats 4000000 in
theorem c166 (n : Int)  : Sig Try.prog 166 [.i (n)] [] (.b (false)) [] := by
  refine Sig.intro Try.func166 rfl 0 [(0, .i (n))] rfl w166 rfl rfl fun I w => ?_
  refine WP.seq ?_
  refine WP.region ?_
  refine WPl.v rfl (o_assign rfl) ?_
  refine WPl.nil ?_
  refine EX.then ?_
  refine WP.seq ?_
  refine WP.region ?_
  refine WPl.v rfl (o_move rfl) ?_
  refine WPl.v rfl (o_move rfl) ?_
  refine WPl.v rfl (o_neq rfl rfl) ?_
  refine WPl.v rfl (o_assign rfl) ?_
  refine WPl.nil ?_
  refine EX.then ?_
  refine WP.ret ?_
  rw [show decide (n ≠ n) = false from by simp]
  exact EX.fin id (.inl rfl) rfl (.tmp rfl .nil) rfl (by simp [SV.res, El.res, At.res, keys]) trivial (by simp) (by simp)
theorem w165 {a b : Int} : ∀ x ∈ ([.i (a), .i (b)] : List SV), x.res (keys (α := Pred) []) := by simp [SV.res, El.res, At.res, keys]
theorem r165 {a b : Int} : SV.res (keys (α := Pred) []) (.i (cmpI a b)) := by simp [SV.res, El.res, At.res, keys]
set_option maxHeartbeats 4000000 in
theorem c165 (a b : Int)  : Sig Try.prog 165 [.i (a), .i (b)] [] (.i (cmpI a b)) [] := by
  refine Sig.intro Try.func165 rfl 0 [(0, .i (a)), (1, .i (b))] rfl w165 rfl rfl fun I w => ?_
  refine WP.seq ?_
  refine WP.region ?_
  refine WPl.v rfl (o_assign rfl) ?_
  refine WPl.nil ?_
  refine EX.then ?_
  refine WP.seq ?_
  refine WP.region ?_
  refine WPl.v rfl (o_move rfl) ?_
  refine WPl.cs 0 rfl rfl rfl rfl (o_sig 0 id (c166 a) e166 rfl rfl rfl w166 trivial r166) ?_
  refine WPl.v rfl (o_assign rfl) ?_
  refine WPl.nil ?_
  refine EX.then ?_
  refine WP.seq ?_
  refine WP.region ?_
  refine WPl.v rfl (o_move rfl) ?_
  refine WPl.cs 0 rfl rfl rfl rfl (o_sig 0 id (c166 b) e166 rfl rfl rfl w166 trivial r166) ?_
  refine WPl.v rfl (o_assign rfl) ?_
  refine WPl.nil ?_
  refine EX.then ?_
  refine WP.seq ?_
  refine WP.seq ?_
  refine WP.region ?_
  refine WPl.v rfl (o_move rfl) ?_
  refine WPl.nil ?_
  refine EX.then ?_
  refine WP.cond rfl (fun h => by cases h) (fun _ => ?_)
  refine WP.skip ?_
  refine EX.then ?_
  refine WP.seq ?_
  refine WP.seq ?_
  refine WP.region ?_
  refine WPl.v rfl (o_move rfl) ?_
  refine WPl.nil ?_
  refine EX.then ?_
  refine WP.cond rfl (fun h => by cases h) (fun _ => ?_)
  refine WP.skip ?_
  refine EX.then ?_
  refine WP.seq ?_
  refine WP.seq ?_
  refine WP.region ?_
  refine WPl.v rfl (o_move rfl) ?_
  refine WPl.v rfl (o_move rfl) ?_
  refine WPl.v rfl (o_lss rfl rfl) ?_
  refine WPl.nil ?_
  refine EX.then ?_
  refine WP.cond rfl (fun hc3 => ?_) (fun hc3 => ?_)
  · try simp only [decide_eq_true_eq, decide_eq_false_iff_not, Bool.and_eq_true, Bool.or_eq_true, Bool.and_eq_false_iff, Bool.or_eq_false_iff, Bool.not_eq_true', Bool.not_eq_false', ne_eq, Decidable.not_not] at hc3
    refine WP.seq ?_
    refine WP.region ?_
    refine WPl.v rfl (o_assign rfl) ?_
    refine WPl.nil ?_
    refine EX.then ?_
    refine WP.ret ?_
    refine EX.ret_then ?_
    rw [show cmpI a b = -1 from if_pos hc3]
    exact EX.fin id (.inl rfl) rfl (.tmp rfl .nil) rfl (by simp [SV.res, El.res, At.res, keys]) trivial (by simp) (by simp)
  · try simp only [decide_eq_true_eq, decide_eq_false_iff_not, Bool.and_eq_true, Bool.or_eq_true, Bool.and_eq_false_iff, Bool.or_eq_false_iff, Bool.not_eq_true', Bool.not_eq_false', ne_eq, Decidable.not_not] at hc3
    refine WP.skip ?_
    refine EX.then ?_
    refine WP.seq ?_
    refine WP.seq ?_
    refine WP.region ?_
    refine WPl.v rfl (o_move rfl) ?_
    refine WPl.v rfl (o_move rfl) ?_
    refine WPl.v rfl (o_gtr rfl rfl) ?_
    refine WPl.nil ?_
    refine EX.then ?_
    refine WP.cond rfl (fun hc4 => ?_) (fun hc4 => ?_)
    · try simp only [decide_eq_true_eq, decide_eq_false_iff_not, Bool.and_eq_true, Bool.or_eq_true, Bool.and_eq_false_iff, Bool.or_eq_false_iff, Bool.not_eq_true', Bool.not_eq_false', ne_eq, Decidable.not_not] at hc4
      refine WP.seq ?_
      refine WP.region ?_
      refine WPl.v rfl (o_assign rfl) ?_
      refine WPl.nil ?_
      refine EX.then ?_
      refine WP.ret ?_
      refine EX.ret_then ?_
      rw [show cmpI a b = 1 from by unfold cmpI; rw [if_neg hc3, if_pos hc4]]
      exact EX.fin id (.inl rfl) rfl (.tmp rfl .nil) rfl (by simp [SV.res, El.res, At.res, keys]) trivial (by simp) (by simp)
    · try simp only [decide_eq_true_eq, decide_eq_false_iff_not, Bool.and_eq_true, Bool.or_eq_true, Bool.and_eq_false_iff, Bool.or_eq_false_iff, Bool.not_eq_true', Bool.not_eq_false', ne_eq, Decidable.not_not] at hc4
      refine WP.skip ?_
      refine EX.then ?_
      refine WP.seq ?_
      refine WP.region ?_
      refine WPl.v rfl (o_assign rfl) ?_
      refine WPl.nil ?_
      refine EX.then ?_
      refine WP.ret ?_
      rw [show cmpI a b = 0 from by unfold cmpI; rw [if_neg hc3, if_neg hc4]]
      exact EX.fin id (.inl rfl) rfl (.tmp rfl .nil) rfl (by simp [SV.res, El.res, At.res, keys]) trivial (by simp) (by simp)
theorem w150 {a b : List Int} : ∀ x ∈ ([.e (.a (.q 0)), .e (.a (.q 1))] : List SV), x.res (keys (α := Pred) [(0, PL EP.int (a)), (1, PL EP.int (b))]) := by simp [SV.res, El.res, At.res, keys]
theorem r150 {a b : List Int} : SV.res (keys (α := Pred) []) (.i (cmpL a b)) := by simp [SV.res, El.res, At.res, keys]
set_option maxHeartbeats 4000000 in
theorem c150 (a b : List Int) (ha : a.length ≤ 1000) (hb : b.length ≤ 1000) : Sig Try.prog 150 [.e (.a (.q 0)), .e (.a (.q 1))] [(0, PL EP.int (a)), (1, PL EP.int (b))] (.i (cmpL a b)) [] := by
  refine Sig.intro Try.func150 rfl 2 [(0, .e (.a (.q 0))), (1, .e (.a (.q 1)))] rfl w150 rfl rfl fun I w => ?_
  refine WP.seq ?_
  refine WP.region ?_
  refine WPl.v rfl (o_assign rfl) ?_
  refine WPl.nil ?_
  refine EX.then ?_
  refine WP.seq ?_
  refine WP.seq ?_
  refine WP.region ?_
  refine WPl.v rfl (o_move rfl) ?_
  refine WPl.v rfl (o_lenq L44 rfl (lx rfl)) ?_
  refine WPl.v rfl (o_move rfl) ?_
  refine WPl.nil ?_
  refine EX.then ?_
  refine WP.block ?_
  refine WP.loop (Gh := Nat) (fun i => ⟨2, [(0, .e (.a (.q 0))), (1, .e (.a (.q 1))), (4, .i (0)), (9, .e (.a (.q 0))), (10, .i ((a.length : Int))), (11, .i ((i : Int)))], [(0, PL EP.int (a)), (1, PL EP.int (b))], [], [], []⟩) (fun i => i ≤ a.length ∧ i ≤ b.length ∧ allI (sameAt a b) i = true) (fun i => a.length - i) (0) id ?_ (LeR.of ⟨rfl, rfl, rfl, rfl, rfl, rfl, trivial⟩ ⟨(lx rfl), (lx rfl), trivial⟩ trivial rfl rfl rfl rfl rfl) ?_
  · exact ⟨by omega, ⟨by omega, rfl⟩⟩
  intro i hφ
  have hi : i ≤ a.length := hφ.1
  obtain ⟨_, hb1, hall⟩ := hφ
  refine WP.seq ?_
  refine WP.region ?_
  refine WPl.v rfl (o_lss rfl rfl) ?_
  refine WPl.nil ?_
  refine EX.then ?_
  refine WP.seq ?_
  refine WP.cond rfl (fun hc1 => ?_) (fun hc1 => ?_)
  · try simp only [decide_eq_true_eq, decide_eq_false_iff_not, Bool.and_eq_true, Bool.or_eq_true, Bool.and_eq_false_iff, Bool.or_eq_false_iff, Bool.not_eq_true', Bool.not_eq_false', ne_eq, Decidable.not_not] at hc1
    refine WP.skip ?_
    refine EX.then ?_
    refine WP.seq ?_
    refine WP.block ?_
    refine WP.seq ?_
    refine WP.region ?_
    refine WPl.v rfl (o_move rfl) ?_
    refine WPl.x 2 3 rfl rfl rfl (o_idx L44 rfl (lx rfl) rfl (by first | omega | (simp; omega)) (by first | omega | (simp; omega))) ?_
    refine WPl.v rfl (o_ldq S3 rfl (lx rfl) intc) ?_
    refine WPl.v rfl (o_assign rfl) ?_
    refine WPl.v rfl (o_assign rfl) ?_
    refine WPl.nil ?_
    refine EX.then ?_
    refine WP.seq ?_
    refine WP.seq ?_
    refine WP.region ?_
    refine WPl.v rfl (o_move rfl) ?_
    refine WPl.v rfl (o_move rfl) ?_
    refine WPl.v rfl (o_lenq L44 rfl (lx rfl)) ?_
    refine WPl.v rfl (o_geq rfl rfl) ?_
    refine WPl.nil ?_
    refine EX.then ?_
    refine WP.cond rfl (fun hc2 => ?_) (fun hc2 => ?_)
    · try simp only [decide_eq_true_eq, decide_eq_false_iff_not, Bool.and_eq_true, Bool.or_eq_true, Bool.and_eq_false_iff, Bool.or_eq_false_iff, Bool.not_eq_true', Bool.not_eq_false', ne_eq, Decidable.not_not] at hc2
      refine WP.seq ?_
      refine WP.region ?_
      refine WPl.v rfl (o_assign rfl) ?_
      refine WPl.nil ?_
      refine EX.then ?_
      refine WP.ret ?_
      refine EX.ret_then ?_
      refine EX.ret_blk ?_
      refine EX.ret_then ?_
      refine EX.ret_then ?_
      refine EX.ret_blk ?_
      refine EX.ret_then ?_
      rw [show cmpL a b = 1 from cmpL_long hall (by omega) (by omega)]
      exact EX.fin id (.inl rfl) rfl (.tmp rfl .nil) rfl (by simp [SV.res, El.res, At.res, keys]) trivial (by simp) (by simp)
    · try simp only [decide_eq_true_eq, decide_eq_false_iff_not, Bool.and_eq_true, Bool.or_eq_true, Bool.and_eq_false_iff, Bool.or_eq_false_iff, Bool.not_eq_true', Bool.not_eq_false', ne_eq, Decidable.not_not] at hc2
      refine WP.skip ?_
      refine EX.then ?_
      refine WP.seq ?_
      refine WP.region ?_
      refine WPl.v rfl (o_move rfl) ?_
      refine WPl.v rfl (o_move rfl) ?_
      refine WPl.x 3 4 rfl rfl rfl (o_idx L44 rfl (lx rfl) rfl (by first | omega | (simp; omega)) (by first | omega | (simp; omega))) ?_
      refine WPl.v rfl (o_ldq S3 rfl (lx rfl) intc) ?_
      refine WPl.v rfl (o_assign rfl) ?_
      refine WPl.nil ?_
      refine EX.then ?_
      refine WP.seq ?_
      refine WP.region ?_
      refine WPl.v rfl (o_move rfl) ?_
      refine WPl.v rfl (o_move rfl) ?_
      refine WPl.cs 4 rfl rfl rfl rfl (o_sig 4 id (c165 (nth a (i : Int)) (nth b (i : Int))) e165 rfl rfl rfl w165 trivial r165) ?_
      refine WPl.v rfl (o_assign rfl) ?_
      refine WPl.nil ?_
      refine EX.then ?_
      refine WP.seq ?_
      refine WP.region ?_
      refine WPl.v rfl (o_move rfl) ?_
      refine WPl.v rfl (o_neq rfl rfl) ?_
      refine WPl.nil ?_
      refine EX.then ?_
      refine WP.cond rfl (fun hc3 => ?_) (fun hc3 => ?_)
      · try simp only [decide_eq_true_eq, decide_eq_false_iff_not, Bool.and_eq_true, Bool.or_eq_true, Bool.and_eq_false_iff, Bool.or_eq_false_iff, Bool.not_eq_true', Bool.not_eq_false', ne_eq, Decidable.not_not] at hc3
        refine WP.seq ?_
        refine WP.region ?_
        refine WPl.v rfl (o_move rfl) ?_
        refine WPl.v rfl (o_assign rfl) ?_
        refine WPl.nil ?_
        refine EX.then ?_
        refine WP.ret ?_
        refine EX.ret_blk ?_
        refine EX.ret_then ?_
        refine EX.ret_then ?_
        refine EX.ret_blk ?_
        refine EX.ret_then ?_
        rw [show cmpL a b = cmpI (nth a (i : Int)) (nth b (i : Int)) from cmpL_at hall (by omega) (by omega) hc3]
        exact EX.fin id (.inl rfl) rfl (.tmp rfl .nil) rfl (by simp [SV.res, El.res, At.res, keys]) trivial (by simp) (by simp)
      · try simp only [decide_eq_true_eq, decide_eq_false_iff_not, Bool.and_eq_true, Bool.or_eq_true, Bool.and_eq_false_iff, Bool.or_eq_false_iff, Bool.not_eq_true', Bool.not_eq_false', ne_eq, Decidable.not_not] at hc3
        refine WP.skip ?_
        refine EX.blk ?_
        refine EX.then ?_
        refine WP.region ?_
        refine WPl.v rfl (o_add rfl rfl (by first | omega | (simp; omega)) (by first | omega | (simp; omega))) ?_
        refine WPl.v rfl (o_move rfl) ?_
        refine WPl.nil ?_
        refine EX.again (i + 1) id (by exact ⟨by omega, ⟨by omega, by simp only [allI, hall, Bool.true_and, sameAt, decide_eq_true_eq]; exact cmpI_eq.1 hc3⟩⟩) (by omega) (LeR.of ⟨rfl, rfl, rfl, rfl, rfl, rfl, trivial⟩ ⟨(lx rfl), (lx rfl), trivial⟩ trivial rfl rfl rfl rfl rfl)
  · try simp only [decide_eq_true_eq, decide_eq_false_iff_not, Bool.and_eq_true, Bool.or_eq_true, Bool.and_eq_false_iff, Bool.or_eq_false_iff, Bool.not_eq_true', Bool.not_eq_false', ne_eq, Decidable.not_not] at hc1
    refine WP.exit ?_
    refine EX.exit_then ?_
    refine EX.exit_then ?_
    refine EX.exit_blk ?_
    refine EX.then ?_
    refine WP.seq ?_
    refine WP.seq ?_
    refine WP.region ?_
    refine WPl.v rfl (o_move rfl) ?_
    refine WPl.v rfl (o_lenq L44 rfl (lx rfl)) ?_
    refine WPl.v rfl (o_move rfl) ?_
    refine WPl.v rfl (o_lenq L44 rfl (lx rfl)) ?_
    refine WPl.v rfl (o_lss rfl rfl) ?_
    refine WPl.nil ?_
    refine EX.then ?_
    refine WP.cond rfl (fun hc4 => ?_) (fun hc4 => ?_)
    · try simp only [decide_eq_true_eq, decide_eq_false_iff_not, Bool.and_eq_true, Bool.or_eq_true, Bool.and_eq_false_iff, Bool.or_eq_false_iff, Bool.not_eq_true', Bool.not_eq_false', ne_eq, Decidable.not_not] at hc4
      refine WP.seq ?_
      refine WP.region ?_
      refine WPl.v rfl (o_assign rfl) ?_
      refine WPl.nil ?_
      refine EX.then ?_
      refine WP.ret ?_
      refine EX.ret_then ?_
      rw [show cmpL a b = -1 from cmpL_short hall (by omega) (by omega)]
      exact EX.fin id (.inl rfl) rfl (.tmp rfl .nil) rfl (by simp [SV.res, El.res, At.res, keys]) trivial (by simp) (by simp)
    · try simp only [decide_eq_true_eq, decide_eq_false_iff_not, Bool.and_eq_true, Bool.or_eq_true, Bool.and_eq_false_iff, Bool.or_eq_false_iff, Bool.not_eq_true', Bool.not_eq_false', ne_eq, Decidable.not_not] at hc4
      refine WP.skip ?_
      refine EX.then ?_
      refine WP.seq ?_
      refine WP.region ?_
      refine WPl.v rfl (o_assign rfl) ?_
      refine WPl.nil ?_
      refine EX.then ?_
      refine WP.ret ?_
      rw [show cmpL a b = 0 from cmpL_same hall (by omega) (by omega)]
      exact EX.fin id (.inl rfl) rfl (.tmp rfl .nil) rfl (by simp [SV.res, El.res, At.res, keys]) trivial (by simp) (by simp)
theorem w149 {s : Shop} : ∀ x ∈ ([.e (.g [ai (s.pounds), ai (s.tl), ai (s.th), ai (s.al), ai (s.ah), ai (s.room), ai (s.tpl), ai (s.tph), ai (s.apl), ai (s.aph), .q 0])] : List SV), x.res (keys (α := Pred) [(0, PL EPig (s.pigs))]) := by simp [SV.res, El.res, At.res, keys]
set_option maxHeartbeats 4000000 in
theorem c149 (s : Shop) (hs : s.chk = true) : SigJ Try.prog 149 [.e (.g [ai (s.pounds), ai (s.tl), ai (s.th), ai (s.al), ai (s.ah), ai (s.room), ai (s.tpl), ai (s.tph), ai (s.apl), ai (s.aph), .q 0])] [(0, PL EPig (s.pigs))] (s.adItems) := by
  have hpg := Shop.pigsOK hs
  have hp4 := hpg.2
  have h0b := adBox_pos hpg
  have hN0 : 0 < s.adBox.length := (List.getElem?_eq_some_iff.1 h0b).1
  refine SigJ.intro Try.func149 rfl 2 1 w149 rfl rfl rfl fun I w l Y K F0 hround => ?_
  have hF : ∀ c, F0 c → F0 c := fun _ h => h
  refine WP.seq ?_
  refine WP.region ?_
  refine WPl.l 2 3 rfl rfl rfl (o_boxg rfl) ?_
  refine WPl.nil ?_
  refine EX.then ?_
  refine WP.seq ?_
  refine WP.region ?_
  refine WPl.v rfl (o_fldp F139_0 rfl) ?_
  refine WPl.v rfl (o_fldp F28_4 rfl) ?_
  refine WPl.v rfl (o_ldp S26 rfl rfl rfl) ?_
  refine WPl.v rfl (o_lenq L26 rfl (lx rfl)) ?_
  refine WPl.u1 (k := 3) (m := 4) rfl rfl rfl (OpG.newer0 (o_make (z := 0) (E := EP.int) s.pigs.length R44 (fun _ => rfl) rfl rfl (by first | omega | (simp; omega)) (by first | omega | (simp; omega)))) ?_
  refine WPl.v rfl (o_assign rfl) ?_
  refine WPl.nil ?_
  refine EX.then ?_
  refine WP.block ?_
  refine WP.loop (Gh := Nat × (Nat → Prop)) (fun (⟨i, F⟩ : Nat × (Nat → Prop)) => ⟨4, [(1, .e (.a (.v (yv l)))), (2, .e (.a (.p 2 (0)))), (4, .e (.a (.q 3)))], [(0, PL EPig (s.pigs)), (3, Pred.newer _)], [(1, .ext ((Y (s.adIdx i)).xp F)), (2, .blk [ai (s.pounds), ai (s.tl), ai (s.th), ai (s.al), ai (s.ah), ai (s.room), ai (s.tpl), ai (s.tph), ai (s.apl), ai (s.aph), .q 0] 139), (3, .own 3 EP.int.size ((nth s.adBox (i : Int))).length (RP EP.int ((nth s.adBox (i : Int)))))], [], []⟩) (fun (⟨i, F⟩ : Nat × (Nat → Prop)) => i < s.adBox.length ∧ ∀ c, F0 c → F c) (fun (⟨i, F⟩ : Nat × (Nat → Prop)) => s.adBox.length - i) ((0, F0)) id ?_ (LeR.of ⟨rfl, rfl, rfl, trivial⟩ ⟨(lx rfl), (lx rfl), trivial⟩ ⟨(congrArg (fun z => some (Ent.ext ((Y z).xp F0))) (show 0 = s.adIdx 0 from rfl)), rfl, (congrArg (fun z => some (Ent.own 3 EP.int.size (List.length z) (RP EP.int z))) (show (List.replicate s.pigs.length 0) = ((fun (⟨i, F⟩ : Nat × (Nat → Prop)) => (nth s.adBox (i : Int))) (0, F0)) from by dsimp only; rw [nthN hN0]; exact (List.getElem?_eq_some_iff.1 h0b).2.symm)), trivial⟩ rfl rfl rfl rfl rfl) ?_
  · exact ⟨hN0, fun _ h => h⟩
  rintro ⟨i, F⟩ hφ
  obtain ⟨hiN, hF⟩ : i < s.adBox.length ∧ ∀ c, F0 c → F c := hφ
  obtain ⟨hrl, hrb, hrm⟩ := adBox_row hpg hiN
  refine WP.block ?_
  refine WP.seq ?_
  refine WP.seq ?_
  refine WP.region ?_
  refine WPl.v rfl (o_ldpa G139 rfl rfl rfl) ?_
  refine WPl.v rfl (o_move rfl) ?_
  refine WPl.cs 4 rfl rfl rfl rfl (o_sigbc 4 (ren [(0, 0), (1, 3)]) (Sig.free (c117 s (nth s.adBox (i : Int)) hs)) e117 rfl rfl SvsOK.rf w117 ⟨.x (lx rfl), .own rfl rfl, trivial⟩ r117) ?_
  refine WPl.v rfl (o_move rfl) ?_
  rcases Bool.eq_false_or_eq_true (isAdd s (nth s.adBox (i : Int))) with hs14 | hs14
  · refine WPl.imp (Imp.bitF 14 (b' := true) rfl hs14) ?_
    refine WPl.on rfl ⟨_, _, rfl, rfl, rfl⟩ (o_move rfl) ?_
    refine WPl.on rfl ⟨_, _, rfl, rfl, rfl⟩ (o_move rfl) ?_
    refine WPl.cL 5 rfl rfl rfl rfl ⟨_, _, rfl, rfl, rfl⟩ (o_sigbc 4 (ren [(0, 3)]) (c142 (nth s.adBox (i : Int)) (by omega)) e142 rfl rfl SvsOK.rf w142 ⟨.own rfl rfl, trivial⟩ r142) ?_
    refine WPl.yield (Y' := Y (s.adIdx i + 1)) (K' := K) 1 rfl rfl ⟨_, _, rfl, rfl, rfl⟩ rfl rfl rfl (yieldH (ky := 1) (J := [0]) (it := ⟨[.e (.a (.q 0))], [(0, PL EP.int ((nth s.adBox (i : Int))))], []⟩) (ren [(0, 4)]) (hround (s.adIdx i) _ (adIdx_at hiN hs14)) rfl (hF) SvsOK.rf (by simp [SV.res, El.res, At.res, keys]) ⟨(lx rfl), trivial⟩ trivial) fun by18 F1 hF1 => ?_
    have hF : ∀ c, F0 c → F1 c := fun c hc => hF1 c (hF c hc)
    cases by18
    · skip
      refine WPl.on rfl ⟨_, _, rfl, rfl, rfl⟩ (o_not rfl) ?_
      refine WPl.v rfl (o_pickT rfl rfl) ?_
      refine WPl.nil ?_
      refine EX.then ?_
      refine WP.cond rfl (fun _ => ?_) (fun h => by cases h)
      refine WP.ret ?_
      refine EX.ret_then ?_
      refine EX.ret_blk ?_
      refine EX.ret_then ?_
      refine EX.ret_blk ?_
      exact EX.finI (.inl rfl) rfl rfl (ky := 1) (Y := K) rfl (fun _ _ h => .inr h)
    · skip
      refine WPl.on rfl ⟨_, _, rfl, rfl, rfl⟩ (o_not rfl) ?_
      refine WPl.v rfl (o_pickT rfl rfl) ?_
      refine WPl.nil ?_
      refine EX.then ?_
      refine WP.cond rfl (fun h => by cases h) (fun _ => ?_)
      refine WP.skip ?_
      refine EX.then ?_
      refine WP.seq ?_
      refine WP.region ?_
      refine WPl.v rfl (o_move rfl) ?_
      refine WPl.v rfl (o_leno L44 rfl rfl) ?_
      refine WPl.v rfl (o_sub rfl rfl (by first | omega | (simp; omega)) (by first | omega | (simp; omega))) ?_
      refine WPl.v rfl (o_assign rfl) ?_
      refine WPl.nil ?_
      refine EX.then ?_
      refine WP.seq ?_
      refine WP.block ?_
      refine WP.loop (Gh := Nat) (fun j => ⟨5, [(1, .e (.a (.v (yv l)))), (2, .e (.a (.p 2 (0)))), (4, .e (.a (.q 3))), (11, .e (.g [ai (s.pounds), ai (s.tl), ai (s.th), ai (s.al), ai (s.ah), ai (s.room), ai (s.tpl), ai (s.tph), ai (s.apl), ai (s.aph), .q 0])), (12, .e (.a (.q 3))), (13, .b (isAdd s (nth s.adBox (i : Int)))), (14, .b (true)), (15, .e (.a (.v (yv l)))), (16, .e (.a (.q 3))), (17, .e (.a (.q 4))), (18, .b (true)), (19, .b (false)), (20, .b (false)), (21, .e (.a (.q 3))), (22, .i (((nth s.adBox (i : Int)).length : Int))), (23, .i (((nth s.adBox (i : Int)).length : Int) - 1)), (5, .i ((s.pigs.length : Int) - 1 - (j : Int)))], [(0, PL EPig (s.pigs)), (3, Pred.newer _), (4, PL EP.int ((nth s.adBox (i : Int))))], [(1, .ext ((Y (s.adIdx i + 1)).xp F1)), (2, .blk [ai (s.pounds), ai (s.tl), ai (s.th), ai (s.al), ai (s.ah), ai (s.room), ai (s.tpl), ai (s.tph), ai (s.apl), ai (s.aph), .q 0] 139), (3, .own 3 EP.int.size (zr (nth s.adBox (i : Int)) j).length (RP EP.int (zr (nth s.adBox (i : Int)) j)))], [], []⟩) (fun j => j ≤ s.pigs.length ∧ ∀ a : Nat, s.pigs.length - j ≤ a → a < s.pigs.length → nth (nth s.adBox (i : Int)) a = (nth s.pigs a).many) (fun j => s.pigs.length - j) (0) id ?_ (LeR.of ⟨rfl, rfl, rfl, rfl, rfl, rfl, rfl, rfl, rfl, rfl, rfl, rfl, rfl, rfl, rfl, rfl, (congrArg (fun z => some (SV.i z)) (show (((nth s.adBox (i : Int)).length : Int) - 1) = ((fun j => (s.pigs.length : Int) - 1 - (j : Int)) 0) from by rw [hrl]; simp)), trivial⟩ ⟨(lx rfl), (lx rfl), (lx rfl), trivial⟩ ⟨rfl, rfl, (congrArg (fun z => some (Ent.own 3 EP.int.size (List.length z) (RP EP.int z))) (show ((nth s.adBox (i : Int))) = ((fun j => zr (nth s.adBox (i : Int)) j) 0) from by simp [zr])), trivial⟩ rfl rfl rfl rfl rfl) ?_
      · exact ⟨by omega, fun a h1 h2 => by omega⟩
      intro j hφ
      obtain ⟨hj1, hj2⟩ := hφ
      have hzl : (zr (nth s.adBox (i : Int)) j).length = s.pigs.length := by rw [zr_len (by omega)]; exact hrl
      have hzn : j < s.pigs.length → nth (zr (nth s.adBox (i : Int)) j) ((s.pigs.length : Int) - 1 - (j : Int)) = nth (nth s.adBox (i : Int)) ((s.pigs.length : Int) - 1 - (j : Int)) := fun h => by rw [← hrl]; exact zr_nth (by omega)
      refine WP.seq ?_
      refine WP.seq ?_
      refine WP.imp (Imp.bit 5 6 (decide (0 ≤ ((s.pigs.length : Int) - 1 - (j : Int)))) rfl rfl) ?_
      refine WP.draw (nf := 7) [⟨[], [], [], [], []⟩, ⟨[], [], [], [], [0]⟩, ⟨[], [], [], [], [0, 1]⟩, ⟨[28, 31, 32, 33, 34, 35, 36, 37], [6], [], [], [0, 1, 2]⟩, ⟨[27, 31, 32, 33, 34, 35, 36, 37], [6], [], [], [0, 1, 2]⟩, ⟨[31, 32, 33, 34, 35, 36, 37], [6], [], [], [0, 1, 2, 3, 4]⟩, ⟨[31, 32, 33, 34, 35, 36, 37], [6], [], [], [0, 1, 2, 3, 4, 5]⟩, ⟨[27, 28, 29, 30, 34], [], [], [], [0, 1, 2]⟩, ⟨[27, 28, 29, 30, 34], [], [], [], [0, 1, 2, 7]⟩, ⟨[27, 28, 29, 30, 34], [], [], [], [0, 1, 2, 7, 8]⟩, ⟨[27, 28, 29, 30, 31, 32, 33], [], [], [], [0, 1, 2]⟩, ⟨[27, 28, 29, 30], [], [6], [6], [0, 1, 2, 7, 8, 9, 10]⟩, ⟨[27, 28, 29, 30], [], [], [], [0, 1, 2, 7, 8, 9, 10, 11]⟩, ⟨[27, 28, 29, 30], [], [], [], [0, 1, 2, 7, 8, 9, 10, 11, 12]⟩, ⟨[], [], [], [], [0, 1, 2, 3, 4, 5, 6, 7, 8, 9, 10, 11, 12, 13]⟩, ⟨[], [], [], [], [0, 1, 2, 3, 4, 5, 6, 7, 8, 9, 10, 11, 12, 13, 14]⟩] (by kernel_rfl) (by kernel_rfl) ?_
      refine DRQ.v rfl rfl rfl (o_move rfl) ?_
      refine DRQ.v rfl rfl rfl (o_geq rfl rfl) ?_
      refine DRQ.v rfl rfl rfl (o_move rfl) ?_
      refine DRQ.gv 5 rfl rfl (.plain rfl Iff.rfl rfl) rfl (fun hb => o_move rfl) ?_
      refine DRQ.gv 5 rfl rfl (.plain rfl Iff.rfl rfl) rfl (fun hb => o_move rfl) ?_
      refine DRQ.gv 5 rfl rfl (.plain rfl Iff.rfl rfl) rfl (fun hb => have hb2 := of_decide_eq_true hb; o_idxo L44 rfl rfl rfl (by first | omega | (simp; omega)) (by first | omega | (simp; omega))) ?_
      refine DRQ.gv 5 rfl rfl (.plain rfl Iff.rfl rfl) rfl (fun hb => have hb2 := of_decide_eq_true hb; o_ldoi S3 rfl rfl rfl rfl (by first | omega | (simp; omega)) (by first | omega | (simp; omega))) ?_
      refine DRQ.gv 5 rfl rfl (.plain rfl Iff.rfl rfl) rfl (fun hb => o_fldp F139_0 rfl) ?_
      refine DRQ.gv 5 rfl rfl (.plain rfl Iff.rfl rfl) rfl (fun hb => o_fldp F28_4 rfl) ?_
      refine DRQ.gv 5 rfl rfl (.plain rfl Iff.rfl rfl) rfl (fun hb => o_ldp S26 rfl rfl rfl) ?_
      refine DRQ.gv 5 rfl rfl (.plain rfl Iff.rfl rfl) rfl (fun hb => o_move rfl) ?_
      refine DRQ.gx 5 6 rfl rfl (.plain rfl Iff.rfl rfl) rfl rfl (fun hb => have hb2 := of_decide_eq_true hb; o_idx L26 rfl (lx rfl) rfl (by first | omega | (simp; omega)) (by first | omega | (simp; omega))) ?_
      refine DRQ.gv 5 rfl rfl (.plain rfl Iff.rfl rfl) rfl (fun hb => o_fldq F78_4 rfl (lxi hb rfl)) ?_
      refine DRQ.gv 5 rfl rfl (.plain rfl Iff.rfl rfl) rfl (fun hb => o_lde S3 rfl (lxi hb rfl) (strI rfl)) ?_
      refine DRQ.gv 5 rfl rfl (.plain rfl Iff.rfl rfl) rfl (fun hb => o_eql rfl rfl) ?_
      refine DRQ.v rfl rfl rfl (o_and rfl rfl rfl id) ?_
      refine DRQ.nil' ?_
      refine EX.then ?_
      refine WP.cond rfl (fun hc2 => ?_) (fun hc2 => ?_)
      · try simp only [decide_eq_true_eq, decide_eq_false_iff_not, Bool.and_eq_true, Bool.or_eq_true, Bool.and_eq_false_iff, Bool.or_eq_false_iff, Bool.not_eq_true', Bool.not_eq_false', ne_eq, Decidable.not_not] at hc2
        obtain ⟨hge, heq⟩ := hc2
        refine WP.skip ?_
        refine EX.then ?_
        refine WP.seq ?_
        refine WP.block ?_
        refine WP.region ?_
        refine WPl.v rfl (o_move rfl) ?_
        refine WPl.v rfl (o_move rfl) ?_
        refine WPl.v rfl (o_idxo L44 rfl rfl rfl (by first | omega | (simp; omega)) (by first | omega | (simp; omega))) ?_
        refine WPl.s1 (o_steE2 Try.sizeOf3 rfl rfl rfl rfl eok_int rfl rfl rfl (by first | omega | (simp; omega)) (by first | omega | (simp; omega))) ?_
        refine WPl.nil ?_
        refine EX.blk ?_
        refine EX.then ?_
        refine WP.region ?_
        refine WPl.v rfl (o_move rfl) ?_
        refine WPl.v rfl (o_sub rfl rfl (by first | omega | (simp; omega)) (by first | omega | (simp; omega))) ?_
        refine WPl.v rfl (o_assign rfl) ?_
        refine WPl.nil ?_
        refine EX.again (j + 1) id (by exact ⟨by omega, fun a h1 h2 => by by_cases h3 : s.pigs.length - j ≤ a; exact hj2 a h3 h2; have h4 : (a : Int) = (s.pigs.length : Int) - 1 - (j : Int) := (by omega); rw [h4, ← hzn (by omega)]; exact heq⟩) (by omega) (LeR.of ⟨rfl, rfl, rfl, rfl, rfl, rfl, rfl, rfl, rfl, rfl, rfl, rfl, rfl, rfl, rfl, rfl, (congrArg (fun z => some (SV.i z)) (show (((s.pigs.length : Int) - 1 - (j : Int)) - 1) = ((fun j => (s.pigs.length : Int) - 1 - (j : Int)) (j + 1)) from by show (s.pigs.length : Int) - 1 - (j : Int) - 1 = (s.pigs.length : Int) - 1 - ((j + 1 : Nat) : Int); omega)), trivial⟩ ⟨(lx rfl), (lx rfl), (lx rfl), trivial⟩ ⟨rfl, rfl, (congrArg (fun z => some (Ent.own 3 EP.int.size (List.length z) (RP EP.int z))) (show (lset (zr (nth s.adBox (i : Int)) j) ((s.pigs.length : Int) - 1 - (j : Int)) 0) = ((fun j => zr (nth s.adBox (i : Int)) j) (j + 1)) from by dsimp only; rw [← hrl]; exact zr_step (by omega))), trivial⟩ rfl rfl rfl rfl rfl)
      · try simp only [decide_eq_true_eq, decide_eq_false_iff_not, Bool.and_eq_true, Bool.or_eq_true, Bool.and_eq_false_iff, Bool.or_eq_false_iff, Bool.not_eq_true', Bool.not_eq_false', ne_eq, Decidable.not_not] at hc2
        refine WP.exit ?_
        refine EX.exit_then ?_
        refine EX.exit_then ?_
        refine EX.exit_blk ?_
        refine EX.then ?_
        refine WP.seq ?_
        refine WP.seq ?_
        refine WP.region ?_
        refine WPl.v rfl (o_move rfl) ?_
        refine WPl.v rfl (o_lss rfl rfl) ?_
        refine WPl.nil ?_
        refine EX.then ?_
        refine WP.cond rfl (fun hc3 => ?_) (fun hc3 => ?_)
        · try simp only [decide_eq_true_eq, decide_eq_false_iff_not, Bool.and_eq_true, Bool.or_eq_true, Bool.and_eq_false_iff, Bool.or_eq_false_iff, Bool.not_eq_true', Bool.not_eq_false', ne_eq, Decidable.not_not] at hc3
          refine WP.ret ?_
          refine EX.ret_then ?_
          refine EX.ret_blk ?_
          refine EX.ret_then ?_
          refine EX.ret_blk ?_
          have hend : s.adIdx i + 1 = s.adItems.length := by rw [← adIdx_end, ← (ad_next hpg hiN hj2).1 (by omega), adIdx_succ hiN, show isAdd s (nth s.adBox (i : Int)) = true from hs14]; rfl
          exact EX.finI (.inl rfl) rfl rfl (ky := 1) (Y := Y (s.adIdx i + 1)) rfl (fun _ _ h => .inl (by rw [hend] at h; exact h))
        · try simp only [decide_eq_true_eq, decide_eq_false_iff_not, Bool.and_eq_true, Bool.or_eq_true, Bool.and_eq_false_iff, Bool.or_eq_false_iff, Bool.not_eq_true', Bool.not_eq_false', ne_eq, Decidable.not_not] at hc3
          refine WP.skip ?_
          refine EX.then ?_
          refine WP.region ?_
          refine WPl.v rfl (o_move rfl) ?_
          refine WPl.v rfl (o_move rfl) ?_
          refine WPl.v rfl (o_idxo L44 rfl rfl rfl (by first | omega | (simp; omega)) (by first | omega | (simp; omega))) ?_
          refine WPl.v rfl (o_ldoi S3 rfl rfl rfl rfl (by first | omega | (simp; omega)) (by first | omega | (simp; omega))) ?_
          have hbb := hrb (s.pigs.length - 1 - j) (by omega)
          rw [show ((s.pigs.length - 1 - j : Nat) : Int) = (s.pigs.length : Int) - 1 - (j : Int) by omega, ← hzn (by omega)] at hbb
          refine WPl.v rfl (o_add rfl rfl (by first | omega | (simp; omega)) (by first | omega | (simp; omega))) ?_
          refine WPl.v rfl (o_idxo L44 rfl rfl rfl (by first | omega | (simp; omega)) (by first | omega | (simp; omega))) ?_
          refine WPl.s1 (o_steE2 Try.sizeOf3 rfl rfl rfl rfl eok_int rfl rfl rfl (by first | omega | (simp; omega)) (by first | omega | (simp; omega))) ?_
          refine WPl.nil ?_
          refine EX.blk ?_
          have hne := hc2.resolve_left (by omega)
          rw [hzn (by omega)] at hne
          have hnx := (ad_next hpg hiN hj2).2 (by omega) hne
          refine EX.again ((i + 1, F1)) id (by exact ⟨hnx.1, hF⟩) (by first | omega | (dsimp only; omega) | (simp only []; omega)) (LeR.of ⟨rfl, rfl, rfl, trivial⟩ ⟨(lx rfl), (lx rfl), trivial⟩ ⟨(congrArg (fun z => some (Ent.ext ((Y z).xp F1))) (show s.adIdx i + 1 = s.adIdx (i + 1) from by rw [adIdx_succ hiN, show isAdd s (nth s.adBox (i : Int)) = true from hs14]; rfl)), rfl, (congrArg (fun z => some (Ent.own 3 EP.int.size (List.length z) (RP EP.int z))) (show (lset (zr (nth s.adBox (i : Int)) j) ((s.pigs.length : Int) - 1 - (j : Int)) ((nth (zr (nth s.adBox (i : Int)) j) ((s.pigs.length : Int) - 1 - (j : Int))) + 1)) = ((fun (⟨i, F⟩ : Nat × (Nat → Prop)) => (nth s.adBox (i : Int))) (i + 1, F1)) from hnx.2)), trivial⟩ rfl rfl rfl rfl rfl)
  · refine WPl.imp (Imp.bitF 14 (b' := false) rfl hs14) ?_
    refine WPl.off rfl ⟨_, _, rfl, rfl, rfl⟩ ?_
    refine WPl.off rfl ⟨_, _, rfl, rfl, rfl⟩ ?_
    refine WPl.off rfl ⟨_, _, rfl, rfl, rfl⟩ ?_
    refine WPl.off rfl ⟨_, _, rfl, rfl, rfl⟩ ?_
    refine WPl.off rfl ⟨_, _, rfl, rfl, rfl⟩ ?_
    refine WPl.v rfl (o_pickF rfl rfl) ?_
    refine WPl.nil ?_
    refine EX.then ?_
    refine WP.cond rfl (fun h => by cases h) (fun _ => ?_)
    refine WP.skip ?_
    refine EX.then ?_
    refine WP.seq ?_
    refine WP.region ?_
    refine WPl.v rfl (o_move rfl) ?_
    refine WPl.v rfl (o_leno L44 rfl rfl) ?_
    refine WPl.v rfl (o_sub rfl rfl (by first | omega | (simp; omega)) (by first | omega | (simp; omega))) ?_
    refine WPl.v rfl (o_assign rfl) ?_
    refine WPl.nil ?_
    refine EX.then ?_
    refine WP.seq ?_
    refine WP.block ?_
    refine WP.loop (Gh := Nat) (fun j => ⟨4, [(1, .e (.a (.v (yv l)))), (2, .e (.a (.p 2 (0)))), (4, .e (.a (.q 3))), (11, .e (.g [ai (s.pounds), ai (s.tl), ai (s.th), ai (s.al), ai (s.ah), ai (s.room), ai (s.tpl), ai (s.tph), ai (s.apl), ai (s.aph), .q 0])), (12, .e (.a (.q 3))), (13, .b (isAdd s (nth s.adBox (i : Int)))), (14, .b (false)), (15, .e (.a (.v (undef)))), (16, .e (.a (.v (undef)))), (17, .e (.a (.v (undef)))), (18, .e (.a (.v (undef)))), (19, .e (.a (.v (undef)))), (20, .b (false)), (21, .e (.a (.q 3))), (22, .i (((nth s.adBox (i : Int)).length : Int))), (23, .i (((nth s.adBox (i : Int)).length : Int) - 1)), (5, .i ((s.pigs.length : Int) - 1 - (j : Int)))], [(0, PL EPig (s.pigs)), (3, Pred.newer _)], [(1, .ext ((Y (s.adIdx i)).xp F)), (2, .blk [ai (s.pounds), ai (s.tl), ai (s.th), ai (s.al), ai (s.ah), ai (s.room), ai (s.tpl), ai (s.tph), ai (s.apl), ai (s.aph), .q 0] 139), (3, .own 3 EP.int.size (zr (nth s.adBox (i : Int)) j).length (RP EP.int (zr (nth s.adBox (i : Int)) j)))], [], []⟩) (fun j => j ≤ s.pigs.length ∧ ∀ a : Nat, s.pigs.length - j ≤ a → a < s.pigs.length → nth (nth s.adBox (i : Int)) a = (nth s.pigs a).many) (fun j => s.pigs.length - j) (0) id ?_ (LeR.of ⟨rfl, rfl, rfl, rfl, rfl, rfl, rfl, rfl, rfl, rfl, rfl, rfl, rfl, rfl, rfl, rfl, (congrArg (fun z => some (SV.i z)) (show (((nth s.adBox (i : Int)).length : Int) - 1) = ((fun j => (s.pigs.length : Int) - 1 - (j : Int)) 0) from by rw [hrl]; simp)), trivial⟩ ⟨(lx rfl), (lx rfl), trivial⟩ ⟨rfl, rfl, (congrArg (fun z => some (Ent.own 3 EP.int.size (List.length z) (RP EP.int z))) (show ((nth s.adBox (i : Int))) = ((fun j => zr (nth s.adBox (i : Int)) j) 0) from by simp [zr])), trivial⟩ rfl rfl rfl rfl rfl) ?_
    · exact ⟨by omega, fun a h1 h2 => by omega⟩
    intro j hφ
    obtain ⟨hj1, hj2⟩ := hφ
    have hzl : (zr (nth s.adBox (i : Int)) j).length = s.pigs.length := by rw [zr_len (by omega)]; exact hrl
    have hzn : j < s.pigs.length → nth (zr (nth s.adBox (i : Int)) j) ((s.pigs.length : Int) - 1 - (j : Int)) = nth (nth s.adBox (i : Int)) ((s.pigs.length : Int) - 1 - (j : Int)) := fun h => by rw [← hrl]; exact zr_nth (by omega)
    refine WP.seq ?_
    refine WP.seq ?_
    refine WP.imp (Imp.bit 4 5 (decide (0 ≤ ((s.pigs.length : Int) - 1 - (j : Int)))) rfl rfl) ?_
    refine WP.draw (nf := 6) [⟨[], [], [], [], []⟩, ⟨[], [], [], [], [0]⟩, ⟨[], [], [], [], [0, 1]⟩, ⟨[28, 31, 32, 33, 34, 35, 36, 37], [5], [], [], [0, 1, 2]⟩, ⟨[27, 31, 32, 33, 34, 35, 36, 37], [5], [], [], [0, 1, 2]⟩, ⟨[31, 32, 33, 34, 35, 36, 37], [5], [], [], [0, 1, 2, 3, 4]⟩, ⟨[31, 32, 33, 34, 35, 36, 37], [5], [], [], [0, 1, 2, 3, 4, 5]⟩, ⟨[27, 28, 29, 30, 34], [], [], [], [0, 1, 2]⟩, ⟨[27, 28, 29, 30, 34], [], [], [], [0, 1, 2, 7]⟩, ⟨[27, 28, 29, 30, 34], [], [], [], [0, 1, 2, 7, 8]⟩, ⟨[27, 28, 29, 30, 31, 32, 33], [], [], [], [0, 1, 2]⟩, ⟨[27, 28, 29, 30], [], [5], [5], [0, 1, 2, 7, 8, 9, 10]⟩, ⟨[27, 28, 29, 30], [], [], [], [0, 1, 2, 7, 8, 9, 10, 11]⟩, ⟨[27, 28, 29, 30], [], [], [], [0, 1, 2, 7, 8, 9, 10, 11, 12]⟩, ⟨[], [], [], [], [0, 1, 2, 3, 4, 5, 6, 7, 8, 9, 10, 11, 12, 13]⟩, ⟨[], [], [], [], [0, 1, 2, 3, 4, 5, 6, 7, 8, 9, 10, 11, 12, 13, 14]⟩] (by kernel_rfl) (by kernel_rfl) ?_
    refine DRQ.v rfl rfl rfl (o_move rfl) ?_
    refine DRQ.v rfl rfl rfl (o_geq rfl rfl) ?_
    refine DRQ.v rfl rfl rfl (o_move rfl) ?_
    refine DRQ.gv 4 rfl rfl (.plain rfl Iff.rfl rfl) rfl (fun hb => o_move rfl) ?_
    refine DRQ.gv 4 rfl rfl (.plain rfl Iff.rfl rfl) rfl (fun hb => o_move rfl) ?_
    refine DRQ.gv 4 rfl rfl (.plain rfl Iff.rfl rfl) rfl (fun hb => have hb2 := of_decide_eq_true hb; o_idxo L44 rfl rfl rfl (by first | omega | (simp; omega)) (by first | omega | (simp; omega))) ?_
    refine DRQ.gv 4 rfl rfl (.plain rfl Iff.rfl rfl) rfl (fun hb => have hb2 := of_decide_eq_true hb; o_ldoi S3 rfl rfl rfl rfl (by first | omega | (simp; omega)) (by first | omega | (simp; omega))) ?_
    refine DRQ.gv 4 rfl rfl (.plain rfl Iff.rfl rfl) rfl (fun hb => o_fldp F139_0 rfl) ?_
    refine DRQ.gv 4 rfl rfl (.plain rfl Iff.rfl rfl) rfl (fun hb => o_fldp F28_4 rfl) ?_
    refine DRQ.gv 4 rfl rfl (.plain rfl Iff.rfl rfl) rfl (fun hb => o_ldp S26 rfl rfl rfl) ?_
    refine DRQ.gv 4 rfl rfl (.plain rfl Iff.rfl rfl) rfl (fun hb => o_move rfl) ?_
    refine DRQ.gx 4 5 rfl rfl (.plain rfl Iff.rfl rfl) rfl rfl (fun hb => have hb2 := of_decide_eq_true hb; o_idx L26 rfl (lx rfl) rfl (by first | omega | (simp; omega)) (by first | omega | (simp; omega))) ?_
    refine DRQ.gv 4 rfl rfl (.plain rfl Iff.rfl rfl) rfl (fun hb => o_fldq F78_4 rfl (lxi hb rfl)) ?_
    refine DRQ.gv 4 rfl rfl (.plain rfl Iff.rfl rfl) rfl (fun hb => o_lde S3 rfl (lxi hb rfl) (strI rfl)) ?_
    refine DRQ.gv 4 rfl rfl (.plain rfl Iff.rfl rfl) rfl (fun hb => o_eql rfl rfl) ?_
    refine DRQ.v rfl rfl rfl (o_and rfl rfl rfl id) ?_
    refine DRQ.nil' ?_
    refine EX.then ?_
    refine WP.cond rfl (fun hc2 => ?_) (fun hc2 => ?_)
    · try simp only [decide_eq_true_eq, decide_eq_false_iff_not, Bool.and_eq_true, Bool.or_eq_true, Bool.and_eq_false_iff, Bool.or_eq_false_iff, Bool.not_eq_true', Bool.not_eq_false', ne_eq, Decidable.not_not] at hc2
      obtain ⟨hge, heq⟩ := hc2
      refine WP.skip ?_
      refine EX.then ?_
      refine WP.seq ?_
      refine WP.block ?_
      refine WP.region ?_
      refine WPl.v rfl (o_move rfl) ?_
      refine WPl.v rfl (o_move rfl) ?_
      refine WPl.v rfl (o_idxo L44 rfl rfl rfl (by first | omega | (simp; omega)) (by first | omega | (simp; omega))) ?_
      refine WPl.s1 (o_steE2 Try.sizeOf3 rfl rfl rfl rfl eok_int rfl rfl rfl (by first | omega | (simp; omega)) (by first | omega | (simp; omega))) ?_
      refine WPl.nil ?_
      refine EX.blk ?_
      refine EX.then ?_
      refine WP.region ?_
      refine WPl.v rfl (o_move rfl) ?_
      refine WPl.v rfl (o_sub rfl rfl (by first | omega | (simp; omega)) (by first | omega | (simp; omega))) ?_
      refine WPl.v rfl (o_assign rfl) ?_
      refine WPl.nil ?_
      refine EX.again (j + 1) id (by exact ⟨by omega, fun a h1 h2 => by by_cases h3 : s.pigs.length - j ≤ a; exact hj2 a h3 h2; have h4 : (a : Int) = (s.pigs.length : Int) - 1 - (j : Int) := (by omega); rw [h4, ← hzn (by omega)]; exact heq⟩) (by omega) (LeR.of ⟨rfl, rfl, rfl, rfl, rfl, rfl, rfl, rfl, rfl, rfl, rfl, rfl, rfl, rfl, rfl, rfl, (congrArg (fun z => some (SV.i z)) (show (((s.pigs.length : Int) - 1 - (j : Int)) - 1) = ((fun j => (s.pigs.length : Int) - 1 - (j : Int)) (j + 1)) from by show (s.pigs.length : Int) - 1 - (j : Int) - 1 = (s.pigs.length : Int) - 1 - ((j + 1 : Nat) : Int); omega)), trivial⟩ ⟨(lx rfl), (lx rfl), trivial⟩ ⟨rfl, rfl, (congrArg (fun z => some (Ent.own 3 EP.int.size (List.length z) (RP EP.int z))) (show (lset (zr (nth s.adBox (i : Int)) j) ((s.pigs.length : Int) - 1 - (j : Int)) 0) = ((fun j => zr (nth s.adBox (i : Int)) j) (j + 1)) from by dsimp only; rw [← hrl]; exact zr_step (by omega))), trivial⟩ rfl rfl rfl rfl rfl)
    · try simp only [decide_eq_true_eq, decide_eq_false_iff_not, Bool.and_eq_true, Bool.or_eq_true, Bool.and_eq_false_iff, Bool.or_eq_false_iff, Bool.not_eq_true', Bool.not_eq_false', ne_eq, Decidable.not_not] at hc2
      refine WP.exit ?_
      refine EX.exit_then ?_
      refine EX.exit_then ?_
      refine EX.exit_blk ?_
      refine EX.then ?_
      refine WP.seq ?_
      refine WP.seq ?_
      refine WP.region ?_
      refine WPl.v rfl (o_move rfl) ?_
      refine WPl.v rfl (o_lss rfl rfl) ?_
      refine WPl.nil ?_
      refine EX.then ?_
      refine WP.cond rfl (fun hc3 => ?_) (fun hc3 => ?_)
      · try simp only [decide_eq_true_eq, decide_eq_false_iff_not, Bool.and_eq_true, Bool.or_eq_true, Bool.and_eq_false_iff, Bool.or_eq_false_iff, Bool.not_eq_true', Bool.not_eq_false', ne_eq, Decidable.not_not] at hc3
        refine WP.ret ?_
        refine EX.ret_then ?_
        refine EX.ret_blk ?_
        refine EX.ret_then ?_
        refine EX.ret_blk ?_
        have hend : s.adIdx i = s.adItems.length := by rw [← adIdx_end, ← (ad_next hpg hiN hj2).1 (by omega), adIdx_succ hiN, show isAdd s (nth s.adBox (i : Int)) = false from hs14]; rfl
        exact EX.finI (.inl rfl) rfl rfl (ky := 1) (Y := Y (s.adIdx i)) rfl (fun _ _ h => .inl (by rw [hend] at h; exact h))
      · try simp only [decide_eq_true_eq, decide_eq_false_iff_not, Bool.and_eq_true, Bool.or_eq_true, Bool.and_eq_false_iff, Bool.or_eq_false_iff, Bool.not_eq_true', Bool.not_eq_false', ne_eq, Decidable.not_not] at hc3
        refine WP.skip ?_
        refine EX.then ?_
        refine WP.region ?_
        refine WPl.v rfl (o_move rfl) ?_
        refine WPl.v rfl (o_move rfl) ?_
        refine WPl.v rfl (o_idxo L44 rfl rfl rfl (by first | omega | (simp; omega)) (by first | omega | (simp; omega))) ?_
        refine WPl.v rfl (o_ldoi S3 rfl rfl rfl rfl (by first | omega | (simp; omega)) (by first | omega | (simp; omega))) ?_
        have hbb := hrb (s.pigs.length - 1 - j) (by omega)
        rw [show ((s.pigs.length - 1 - j : Nat) : Int) = (s.pigs.length : Int) - 1 - (j : Int) by omega, ← hzn (by omega)] at hbb
        refine WPl.v rfl (o_add rfl rfl (by first | omega | (simp; omega)) (by first | omega | (simp; omega))) ?_
        refine WPl.v rfl (o_idxo L44 rfl rfl rfl (by first | omega | (simp; omega)) (by first | omega | (simp; omega))) ?_
        refine WPl.s1 (o_steE2 Try.sizeOf3 rfl rfl rfl rfl eok_int rfl rfl rfl (by first | omega | (simp; omega)) (by first | omega | (simp; omega))) ?_
        refine WPl.nil ?_
        refine EX.blk ?_
        have hne := hc2.resolve_left (by omega)
        rw [hzn (by omega)] at hne
        have hnx := (ad_next hpg hiN hj2).2 (by omega) hne
        refine EX.again ((i + 1, F)) id (by exact ⟨hnx.1, hF⟩) (by first | omega | (dsimp only; omega) | (simp only []; omega)) (LeR.of ⟨rfl, rfl, rfl, trivial⟩ ⟨(lx rfl), (lx rfl), trivial⟩ ⟨(congrArg (fun z => some (Ent.ext ((Y z).xp F))) (show s.adIdx i = s.adIdx (i + 1) from by rw [adIdx_succ hiN, show isAdd s (nth s.adBox (i : Int)) = false from hs14]; rfl)), rfl, (congrArg (fun z => some (Ent.own 3 EP.int.size (List.length z) (RP EP.int z))) (show (lset (zr (nth s.adBox (i : Int)) j) ((s.pigs.length : Int) - 1 - (j : Int)) ((nth (zr (nth s.adBox (i : Int)) j) ((s.pigs.length : Int) - 1 - (j : Int))) + 1)) = ((fun (⟨i, F⟩ : Nat × (Nat → Prop)) => (nth s.adBox (i : Int))) (i + 1, F)) from hnx.2)), trivial⟩ rfl rfl rfl rfl rfl)
theorem w113 {s : Shop} {g : List Int → List Int} : ∀ x ∈ ([.e (.g [ai (s.pounds), ai (s.tl), ai (s.th), ai (s.al), ai (s.ah), ai (s.room), ai (s.tpl), ai (s.tph), ai (s.apl), ai (s.aph), .q 0]), .e (.a (.q 1))] : List SV), x.res (keys (α := Pred) [(0, PL EPig (s.pigs)), (1, OfM s g)]) := by simp [SV.res, El.res, At.res, keys]
theorem r113 {s : Shop} {g : List Int → List Int} : SV.res (keys (α := Pred) [(0, PL EP.int (s.mAdd g)), (1, PL EP.int (s.mNum g))]) (.t [.a (.q 0), .a (.q 1), .a (ai (s.mE g))]) := by simp [SV.res, El.res, At.res, keys]
set_option maxHeartbeats 4000000 in
theorem c113 (s : Shop) (g : List Int → List Int) (hl : s.pigs.length ≤ 40) (hg : GOK s g) (hE0 : s.chk = false → errM s.chk = 10) : Sig Try.prog 113 [.e (.g [ai (s.pounds), ai (s.tl), ai (s.th), ai (s.al), ai (s.ah), ai (s.room), ai (s.tpl), ai (s.tph), ai (s.apl), ai (s.aph), .q 0]), .e (.a (.q 1))] [(0, PL EPig (s.pigs)), (1, OfM s g)] (.t [.a (.q 0), .a (.q 1), .a (ai (s.mE g))]) [(0, PL EP.int (s.mAdd g)), (1, PL EP.int (s.mNum g))] := by
  refine Sig.intro Try.func113 rfl 2 [(0, .e (.g [ai (s.pounds), ai (s.tl), ai (s.th), ai (s.al), ai (s.ah), ai (s.room), ai (s.tpl), ai (s.tph), ai (s.apl), ai (s.aph), .q 0])), (1, .e (.a (.q 1)))] rfl w113 rfl rfl fun I w => ?_
  refine WP.seq ?_
  refine WP.region ?_
  refine WPl.l 2 3 rfl rfl rfl (o_boxg rfl) ?_
  refine WPl.l 3 4 rfl rfl rfl (o_boxa rfl (.inl ⟨_, (lx rfl), FvP.onea⟩)) ?_
  refine WPl.l 4 5 rfl rfl rfl (o_alloc Z44) ?_
  refine WPl.l 5 6 rfl rfl rfl (o_alloc Z44) ?_
  refine WPl.v rfl (o_assign rfl) ?_
  refine WPl.nil ?_
  refine EX.then ?_
  refine WP.seq ?_
  refine WP.region ?_
  refine WPl.v rfl (o_ldpa G28 rfl rfl rfl) ?_
  refine WPl.cs 7 rfl rfl rfl rfl (o_sig 6 (ren [(0, 0)]) (c115N s hl) e115 rfl rfl rfl w115N ⟨(lx rfl), trivial⟩ r115N) ?_
  refine WPl.v rfl (o_move rfl) ?_
  refine WPl.v rfl (o_extract rfl rfl) ?_
  refine WPl.v rfl (o_extract rfl rfl) ?_
  refine WPl.l 7 8 rfl rfl rfl (o_alloc Z139) ?_
  refine WPl.s1 (o_stag G139 rfl rfl rfl ⟨rfl, rfl, rfl, rfl, rfl, rfl, rfl, rfl, rfl, rfl, (.inl ⟨_, (lx rfl), PL.one⟩), trivial⟩ rfl rfl) ?_
  refine WPl.v rfl (o_assign rfl) ?_
  refine WPl.nil ?_
  refine EX.then ?_
  refine WP.seq ?_
  refine WP.seq ?_
  refine WP.region ?_
  refine WPl.v rfl (o_move rfl) ?_
  refine WPl.v rfl (o_neq rfl rfl) ?_
  refine WPl.nil ?_
  refine EX.then ?_
  refine WP.cond rfl (fun hc1 => ?_) (fun hc1 => ?_)
  · try simp only [decide_eq_true_eq, decide_eq_false_iff_not, Bool.and_eq_true, Bool.or_eq_true, Bool.and_eq_false_iff, Bool.or_eq_false_iff, Bool.not_eq_true', Bool.not_eq_false', ne_eq, Decidable.not_not] at hc1
    have hs : s.chk = false := errM_ne.1 (by simpa using hc1)
    refine WP.seq ?_
    refine WP.region ?_
    refine WPl.v rfl (o_move rfl) ?_
    refine WPl.s1 (o_sta S44 rfl rfl rfl rfl rfl) ?_
    refine WPl.s1 (o_sta S44 rfl rfl rfl rfl rfl) ?_
    refine WPl.v rfl (o_assign rfl) ?_
    refine WPl.nil ?_
    refine EX.then ?_
    refine WP.ret ?_
    refine EX.ret_then ?_
    refine EX.imp (Imp.nam 8 9 (.slice none 0 0) (R := PN EP.int) pn_ok rfl rfl) ?_
    refine EX.imp (Imp.swL 4 0 8 rfl rfl (lxr rfl)) ?_
    refine EX.imp (Imp.nam 9 10 (.slice none 0 0) (R := PN EP.int) pn_ok rfl rfl) ?_
    refine EX.imp (Imp.swL 5 0 9 rfl rfl (lxr rfl)) ?_
    rw [hE0 hs]
    have hE : s.mE g = 10 := by unfold Shop.mE; rw [hs]; rfl
    rw [show s.mAdd g = [] from by unfold Shop.mAdd; rw [hE]; rfl, show s.mNum g = [] from by unfold Shop.mNum; rw [hE]; rfl, hE]
    exact EX.fin (ren [(0, 8), (1, 9)]) (.inl rfl) rfl (.cell1 S44 rfl rfl (.cell1 S44 rfl rfl (.tmp rfl .nil))) rfl (by simp [SV.res, El.res, At.res, keys]) ⟨lxl rfl, lxl rfl, trivial⟩ (by simp) (by simp)
  · try simp only [decide_eq_true_eq, decide_eq_false_iff_not, Bool.and_eq_true, Bool.or_eq_true, Bool.and_eq_false_iff, Bool.or_eq_false_iff, Bool.not_eq_true', Bool.not_eq_false', ne_eq, Decidable.not_not] at hc1
    have hs : s.chk = true := errM_eq.1 (by simpa using hc1)
    have hpg := Shop.pigsOK hs
    refine WP.skip ?_
    refine EX.then ?_
    refine WP.seq ?_
    refine WP.seq ?_
    refine WP.region ?_
    refine WPl.v rfl (o_ldpa G139 rfl rfl rfl) ?_
    refine WPl.x 8 9 rfl rfl rfl (o_mkbit 8 (ren [(0, 6)]) (c149 s hs) e149 rfl SvsOK.rf w149 ⟨(lx rfl), trivial⟩) ?_
    refine WPl.nil ?_
    refine EX.then ?_
    refine WP.block ?_
    refine WP.leR (S' := ⟨9, [(3, .e (.a (.p 3 (0)))), (4, .e (.a (.p 4 (0)))), (5, .e (.a (.p 5 (0)))), (6, .i (errM s.chk)), (7, .e (.a (.p 7 (0)))), (19, .e (.a (.q 8)))], [(1, OfM s g), (6, PL EPig (s.pigs)), (8, ItQ Try.prog s.adItems)], [(3, .blk [.q 1] 137), (4, .blk [.v (.slice none 0 0)] 44), (5, .blk [.v (.slice none 0 0)] 44), (7, .blk [ai (s.pounds), ai (s.tl), ai (s.th), ai (s.al), ai (s.ah), ai (s.room), ai (s.tpl), ai (s.tph), ai (s.apl), ai (s.aph), .q 6] 139)], [], []⟩) id (LeR.of ⟨rfl, rfl, rfl, rfl, rfl, rfl, trivial⟩ ⟨(lx rfl), (lx rfl), (lx rfl), trivial⟩ ⟨rfl, rfl, rfl, rfl, trivial⟩ rfl rfl rfl rfl rfl) ?_
    refine WP.imp (Imp.nam 9 10 (.slice none 0 0) (R := PN EP.int) pn_ok rfl rfl) ?_
    refine WP.imp (Imp.swL 4 0 9 rfl rfl (lxr rfl)) ?_
    refine WP.imp (Imp.nam 10 11 (.slice none 0 0) (R := PZ EP.int []) pz_ok rfl rfl) ?_
    refine WP.imp (Imp.swL 5 0 10 rfl rfl (lxzn rfl)) ?_
    refine WP.rangeV 15 1 (s.adL.length) (fun i => ⟨[.e (.a (.q 0))], [(0, PL EP.int ((nth s.adL (i : Int))))], []⟩) (fun i => ⟨15, [(3, .e (.a (.p 3 (0)))), (4, .e (.a (.p 4 (0)))), (5, .e (.a (.p 5 (0)))), (6, .i (errM s.chk)), (7, .e (.a (.p 7 (0)))), (19, .e (.a (.q 8)))], [(1, OfM s g), (6, PL EPig (s.pigs)), (8, ItQ Try.prog s.adItems), (13, PL EP.int ((s.bestM g i).1)), (14, PZ EP.int ((s.bestM g i).2))], [(3, .blk [.q 1] 137), (4, .blk [.q 13] 44), (5, .blk [.q 14] 44), (7, .blk [ai (s.pounds), ai (s.tl), ai (s.th), ai (s.al), ai (s.ah), ai (s.room), ai (s.tpl), ai (s.tph), ai (s.apl), ai (s.aph), .q 6] 139), (11, .ob (.deferred (some [])))], [11], []⟩) (fun _ _ => False) rfl  rfl (ItQ.hit (lx rfl)) (rfl) (fun _ => RSt.of rfl rfl rfl rfl rfl rfl) (fun _ _ h => h.elim) rfl rfl rfl (fun _ _ => ItemOK.of rfl) rfl rfl (ren [(13, 9), (14, 10)]) (LeR.of ⟨rfl, rfl, rfl, rfl, rfl, rfl, trivial⟩ ⟨(lx rfl), (lx rfl), (lx rfl), (lxl rfl), (lx rfl), trivial⟩ ⟨rfl, rfl, rfl, rfl, rfl, trivial⟩ rfl rfl rfl rfl rfl) ?_ ?_ ?_
    · intro i hi w1 E1 I1 R1 pβ1 pν1 us1
      have hx := isAddB hpg (adL_at hi)
      refine WP.region ?_
      refine WPl.v rfl (o_assign rfl) ?_
      refine WPl.nil ?_
      refine EX.beg rfl ?_
      refine WP.block ?_
      refine WP.seq ?_
      refine WP.region ?_
      refine WPl.v rfl (o_ldp S137 rfl rfl rfl) ?_
      refine WPl.v rfl (o_ldpa G139 rfl rfl rfl) ?_
      refine WPl.v rfl (o_move rfl) ?_
      refine WPl.cs 17 rfl rfl rfl rfl (o_callfv (svs := [.e (.g [ai (s.pounds), ai (s.tl), ai (s.th), ai (s.al), ai (s.ah), ai (s.room), ai (s.tpl), ai (s.tph), ai (s.apl), ai (s.aph), .q 0]), .e (.a (.q 1))]) 16 (ren [(0, 6), (1, 15)]) rfl (Has.of (lx rfl) fun _ _ h => h ((⟨(nth s.adL (i : Int)), hx.1, hx.2.2⟩ : AdL s))) rfl rfl SvsOK.rf (by simp [SV.res, El.res, At.res, keys]) ⟨(lx rfl), (lx rfl), trivial⟩ (by simp [SV.res, El.res, At.res, keys])) ?_
      refine WPl.v rfl (o_assign rfl) ?_
      refine WPl.nil ?_
      refine EX.then ?_
      refine WP.seq ?_
      refine WP.imp (Imp.bit 17 18 (s.safeP (s.aft (nth s.adL (i : Int)))) rfl rfl) ?_
      refine WP.imp (Imp.bit 18 19 ((s.safeP (s.aft (nth s.adL (i : Int)))) && !(decide ((((s.bestM g i).2).length : Int) = 0))) rfl rfl) ?_
      refine WP.draw (nf := 19) [⟨[26, 27, 28], [], [], [], []⟩, ⟨[25, 27], [], [], [], []⟩, ⟨[25, 26], [], [], [], []⟩, ⟨[25], [], [], [], [1, 2]⟩, ⟨[], [], [], [], [0, 1, 2, 3]⟩, ⟨[], [], [], [], [0, 1, 2, 3, 4]⟩, ⟨[], [], [], [], [0, 1, 2, 3, 4, 5]⟩, ⟨[], [], [], [], [0, 1, 2, 3, 4, 5, 6]⟩, ⟨[], [], [], [], [0, 1, 2, 3, 4, 5, 6, 7]⟩, ⟨[35], [], [], [], [0, 1, 2, 3, 4, 5, 6, 7, 8]⟩, ⟨[34], [], [], [], [0, 1, 2, 3, 4, 5, 6, 7, 8]⟩, ⟨[], [], [], [], [0, 1, 2, 3, 4, 5, 6, 7, 8, 9, 10]⟩, ⟨[], [], [], [], [0, 1, 2, 3, 4, 5, 6, 7, 8, 9, 10, 11]⟩, ⟨[], [], [], [], [0, 1, 2, 3, 4, 5, 6, 7, 8, 9, 10, 11, 12]⟩, ⟨[], [], [], [], [0, 1, 2, 3, 4, 5, 6, 7, 8, 9, 10, 11, 12, 13]⟩] (by kernel_rfl) (by kernel_rfl) ?_
      refine DRQ.v rfl rfl rfl (o_ldpa G139 rfl rfl rfl) ?_
      refine DRQ.v rfl rfl rfl (o_ldpa G139 rfl rfl rfl) ?_
      refine DRQ.v rfl rfl rfl (o_move rfl) ?_
      refine DRQ.cs rfl rfl rfl rfl (o_sig 19 (ren [(0, 6), (1, 15)]) (c118 s (nth s.adL (i : Int)) hs (by omega) hx.2.2) e118 rfl rfl rfl w118 ⟨(lx rfl), (lx rfl), trivial⟩ r118) ?_
      refine DRQ.cs rfl rfl rfl rfl (o_sig 19 (ren [(0, 6)]) (c119 s (s.aft (nth s.adL (i : Int))) hs (aft_bnd hs (by omega) hx.2.2)) e119 rfl rfl rfl w119 ⟨(lx rfl), trivial⟩ r119) ?_
      refine DRQ.v rfl rfl rfl (o_move rfl) ?_
      refine DRQ.gv 17 rfl rfl (.plain rfl Iff.rfl rfl) rfl (fun hb => o_ldp S44 rfl rfl rfl) ?_
      refine DRQ.gv 17 rfl rfl (.plain rfl Iff.rfl rfl) rfl (fun hb => o_eqz Try.underlying44 rfl (lx rfl)) ?_
      refine DRQ.gv 17 rfl rfl (.plain rfl Iff.rfl rfl) rfl (fun hb => o_move rfl) ?_
      refine DRQ.gv 18 rfl rfl (.nest rfl rfl (by simp) rfl) rfl (fun hb => o_move rfl) ?_
      refine DRQ.gv 18 rfl rfl (.nest rfl rfl (by simp) rfl) rfl (fun hb => o_ldp S44 rfl rfl rfl) ?_
      refine DRQ.gv 18 rfl rfl (.nest rfl rfl (by simp) rfl) rfl (fun hb => o_sig 19 (ren [(0, 16), (1, 14)]) (c150 (g (⟨(nth s.adL (i : Int)), hx.1, hx.2.2⟩ : AdL s).1) ((s.bestM g i).2) (by show (g (nth s.adL (i : Int))).length ≤ 1000; have := (hg (nth s.adL (i : Int))).2; omega) (by have := bestM_len hg i; omega)) e150 rfl rfl rfl w150 ⟨(lx rfl), (lxz rfl), trivial⟩ r150) ?_
      refine DRQ.gv 18 rfl rfl (.nest rfl rfl (by simp) rfl) rfl (fun hb => o_lss rfl rfl) ?_
      refine DRQ.gv 17 rfl rfl (.plain rfl Iff.rfl rfl) rfl (fun hb => o_or rfl rfl rfl (by first | (simp; done) | simp_all)) ?_
      refine DRQ.v rfl rfl rfl (o_and rfl rfl rfl id) ?_
      refine DRQ.nil' ?_
      refine EX.then ?_
      refine WP.cond rfl (fun hc2 => ?_) (fun hc2 => ?_)
      · try simp only [decide_eq_true_eq, decide_eq_false_iff_not, Bool.and_eq_true, Bool.or_eq_true, Bool.and_eq_false_iff, Bool.or_eq_false_iff, Bool.not_eq_true', Bool.not_eq_false', ne_eq, Decidable.not_not] at hc2
        refine WP.imp (Imp.fact 16 (R' := PZ EP.int (g (⟨(nth s.adL (i : Int)), hx.1, hx.2.2⟩ : AdL s).1)) (lx rfl) (PZ.of (hg _).1)) ?_
        refine WP.region ?_
        refine WPl.v rfl (o_move rfl) ?_
        refine WPl.v rfl (o_move rfl) ?_
        refine WPl.s1 (o_sta S44 rfl rfl rfl (.inl ⟨_, (lx rfl), PL.one⟩) rfl) ?_
        refine WPl.s1 (o_sta S44 rfl rfl rfl (.inl ⟨_, (lxz rfl), PL.one⟩) rfl) ?_
        refine WPl.nil ?_
        refine EX.blk ?_
        have hbr : s.bestM g (i + 1) = ((nth s.adL (i : Int)), g (nth s.adL (i : Int))) := by simp only [Shop.bestM]; rw [if_pos (by simpa using hc2)]
        exact EX.next (ren [(13, 15), (14, 16)]) (LeR.of trivial ⟨(lx rfl), (lx rfl), (lx rfl), (has_eq (F := fun z => PL EP.int z) (show ((nth s.adL (i : Int))) = ((fun i => (s.bestM g i).1) (i + 1)) from by dsimp only; rw [hbr]; try rfl) (lx rfl)), (has_eq (F := fun z => PZ EP.int z) (show (g (⟨(nth s.adL (i : Int)), hx.1, hx.2.2⟩ : AdL s).1) = ((fun i => (s.bestM g i).2) (i + 1)) from by dsimp only; rw [hbr]; try rfl) (lx rfl)), trivial⟩ ⟨rfl, rfl, rfl, rfl, rfl, rfl, trivial⟩ rfl rfl rfl rfl rfl)
      · try simp only [decide_eq_true_eq, decide_eq_false_iff_not, Bool.and_eq_true, Bool.or_eq_true, Bool.and_eq_false_iff, Bool.or_eq_false_iff, Bool.not_eq_true', Bool.not_eq_false', ne_eq, Decidable.not_not] at hc2
        refine WP.skip ?_
        refine EX.blk ?_
        have hbr : s.bestM g (i + 1) = s.bestM g i := by simp only [Shop.bestM]; rw [if_neg (by intro h; rw [Bool.and_eq_true, Bool.or_eq_true, decide_eq_true_eq, decide_eq_true_eq] at h; rcases hc2 with h3 | h3; (rw [h.1] at h3; cases h3); (exact h.2.elim h3.1 h3.2))]
        exact EX.next id (LeR.of trivial ⟨(lx rfl), (lx rfl), (lx rfl), (has_eq (F := fun z => PL EP.int z) (show ((s.bestM g i).1) = ((fun i => (s.bestM g i).1) (i + 1)) from by dsimp only; rw [hbr]; try rfl) (lx rfl)), (has_eq (F := fun z => PZ EP.int z) (show ((s.bestM g i).2) = ((fun i => (s.bestM g i).2) (i + 1)) from by dsimp only; rw [hbr]; try rfl) (lx rfl)), trivial⟩ ⟨rfl, rfl, rfl, rfl, rfl, rfl, trivial⟩ rfl rfl rfl rfl rfl)
    · exact fun _ _ h => h.elim
    · skip
      refine EX.blk ?_
      refine EX.then ?_
      refine WP.seq ?_
      refine WP.seq ?_
      refine WP.region ?_
      refine WPl.v rfl (o_ldp S44 rfl rfl rfl) ?_
      refine WPl.v rfl (o_eqz Try.underlying44 rfl (lx rfl)) ?_
      refine WPl.nil ?_
      refine EX.then ?_
      refine WP.cond rfl (fun hc3 => ?_) (fun hc3 => ?_)
      · try simp only [decide_eq_true_eq, decide_eq_false_iff_not, Bool.and_eq_true, Bool.or_eq_true, Bool.and_eq_false_iff, Bool.or_eq_false_iff, Bool.not_eq_true', Bool.not_eq_false', ne_eq, Decidable.not_not] at hc3
        refine WP.seq ?_
        refine WP.region ?_
        refine WPl.s1 (o_sta S44 rfl rfl rfl rfl rfl) ?_
        refine WPl.s1 (o_sta S44 rfl rfl rfl rfl rfl) ?_
        refine WPl.v rfl (o_assign rfl) ?_
        refine WPl.nil ?_
        refine EX.then ?_
        refine WP.ret ?_
        refine EX.ret_then ?_
        refine EX.imp (Imp.nam 15 16 (.slice none 0 0) (R := PN EP.int) pn_ok rfl rfl) ?_
        refine EX.imp (Imp.swL 4 0 15 rfl rfl (lxr rfl)) ?_
        refine EX.imp (Imp.nam 16 17 (.slice none 0 0) (R := PN EP.int) pn_ok rfl rfl) ?_
        refine EX.imp (Imp.swL 5 0 16 rfl rfl (lxr rfl)) ?_
        have hE : s.mE g = 3 := by unfold Shop.mE; rw [hs]; exact if_pos hc3
        rw [show s.mAdd g = [] from by unfold Shop.mAdd; rw [hE]; rfl, show s.mNum g = [] from by unfold Shop.mNum; rw [hE]; rfl, hE]
        exact EX.fin (ren [(0, 15), (1, 16)]) (.inl rfl) rfl (.cell1 S44 rfl rfl (.cell1 S44 rfl rfl (.tmp rfl .nil))) rfl (by simp [SV.res, El.res, At.res, keys]) ⟨lxl rfl, lxl rfl, trivial⟩ (marks rfl) (by simp)
      · try simp only [decide_eq_true_eq, decide_eq_false_iff_not, Bool.and_eq_true, Bool.or_eq_true, Bool.and_eq_false_iff, Bool.or_eq_false_iff, Bool.not_eq_true', Bool.not_eq_false', ne_eq, Decidable.not_not] at hc3
        refine WP.skip ?_
        refine EX.then ?_
        refine WP.seq ?_
        refine WP.draw (nf := 15) [⟨[45], [], [], [], []⟩, ⟨[44], [4], [], [], []⟩, ⟨[45], [], [], [4], [0]⟩, ⟨[], [], [], [5], [0, 1, 2]⟩, ⟨[], [], [], [], [0, 1, 2, 3]⟩] (by kernel_rfl) (by kernel_rfl) ?_
        refine DRQ.v rfl rfl rfl (o_ldp S44 rfl rfl rfl) ?_
        refine DRQ.v rfl rfl rfl (o_ldp S44 rfl rfl rfl) ?_
        refine DRQ.s 4 rfl rfl rfl (o_sta S44 rfl rfl rfl (.inl ⟨_, (lx rfl), PL.one⟩) rfl) ?_
        refine DRQ.s 5 rfl rfl rfl (o_sta S44 rfl rfl rfl (.inl ⟨_, (lxz rfl), PL.one⟩) rfl) ?_
        refine DRQ.v rfl rfl rfl (o_assign rfl) ?_
        refine DRQ.nil' ?_
        refine EX.then ?_
        refine WP.ret ?_
        have hE : s.mE g = 0 := by unfold Shop.mE; rw [hs]; exact if_neg hc3
        rw [show s.mAdd g = (s.bestM g s.adL.length).1 from by unfold Shop.mAdd; rw [hE]; rfl, show s.mNum g = (s.bestM g s.adL.length).2 from by unfold Shop.mNum; rw [hE]; rfl, hE]
        exact EX.fin (ren [(0, 13), (1, 14)]) (.inl rfl) rfl (.cell1 S44 rfl rfl (.cell1 S44 rfl rfl (.tmp rfl .nil))) rfl (by simp [SV.res, El.res, At.res, keys]) ⟨(lx rfl), (lxz rfl), trivial⟩ (marks rfl) (by simp)
end Go.Flong
namespace Go.Flong
open Go Go.Eng Go.Proofs
theorem e116 : Enters' Try.prog 116 := Try.call116
theorem e121 : Enters' Try.prog 121 := Try.call121
theorem e120 : Enters' Try.prog 120 := Try.call120
theorem e114 : Enters' Try.prog 114 := Try.call114
theorem e113 : Enters' Try.prog 113 := Try.call113
theorem w67 {s : Shop} {add : List Int} : ∀ x ∈ ([.e (.g [ai (s.pounds), ai (s.tl), ai (s.th), ai (s.al), ai (s.ah), ai (s.room), ai (s.tpl), ai (s.tph), ai (s.apl), ai (s.aph), .q 0]), .e (.a (.q 1))] : List SV), x.res (keys (α := Pred) [(0, PL EPig (s.pigs)), (1, PL EP.int (add))]) := by simp [SV.res, El.res, At.res, keys]
theorem r67 {s : Shop} {add : List Int} : SV.res (keys (α := Pred) []) (.t [.a (ai (s.mSafe add)), .a (ai (opE s (isAdd s add)))]) := by simp [SV.res, El.res, At.res, keys]
set_option maxHeartbeats 4000000 in
theorem c67 (s : Shop) (add : List Int) (hl : s.pigs.length ≤ 40) : Sig Try.prog 67 [.e (.g [ai (s.pounds), ai (s.tl), ai (s.th), ai (s.al), ai (s.ah), ai (s.room), ai (s.tpl), ai (s.tph), ai (s.apl), ai (s.aph), .q 0]), .e (.a (.q 1))] [(0, PL EPig (s.pigs)), (1, PL EP.int (add))] (.t [.a (ai (s.mSafe add)), .a (ai (opE s (isAdd s add)))]) [] := by
  rcases Bool.eq_false_or_eq_true s.chk with hf | hf
  · skip
    refine Sig.intro Try.func67 rfl 2 [(0, .e (.g [ai (s.pounds), ai (s.tl), ai (s.th), ai (s.al), ai (s.ah), ai (s.room), ai (s.tpl), ai (s.tph), ai (s.apl), ai (s.aph), .q 0])), (1, .e (.a (.q 1)))] rfl w67 rfl rfl fun I w => ?_
    refine WP.seq ?_
    refine WP.region ?_
    refine WPl.l 2 3 rfl rfl rfl (o_boxg rfl) ?_
    refine WPl.l 3 4 rfl rfl rfl (o_boxa rfl (.inl ⟨_, (lx rfl), PL.one⟩)) ?_
    refine WPl.v rfl (o_assign rfl) ?_
    refine WPl.v rfl (o_assign rfl) ?_
    refine WPl.nil ?_
    refine EX.then ?_
    refine WP.seq ?_
    refine WP.region ?_
    refine WPl.v rfl (o_ldpa G28 rfl rfl rfl) ?_
    refine WPl.imp (Imp.frzb (E := EP.box (PL EP.int (add))) (y := ()) 3 4 5 rfl rfl (bok_box (lx rfl)) rfl rfl rfl) ?_
    refine WPl.x 5 6 rfl rfl rfl (o_mkfv (svs := [.e (.g [ai (s.pounds), ai (s.tl), ai (s.th), ai (s.al), ai (s.ah), ai (s.room), ai (s.tpl), ai (s.tph), ai (s.apl), ai (s.aph), .q 0])]) (X0 := [(0, PL EPig (s.pigs))]) (sv := .b ((isAdd s add))) (X := []) (cs := [.e (.a (.q 1))]) (Xc := [(1, PP (EP.box (PL EP.int (add))) ())]) 5 (ren [(1, 4)]) (c116 s add hf) e116 rfl rfl SvsOK.rf (by simp [SV.res, El.res, At.res, keys]) (by simp [SV.res, El.res, At.res, keys]) ⟨(lx rfl), trivial⟩) ?_
    refine WPl.cs 7 rfl rfl rfl rfl (o_sig 6 (ren [(0, 0), (1, 5)]) (c115C s (isAdd s add) hf) e115 rfl rfl rfl w115C ⟨(lx rfl), (lx rfl), trivial⟩ r115C) ?_
    refine WPl.v rfl (o_move rfl) ?_
    refine WPl.v rfl (o_extract rfl rfl) ?_
    refine WPl.v rfl (o_extract rfl rfl) ?_
    refine WPl.l 7 8 rfl rfl rfl (o_alloc Z139) ?_
    refine WPl.s1 (o_stag G139 rfl rfl rfl ⟨rfl, rfl, rfl, rfl, rfl, rfl, rfl, rfl, rfl, rfl, (.inl ⟨_, (lx rfl), PL.one⟩), trivial⟩ rfl rfl) ?_
    refine WPl.v rfl (o_assign rfl) ?_
    refine WPl.nil ?_
    refine EX.then ?_
    refine WP.seq ?_
    refine WP.seq ?_
    refine WP.region ?_
    refine WPl.v rfl (o_move rfl) ?_
    refine WPl.v rfl (o_neq rfl rfl) ?_
    refine WPl.nil ?_
    refine EX.then ?_
    refine WP.cond rfl (fun hc1 => ?_) (fun hc1 => ?_)
    · try simp only [decide_eq_true_eq, decide_eq_false_iff_not, Bool.and_eq_true, Bool.or_eq_true, Bool.and_eq_false_iff, Bool.or_eq_false_iff, Bool.not_eq_true', Bool.not_eq_false', ne_eq, Decidable.not_not] at hc1
      refine WP.seq ?_
      refine WP.region ?_
      refine WPl.v rfl (o_move rfl) ?_
      refine WPl.v rfl (o_assign rfl) ?_
      refine WPl.v rfl (o_assign rfl) ?_
      refine WPl.nil ?_
      refine EX.then ?_
      refine WP.ret ?_
      refine EX.ret_then ?_
      have hE : opE s (isAdd s add) = opV (isAdd s add) := opE_t hf _
      have hv : isAdd s add = false := opV_ne.1 (by simpa using hc1)
      rw [hE, show s.mSafe add = 0 from by unfold Shop.mSafe; rw [hE, hv]; rfl]
      exact EX.fin id (.inl rfl) rfl (.tmp rfl (.tmp rfl .nil)) rfl (by simp [SV.res, El.res, At.res, keys]) trivial (by simp) (by simp)
    · try simp only [decide_eq_true_eq, decide_eq_false_iff_not, Bool.and_eq_true, Bool.or_eq_true, Bool.and_eq_false_iff, Bool.or_eq_false_iff, Bool.not_eq_true', Bool.not_eq_false', ne_eq, Decidable.not_not] at hc1
      have hE : opE s (isAdd s add) = 0 := (opE_t hf _).trans (by simpa using hc1)
      have hv : isAdd s add = true := opV_eq.1 (by simpa using hc1)
      have hpg := Shop.pigsOK hf
      have had := isAddB hpg hv
      have hab := aft_bnd hf (by omega) had.2.2
      have htb := tl_bnd hf
      have hpb := hab
      unfold PoB at hpb
      refine WP.skip ?_
      refine EX.then ?_
      refine WP.seq ?_
      refine WP.region ?_
      refine WPl.v rfl (o_ldpa G139 rfl rfl rfl) ?_
      refine WPl.x 8 9 rfl rfl rfl (o_ldqx S44 rfl (lx rfl) boxx) ?_
      refine WPl.cs 9 rfl rfl rfl rfl (o_sig 9 (ren [(0, 6), (1, 8)]) (c118 s add hf (by omega) had.2.2) e118 rfl rfl rfl w118 ⟨(lx rfl), (lx rfl), trivial⟩ r118) ?_
      refine WPl.l 9 10 rfl rfl rfl (o_alloc Z25) ?_
      refine WPl.s1 (o_stag G25 rfl rfl rfl ⟨rfl, rfl, rfl, rfl, rfl, trivial⟩ rfl rfl) ?_
      refine WPl.nil ?_
      refine EX.then ?_
      refine WP.seq ?_
      refine WP.block ?_
      refine WP.seq ?_
      refine WP.region ?_
      refine WPl.v rfl (o_ldpa G139 rfl rfl rfl) ?_
      refine WPl.v rfl (o_ldpa G25 rfl rfl rfl) ?_
      refine WPl.cs 10 rfl rfl rfl rfl (o_sig 10 (ren [(0, 6)]) (c119 s (s.aft add) hf hab) e119 rfl rfl rfl w119 ⟨(lx rfl), trivial⟩ r119) ?_
      refine WPl.v rfl (o_assign rfl) ?_
      refine WPl.nil ?_
      refine EX.then ?_
      refine WP.cond rfl (fun hc2 => ?_) (fun hc2 => ?_)
      · try simp only [decide_eq_true_eq, decide_eq_false_iff_not, Bool.and_eq_true, Bool.or_eq_true, Bool.and_eq_false_iff, Bool.or_eq_false_iff, Bool.not_eq_true', Bool.not_eq_false', ne_eq, Decidable.not_not] at hc2
        refine WP.seq ?_
        refine WP.region ?_
        refine WPl.v rfl (o_assign rfl) ?_
        refine WPl.v rfl (o_assign rfl) ?_
        refine WPl.nil ?_
        refine EX.then ?_
        refine WP.ret ?_
        refine EX.ret_blk ?_
        refine EX.ret_then ?_
        rw [hE, show s.mSafe add = 1 from by unfold Shop.mSafe; rw [hE]; rw [if_pos rfl]; exact if_pos hc2]
        exact EX.fin id (.inl rfl) rfl (.tmp rfl (.tmp rfl .nil)) rfl (by simp [SV.res, El.res, At.res, keys]) trivial (by simp) (by simp)
      · try simp only [decide_eq_true_eq, decide_eq_false_iff_not, Bool.and_eq_true, Bool.or_eq_true, Bool.and_eq_false_iff, Bool.or_eq_false_iff, Bool.not_eq_true', Bool.not_eq_false', ne_eq, Decidable.not_not] at hc2
        refine WP.seq ?_
        refine WP.imp (Imp.bit 10 11 (!(!(decide (max ((s.aft add).tl) (justL s.tpl ((s.aft add).pounds)) ≤ min ((s.aft add).th) (justH s.tph ((s.aft add).pounds)))))) rfl rfl) ?_
        refine WP.draw (nf := 11) [⟨[28, 29, 30, 31, 32, 33], [], [], [], []⟩, ⟨[28, 29, 30, 31, 32, 33], [], [], [], [0]⟩, ⟨[26, 27, 31, 32], [], [], [], []⟩, ⟨[26, 27, 31, 32], [], [], [], [2]⟩, ⟨[26, 27, 31, 32], [], [], [], [2, 3]⟩, ⟨[26, 27, 28, 29, 30], [], [], [], []⟩, ⟨[26, 27, 28, 29, 30], [], [], [], [5]⟩, ⟨[26, 27], [], [], [], [2, 3, 4, 5, 6]⟩, ⟨[], [], [], [], [0, 1, 2, 3, 4, 5, 6, 7]⟩, ⟨[], [], [], [], [0, 1, 2, 3, 4, 5, 6, 7, 8]⟩, ⟨[], [], [], [], [0, 1, 2, 3, 4, 5, 6, 7, 8, 9]⟩, ⟨[39, 40, 41, 42, 43, 44], [], [], [], [0, 1, 2, 3, 4, 5, 6, 7, 8, 9, 10]⟩, ⟨[39, 40, 41, 42, 43, 44], [], [], [], [0, 1, 2, 3, 4, 5, 6, 7, 8, 9, 10, 11]⟩, ⟨[37, 38, 42, 43], [], [], [], [0, 1, 2, 3, 4, 5, 6, 7, 8, 9, 10]⟩, ⟨[37, 38, 42, 43], [], [], [], [0, 1, 2, 3, 4, 5, 6, 7, 8, 9, 10, 13]⟩, ⟨[37, 38, 42, 43], [], [], [], [0, 1, 2, 3, 4, 5, 6, 7, 8, 9, 10, 13, 14]⟩, ⟨[37, 38, 39, 40, 41], [], [], [], [0, 1, 2, 3, 4, 5, 6, 7, 8, 9, 10]⟩, ⟨[37, 38, 39, 40, 41], [], [], [], [0, 1, 2, 3, 4, 5, 6, 7, 8, 9, 10, 16]⟩, ⟨[37, 38], [], [], [], [0, 1, 2, 3, 4, 5, 6, 7, 8, 9, 10, 13, 14, 15, 16, 17]⟩, ⟨[], [], [], [], [0, 1, 2, 3, 4, 5, 6, 7, 8, 9, 10, 11, 12, 13, 14, 15, 16, 17, 18]⟩, ⟨[], [], [], [], [0, 1, 2, 3, 4, 5, 6, 7, 8, 9, 10, 11, 12, 13, 14, 15, 16, 17, 18, 19]⟩, ⟨[], [], [], [], [0, 1, 2, 3, 4, 5, 6, 7, 8, 9, 10, 11, 12, 13, 14, 15, 16, 17, 18, 19, 20]⟩, ⟨[], [], [], [], [0, 1, 2, 3, 4, 5, 6, 7, 8, 9, 10, 11, 12, 13, 14, 15, 16, 17, 18, 19, 20, 21]⟩] (by kernel_rfl) (by kernel_rfl) ?_
        refine DRQ.v rfl rfl rfl (o_fldp F25_1 rfl) ?_
        refine DRQ.v rfl rfl rfl (o_ldpg G23 rfl rfl rfl) ?_
        refine DRQ.v rfl rfl rfl (o_fldp F139_0 rfl) ?_
        refine DRQ.v rfl rfl rfl (o_fldp F28_2 rfl) ?_
        refine DRQ.v rfl rfl rfl (o_ldpg G23 rfl rfl rfl) ?_
        refine DRQ.v rfl rfl rfl (o_fldp F25_0 rfl) ?_
        refine DRQ.v rfl rfl rfl (o_ldp S3 rfl rfl rfl) ?_
        refine DRQ.cs rfl rfl rfl rfl (o_sig 11 id (c121 s.tpl s.tph ((s.aft add).pounds) (by omega) (by omega) (by omega)) e121 rfl rfl rfl w121 trivial r121) ?_
        refine DRQ.cs rfl rfl rfl rfl (o_sig 11 id (c120 ((s.aft add).tl) ((s.aft add).th) (justL s.tpl ((s.aft add).pounds)) (justH s.tph ((s.aft add).pounds))) e120 rfl rfl rfl w120 trivial r120) ?_
        refine DRQ.v rfl rfl rfl (o_not rfl) ?_
        refine DRQ.v rfl rfl rfl (o_move rfl) ?_
        refine DRQ.gv 10 rfl rfl (.plain rfl (by simp) rfl) rfl (fun hb => o_fldp F25_2 rfl) ?_
        refine DRQ.gv 10 rfl rfl (.plain rfl (by simp) rfl) rfl (fun hb => o_ldpg G23 rfl rfl rfl) ?_
        refine DRQ.gv 10 rfl rfl (.plain rfl (by simp) rfl) rfl (fun hb => o_fldp F139_0 rfl) ?_
        refine DRQ.gv 10 rfl rfl (.plain rfl (by simp) rfl) rfl (fun hb => o_fldp F28_3 rfl) ?_
        refine DRQ.gv 10 rfl rfl (.plain rfl (by simp) rfl) rfl (fun hb => o_ldpg G23 rfl rfl rfl) ?_
        refine DRQ.gv 10 rfl rfl (.plain rfl (by simp) rfl) rfl (fun hb => o_fldp F25_0 rfl) ?_
        refine DRQ.gv 10 rfl rfl (.plain rfl (by simp) rfl) rfl (fun hb => o_ldp S3 rfl rfl rfl) ?_
        refine DRQ.gv 10 rfl rfl (.plain rfl (by simp) rfl) rfl (fun hb => o_sig 11 id (c121 s.apl s.aph ((s.aft add).pounds) (by omega) (by omega) (by omega)) e121 rfl rfl rfl w121 trivial r121) ?_
        refine DRQ.gv 10 rfl rfl (.plain rfl (by simp) rfl) rfl (fun hb => o_sig 11 id (c120 ((s.aft add).al) ((s.aft add).ah) (justL s.apl ((s.aft add).pounds)) (justH s.aph ((s.aft add).pounds))) e120 rfl rfl rfl w120 trivial r120) ?_
        refine DRQ.gv 10 rfl rfl (.plain rfl (by simp) rfl) rfl (fun hb => o_not rfl) ?_
        refine DRQ.v rfl rfl rfl (o_or rfl rfl rfl (by first | (simp; done) | simp_all)) ?_
        refine DRQ.v rfl rfl rfl (o_assign rfl) ?_
        refine DRQ.nil' ?_
        refine EX.then ?_
        refine WP.cond rfl (fun hc3 => ?_) (fun hc3 => ?_)
        · try simp only [decide_eq_true_eq, decide_eq_false_iff_not, Bool.and_eq_true, Bool.or_eq_true, Bool.and_eq_false_iff, Bool.or_eq_false_iff, Bool.not_eq_true', Bool.not_eq_false', ne_eq, Decidable.not_not] at hc3
          refine WP.seq ?_
          refine WP.region ?_
          refine WPl.v rfl (o_assign rfl) ?_
          refine WPl.v rfl (o_assign rfl) ?_
          refine WPl.nil ?_
          refine EX.then ?_
          refine WP.ret ?_
          refine EX.ret_blk ?_
          refine EX.ret_then ?_
          rw [hE, show s.mSafe add = 2 from by unfold Shop.mSafe; rw [hE]; rw [if_pos rfl, if_neg (by rw [hc2]; simp), if_neg (by rw [Bool.not_eq_true]; simp only [Shop.canM, Bool.and_eq_false_iff, decide_eq_false_iff_not]; exact hc3)]]
          exact EX.fin id (.inl rfl) rfl (.tmp rfl (.tmp rfl .nil)) rfl (by simp [SV.res, El.res, At.res, keys]) trivial (by simp) (by simp)
        · try simp only [decide_eq_true_eq, decide_eq_false_iff_not, Bool.and_eq_true, Bool.or_eq_true, Bool.and_eq_false_iff, Bool.or_eq_false_iff, Bool.not_eq_true', Bool.not_eq_false', ne_eq, Decidable.not_not] at hc3
          refine WP.skip ?_
          refine EX.blk ?_
          refine EX.then ?_
          refine WP.seq ?_
          refine WP.region ?_
          refine WPl.v rfl (o_assign rfl) ?_
          refine WPl.v rfl (o_assign rfl) ?_
          refine WPl.nil ?_
          refine EX.then ?_
          refine WP.ret ?_
          rw [hE, show s.mSafe add = 3 from by unfold Shop.mSafe; rw [hE]; rw [if_pos rfl, if_neg (by rw [hc2]; simp), if_pos (by simp only [Shop.canM, Bool.and_eq_true, decide_eq_true_eq]; exact hc3)]]
          exact EX.fin id (.inl rfl) rfl (.tmp rfl (.tmp rfl .nil)) rfl (by simp [SV.res, El.res, At.res, keys]) trivial (by simp) (by simp)
  · skip
    refine Sig.intro Try.func67 rfl 2 [(0, .e (.g [ai (s.pounds), ai (s.tl), ai (s.th), ai (s.al), ai (s.ah), ai (s.room), ai (s.tpl), ai (s.tph), ai (s.apl), ai (s.aph), .q 0])), (1, .e (.a (.q 1)))] rfl w67 rfl rfl fun I w => ?_
    refine WP.seq ?_
    refine WP.region ?_
    refine WPl.l 2 3 rfl rfl rfl (o_boxg rfl) ?_
    refine WPl.l 3 4 rfl rfl rfl (o_boxa rfl (.inl ⟨_, (lx rfl), PL.one⟩)) ?_
    refine WPl.v rfl (o_assign rfl) ?_
    refine WPl.v rfl (o_assign rfl) ?_
    refine WPl.nil ?_
    refine EX.then ?_
    refine WP.seq ?_
    refine WP.region ?_
    refine WPl.v rfl (o_ldpa G28 rfl rfl rfl) ?_
    refine WPl.imp (Imp.frzb (E := EP.box (PL EP.int (add))) (y := ()) 3 4 5 rfl rfl (bok_box (lx rfl)) rfl rfl rfl) ?_
    refine WPl.x 5 6 rfl rfl rfl (o_mkfn0 5 rfl) ?_
    refine WPl.cs 7 rfl rfl rfl rfl (o_sig 6 (ren [(0, 0), (1, 5)]) (c115CE s hf hl) e115 rfl rfl rfl w115CE ⟨(lx rfl), (lx rfl), trivial⟩ r115CE) ?_
    refine WPl.v rfl (o_move rfl) ?_
    refine WPl.v rfl (o_extract rfl rfl) ?_
    refine WPl.v rfl (o_extract rfl rfl) ?_
    refine WPl.l 7 8 rfl rfl rfl (o_alloc Z139) ?_
    refine WPl.s1 (o_stag G139 rfl rfl rfl ⟨rfl, rfl, rfl, rfl, rfl, rfl, rfl, rfl, rfl, rfl, (.inl ⟨_, (lx rfl), PL.one⟩), trivial⟩ rfl rfl) ?_
    refine WPl.v rfl (o_assign rfl) ?_
    refine WPl.nil ?_
    refine EX.then ?_
    refine WP.seq ?_
    refine WP.seq ?_
    refine WP.region ?_
    refine WPl.v rfl (o_move rfl) ?_
    refine WPl.v rfl (o_neq rfl rfl) ?_
    refine WPl.nil ?_
    refine EX.then ?_
    refine WP.cond rfl (fun hc1 => ?_) (fun hc1 => ?_)
    · try simp only [decide_eq_true_eq, decide_eq_false_iff_not, Bool.and_eq_true, Bool.or_eq_true, Bool.and_eq_false_iff, Bool.or_eq_false_iff, Bool.not_eq_true', Bool.not_eq_false', ne_eq, Decidable.not_not] at hc1
      refine WP.seq ?_
      refine WP.region ?_
      refine WPl.v rfl (o_move rfl) ?_
      refine WPl.v rfl (o_assign rfl) ?_
      refine WPl.v rfl (o_assign rfl) ?_
      refine WPl.nil ?_
      refine EX.then ?_
      refine WP.ret ?_
      refine EX.ret_then ?_
      have hE : opE s (isAdd s add) = 10 := opE_f hf _
      rw [hE, show s.mSafe add = 0 from by unfold Shop.mSafe; rw [hE]; rfl]
      exact EX.fin id (.inl rfl) rfl (.tmp rfl (.tmp rfl .nil)) rfl (by simp [SV.res, El.res, At.res, keys]) trivial (by simp) (by simp)
    · try simp only [decide_eq_true_eq, decide_eq_false_iff_not, Bool.and_eq_true, Bool.or_eq_true, Bool.and_eq_false_iff, Bool.or_eq_false_iff, Bool.not_eq_true', Bool.not_eq_false', ne_eq, Decidable.not_not] at hc1
      simp at hc1
theorem w113E {s : Shop} : ∀ x ∈ ([.e (.g [ai (s.pounds), ai (s.tl), ai (s.th), ai (s.al), ai (s.ah), ai (s.room), ai (s.tpl), ai (s.tph), ai (s.apl), ai (s.aph), .q 0]), .e (.a (.q 1))] : List SV), x.res (keys (α := Pred) [(0, PL EPig (s.pigs)), (1, Pred.fn)]) := by simp [SV.res, El.res, At.res, keys]
theorem r113E  : SV.res (keys (α := Pred) [(0, PL EP.int ([])), (1, PL EP.int ([]))]) (.t [.a (.q 0), .a (.q 1), .a (ai (10))]) := by simp [SV.res, El.res, At.res, keys]
set_option maxHeartbeats 4000000 in
theorem c113E (s : Shop) (hl : s.pigs.length ≤ 40) (hf : s.chk = false) : Sig Try.prog 113 [.e (.g [ai (s.pounds), ai (s.tl), ai (s.th), ai (s.al), ai (s.ah), ai (s.room), ai (s.tpl), ai (s.tph), ai (s.apl), ai (s.aph), .q 0]), .e (.a (.q 1))] [(0, PL EPig (s.pigs)), (1, Pred.fn)] (.t [.a (.q 0), .a (.q 1), .a (ai (10))]) [(0, PL EP.int ([])), (1, PL EP.int ([]))] := by
  have hch : errM s.chk = 10 := by simp [hf, errM]
  refine Sig.intro Try.func113 rfl 2 [(0, .e (.g [ai (s.pounds), ai (s.tl), ai (s.th), ai (s.al), ai (s.ah), ai (s.room), ai (s.tpl), ai (s.tph), ai (s.apl), ai (s.aph), .q 0])), (1, .e (.a (.q 1)))] rfl w113E rfl rfl fun I w => ?_
  refine WP.seq ?_
  refine WP.region ?_
  refine WPl.l 2 3 rfl rfl rfl (o_boxg rfl) ?_
  refine WPl.l 3 4 rfl rfl rfl (o_boxa rfl (.inl ⟨_, (lx rfl), (fun _ _ ⟨_, _, _, h⟩ => by subst h; rfl)⟩)) ?_
  refine WPl.l 4 5 rfl rfl rfl (o_alloc Z44) ?_
  refine WPl.l 5 6 rfl rfl rfl (o_alloc Z44) ?_
  refine WPl.v rfl (o_assign rfl) ?_
  refine WPl.nil ?_
  refine EX.then ?_
  refine WP.seq ?_
  refine WP.region ?_
  refine WPl.v rfl (o_ldpa G28 rfl rfl rfl) ?_
  refine WPl.cs 7 rfl rfl rfl rfl (o_sig 6 (ren [(0, 0)]) (c115N s hl) e115 rfl rfl rfl w115N ⟨(lx rfl), trivial⟩ r115N) ?_
  refine WPl.v rfl (o_move rfl) ?_
  refine WPl.v rfl (o_extract rfl rfl) ?_
  refine WPl.v rfl (o_extract rfl rfl) ?_
  refine WPl.l 7 8 rfl rfl rfl (o_alloc Z139) ?_
  refine WPl.s1 (o_stag G139 rfl rfl rfl ⟨rfl, rfl, rfl, rfl, rfl, rfl, rfl, rfl, rfl, rfl, (.inl ⟨_, (lx rfl), PL.one⟩), trivial⟩ rfl rfl) ?_
  refine WPl.v rfl (o_assign rfl) ?_
  refine WPl.nil ?_
  refine EX.then ?_
  refine WP.seq ?_
  refine WP.seq ?_
  refine WP.region ?_
  refine WPl.v rfl (o_move rfl) ?_
  refine WPl.v rfl (o_neq rfl rfl) ?_
  refine WPl.nil ?_
  refine EX.then ?_
  refine WP.cond rfl (fun hc1 => ?_) (fun hc1 => ?_)
  · try simp only [decide_eq_true_eq, decide_eq_false_iff_not, Bool.and_eq_true, Bool.or_eq_true, Bool.and_eq_false_iff, Bool.or_eq_false_iff, Bool.not_eq_true', Bool.not_eq_false', ne_eq, Decidable.not_not] at hc1
    refine WP.seq ?_
    refine WP.region ?_
    refine WPl.v rfl (o_move rfl) ?_
    refine WPl.s1 (o_sta S44 rfl rfl rfl rfl rfl) ?_
    refine WPl.s1 (o_sta S44 rfl rfl rfl rfl rfl) ?_
    refine WPl.v rfl (o_assign rfl) ?_
    refine WPl.nil ?_
    refine EX.then ?_
    refine WP.ret ?_
    refine EX.ret_then ?_
    refine EX.imp (Imp.nam 8 9 (.slice none 0 0) (R := PN EP.int) pn_ok rfl rfl) ?_
    refine EX.imp (Imp.swL 4 0 8 rfl rfl (lxr rfl)) ?_
    refine EX.imp (Imp.nam 9 10 (.slice none 0 0) (R := PN EP.int) pn_ok rfl rfl) ?_
    refine EX.imp (Imp.swL 5 0 9 rfl rfl (lxr rfl)) ?_
    rw [hch]
    exact EX.fin (ren [(0, 8), (1, 9)]) (.inl rfl) rfl (.cell1 S44 rfl rfl (.cell1 S44 rfl rfl (.tmp rfl .nil))) rfl (by simp [SV.res, El.res, At.res, keys]) ⟨lxl rfl, lxl rfl, trivial⟩ (by simp) (by simp)
  · try simp only [decide_eq_true_eq, decide_eq_false_iff_not, Bool.and_eq_true, Bool.or_eq_true, Bool.and_eq_false_iff, Bool.or_eq_false_iff, Bool.not_eq_true', Bool.not_eq_false', ne_eq, Decidable.not_not] at hc1
    simp [hch] at hc1
theorem w65 {s : Shop} : ∀ x ∈ ([.e (.g [ai (s.pounds), ai (s.tl), ai (s.th), ai (s.al), ai (s.ah), ai (s.room), ai (s.tpl), ai (s.tph), ai (s.apl), ai (s.aph), .q 0])] : List SV), x.res (keys (α := Pred) [(0, PL EPig (s.pigs))]) := by simp [SV.res, El.res, At.res, keys]
theorem r65 {s : Shop} : SV.res (keys (α := Pred) []) (.t [.a (ai (s.mCheap)), .a (ai (s.mE (priceG s)))]) := by simp [SV.res, El.res, At.res, keys]
set_option maxHeartbeats 4000000 in
theorem c65 (s : Shop) (hl : s.pigs.length ≤ 40) : Sig Try.prog 65 [.e (.g [ai (s.pounds), ai (s.tl), ai (s.th), ai (s.al), ai (s.ah), ai (s.room), ai (s.tpl), ai (s.tph), ai (s.apl), ai (s.aph), .q 0])] [(0, PL EPig (s.pigs))] (.t [.a (ai (s.mCheap)), .a (ai (s.mE (priceG s)))]) [] := by
  rcases Bool.eq_false_or_eq_true s.chk with hf | hf
  · skip
    refine Sig.intro Try.func65 rfl 1 [(0, .e (.g [ai (s.pounds), ai (s.tl), ai (s.th), ai (s.al), ai (s.ah), ai (s.room), ai (s.tpl), ai (s.tph), ai (s.apl), ai (s.aph), .q 0]))] rfl w65 rfl rfl fun I w => ?_
    refine WP.seq ?_
    refine WP.region ?_
    refine WPl.l 1 2 rfl rfl rfl (o_boxg rfl) ?_
    refine WPl.v rfl (o_assign rfl) ?_
    refine WPl.v rfl (o_assign rfl) ?_
    refine WPl.nil ?_
    refine EX.then ?_
    refine WP.seq ?_
    refine WP.region ?_
    refine WPl.v rfl (o_ldpa G28 rfl rfl rfl) ?_
    refine WPl.imp (Imp.nam 2 3 (.func (.func 114) #[] #[]) (R := (OfM s (priceG s)).and (Pred.is (.func (.func 114) #[] #[]))) (fun I => FvP.namea (fun (x : AdL s) => (c114 s x hf)) e114 (fun _ => (by simp [SV.res, El.res, At.res, keys])) I) rfl rfl) ?_
    refine WPl.cs 5 rfl rfl rfl rfl (o_sigc 3 (ren [(0, 0), (1, 2)]) (c113 s (priceG s) hl (price_ok s) (fun h => by rw [hf] at h; cases h)) e113 rfl rfl ⟨.inl rfl, .inr ⟨_, _, rfl, fun _ => rfl, (lxr rfl)⟩, trivial⟩ w113 ⟨(lx rfl), (lxl rfl), trivial⟩ r113) ?_
    refine WPl.v rfl (o_move rfl) ?_
    refine WPl.v rfl (o_extract rfl rfl) ?_
    refine WPl.v rfl (o_extract rfl rfl) ?_
    refine WPl.v rfl (o_extract rfl rfl) ?_
    refine WPl.v rfl (o_assign rfl) ?_
    refine WPl.v rfl (o_assign rfl) ?_
    refine WPl.v rfl (o_assign rfl) ?_
    refine WPl.nil ?_
    refine EX.then ?_
    refine WP.seq ?_
    refine WP.seq ?_
    refine WP.region ?_
    refine WPl.v rfl (o_move rfl) ?_
    refine WPl.v rfl (o_neq rfl rfl) ?_
    refine WPl.nil ?_
    refine EX.then ?_
    refine WP.cond rfl (fun hc1 => ?_) (fun hc1 => ?_)
    · try simp only [decide_eq_true_eq, decide_eq_false_iff_not, Bool.and_eq_true, Bool.or_eq_true, Bool.and_eq_false_iff, Bool.or_eq_false_iff, Bool.not_eq_true', Bool.not_eq_false', ne_eq, Decidable.not_not] at hc1
      refine WP.seq ?_
      refine WP.region ?_
      refine WPl.v rfl (o_move rfl) ?_
      refine WPl.v rfl (o_assign rfl) ?_
      refine WPl.v rfl (o_assign rfl) ?_
      refine WPl.nil ?_
      refine EX.then ?_
      refine WP.ret ?_
      refine EX.ret_then ?_
      rw [show s.mCheap = 0 from if_neg hc1]
      exact EX.fin id (.inl rfl) rfl (.tmp rfl (.tmp rfl .nil)) rfl (by simp [SV.res, El.res, At.res, keys]) trivial (by simp) (by simp)
    · try simp only [decide_eq_true_eq, decide_eq_false_iff_not, Bool.and_eq_true, Bool.or_eq_true, Bool.and_eq_false_iff, Bool.or_eq_false_iff, Bool.not_eq_true', Bool.not_eq_false', ne_eq, Decidable.not_not] at hc1
      have hm := mE_eq (by simpa using hc1)
      refine WP.skip ?_
      refine EX.then ?_
      refine WP.seq ?_
      refine WP.region ?_
      refine WPl.v rfl (o_move rfl) ?_
      refine WPl.x 5 6 rfl rfl rfl (o_idx L44 rfl (lx rfl) rfl (by first | omega | (simp; omega)) (by first | omega | (simp; omega))) ?_
      refine WPl.v rfl (o_ldq S3 rfl (lx rfl) intc) ?_
      refine WPl.v rfl (o_assign rfl) ?_
      refine WPl.v rfl (o_assign rfl) ?_
      refine WPl.nil ?_
      refine EX.then ?_
      refine WP.ret ?_
      rw [show s.mCheap = nth (s.mNum (priceG s)) 0 from if_pos (by simpa using hc1), show s.mE (priceG s) = 0 from by simpa using hc1]
      exact EX.fin id (.inl rfl) rfl (.tmp rfl (.tmp rfl .nil)) rfl (by simp [SV.res, El.res, At.res, keys]) trivial (by simp) (by simp)
  · skip
    refine Sig.intro Try.func65 rfl 1 [(0, .e (.g [ai (s.pounds), ai (s.tl), ai (s.th), ai (s.al), ai (s.ah), ai (s.room), ai (s.tpl), ai (s.tph), ai (s.apl), ai (s.aph), .q 0]))] rfl w65 rfl rfl fun I w => ?_
    refine WP.seq ?_
    refine WP.region ?_
    refine WPl.l 1 2 rfl rfl rfl (o_boxg rfl) ?_
    refine WPl.v rfl (o_assign rfl) ?_
    refine WPl.v rfl (o_assign rfl) ?_
    refine WPl.nil ?_
    refine EX.then ?_
    refine WP.seq ?_
    refine WP.region ?_
    refine WPl.v rfl (o_ldpa G28 rfl rfl rfl) ?_
    refine WPl.imp (Imp.nam 2 3 (.func (.func 114) #[] #[]) (R := Pred.fn.and (Pred.is (.func (.func 114) #[] #[]))) (fun _ => ⟨⟨_, _, _, rfl⟩, rfl⟩) rfl rfl) ?_
    refine WPl.cs 5 rfl rfl rfl rfl (o_sigc 3 (ren [(0, 0), (1, 2)]) (c113E s hl hf) e113 rfl rfl ⟨.inl rfl, .inr ⟨_, _, rfl, fun _ => rfl, (lxr rfl)⟩, trivial⟩ w113E ⟨(lx rfl), (lxl rfl), trivial⟩ r113E) ?_
    refine WPl.v rfl (o_move rfl) ?_
    refine WPl.v rfl (o_extract rfl rfl) ?_
    refine WPl.v rfl (o_extract rfl rfl) ?_
    refine WPl.v rfl (o_extract rfl rfl) ?_
    refine WPl.v rfl (o_assign rfl) ?_
    refine WPl.v rfl (o_assign rfl) ?_
    refine WPl.v rfl (o_assign rfl) ?_
    refine WPl.nil ?_
    refine EX.then ?_
    refine WP.seq ?_
    refine WP.seq ?_
    refine WP.region ?_
    refine WPl.v rfl (o_move rfl) ?_
    refine WPl.v rfl (o_neq rfl rfl) ?_
    refine WPl.nil ?_
    refine EX.then ?_
    refine WP.cond rfl (fun hc1 => ?_) (fun hc1 => ?_)
    · try simp only [decide_eq_true_eq, decide_eq_false_iff_not, Bool.and_eq_true, Bool.or_eq_true, Bool.and_eq_false_iff, Bool.or_eq_false_iff, Bool.not_eq_true', Bool.not_eq_false', ne_eq, Decidable.not_not] at hc1
      refine WP.seq ?_
      refine WP.region ?_
      refine WPl.v rfl (o_move rfl) ?_
      refine WPl.v rfl (o_assign rfl) ?_
      refine WPl.v rfl (o_assign rfl) ?_
      refine WPl.nil ?_
      refine EX.then ?_
      refine WP.ret ?_
      refine EX.ret_then ?_
      have hE : s.mE (priceG s) = 10 := by unfold Shop.mE; rw [hf]; rfl
      rw [hE, show s.mCheap = 0 from by unfold Shop.mCheap; rw [hE]; rfl]
      exact EX.fin id (.inl rfl) rfl (.tmp rfl (.tmp rfl .nil)) rfl (by simp [SV.res, El.res, At.res, keys]) trivial (by simp) (by simp)
    · try simp only [decide_eq_true_eq, decide_eq_false_iff_not, Bool.and_eq_true, Bool.or_eq_true, Bool.and_eq_false_iff, Bool.or_eq_false_iff, Bool.not_eq_true', Bool.not_eq_false', ne_eq, Decidable.not_not] at hc1
      simp at hc1
end Go.Flong
namespace Go.Flong
open Go Go.Eng Go.Proofs
theorem e32 : Enters' Try.prog 32 := Try.call32
theorem e16 : Enters' Try.prog 16 := Try.call16
theorem e65 : Enters' Try.prog 65 := Try.call65
theorem e66 : Enters' Try.prog 66 := Try.call66
theorem e67 : Enters' Try.prog 67 := Try.call67
theorem w12 {f : Fnd} {add : List Int} : ∀ x ∈ ([.e (.g [ai (f.shop.pounds), ai (f.shop.tl), ai (f.shop.th), ai (f.shop.al), ai (f.shop.ah), ai (f.shop.room), ai (f.shop.tpl), ai (f.shop.tph), ai (f.shop.apl), ai (f.shop.aph), .q 0, .q 1]), .e (.a (.q 2))] : List SV), x.res (keys (α := Pred) [(0, PL EPig (f.shop.pigs)), (1, PL ENight (f.nights)), (2, PL EP.int (add))]) := by simp [SV.res, El.res, At.res, keys]
theorem r12  : SV.res (keys (α := Pred) []) (.b (true)) := by simp [SV.res, El.res, At.res, keys]
set_option maxHeartbeats 4000000 in
theorem c12 (f : Fnd) (add : List Int) (hlaw : f.chk = true → 0 < f.nights.length → CalmLaw f add) : Sig Try.prog 12 [.e (.g [ai (f.shop.pounds), ai (f.shop.tl), ai (f.shop.th), ai (f.shop.al), ai (f.shop.ah), ai (f.shop.room), ai (f.shop.tpl), ai (f.shop.tph), ai (f.shop.apl), ai (f.shop.aph), .q 0, .q 1]), .e (.a (.q 2))] [(0, PL EPig (f.shop.pigs)), (1, PL ENight (f.nights)), (2, PL EP.int (add))] (.b (true)) [] := by
  refine Sig.intro Try.func12 rfl 3 [(0, .e (.g [ai (f.shop.pounds), ai (f.shop.tl), ai (f.shop.th), ai (f.shop.al), ai (f.shop.ah), ai (f.shop.room), ai (f.shop.tpl), ai (f.shop.tph), ai (f.shop.apl), ai (f.shop.aph), .q 0, .q 1])), (1, .e (.a (.q 2)))] rfl w12 rfl rfl fun I w => ?_
  refine WP.seq ?_
  refine WP.region ?_
  refine WPl.l 3 4 rfl rfl rfl (o_boxg rfl) ?_
  refine WPl.v rfl (o_assign rfl) ?_
  refine WPl.nil ?_
  refine EX.then ?_
  refine WP.seq ?_
  refine WP.seq ?_
  refine WP.region ?_
  refine WPl.v rfl (o_ldpa G31 rfl rfl rfl) ?_
  refine WPl.cs 4 rfl rfl rfl rfl (o_sig 4 (ren [(0, 0), (1, 1)]) (c32 f) e32 rfl rfl rfl w32 ⟨(lx rfl), (lx rfl), trivial⟩ r32) ?_
  refine WPl.v rfl (o_not rfl) ?_
  refine WPl.v rfl (o_move rfl) ?_
  refine WPl.bit 4 5 (!(!f.rdy)) rfl rfl ?_
  refine WPl.gv 4 rfl rfl (.plain rfl (by simp) rfl) (fun hb => o_fldp F31_1 rfl) ?_
  refine WPl.gv 4 rfl rfl (.plain rfl (by simp) rfl) (fun hb => o_ldp S29 rfl rfl rfl) ?_
  refine WPl.gv 4 rfl rfl (.plain rfl (by simp) rfl) (fun hb => o_lenq L29 rfl (lx rfl)) ?_
  refine WPl.gv 4 rfl rfl (.plain rfl (by simp) rfl) (fun hb => o_eql rfl rfl) ?_
  refine WPl.v rfl (o_or rfl rfl rfl (by first | (simp; done) | simp_all)) ?_
  refine WPl.v rfl (o_move rfl) ?_
  refine WPl.bit 5 6 (!((!f.rdy) || (decide ((f.nights.length : Int) = 0)))) rfl rfl ?_
  refine WPl.gv 5 rfl rfl (.plain rfl (by simp) rfl) (fun hb => o_move rfl) ?_
  refine WPl.gv 5 rfl rfl (.plain rfl (by simp) rfl) (fun hb => o_lenq L44 rfl (lx rfl)) ?_
  refine WPl.gv 5 rfl rfl (.plain rfl (by simp) rfl) (fun hb => o_gtr rfl rfl) ?_
  refine WPl.v rfl (o_or rfl rfl rfl (by first | (simp; done) | simp_all)) ?_
  refine WPl.nil ?_
  refine EX.then ?_
  refine WP.cond rfl (fun hc1 => ?_) (fun hc1 => ?_)
  · try simp only [decide_eq_true_eq, decide_eq_false_iff_not, Bool.and_eq_true, Bool.or_eq_true, Bool.and_eq_false_iff, Bool.or_eq_false_iff, Bool.not_eq_true', Bool.not_eq_false', ne_eq, Decidable.not_not] at hc1
    refine WP.seq ?_
    refine WP.region ?_
    refine WPl.cs 6 rfl rfl rfl rfl (o_sig 6 id c16 e16 rfl rfl rfl w16 trivial r16) ?_
    refine WPl.v rfl (o_assign rfl) ?_
    refine WPl.nil ?_
    refine EX.then ?_
    refine WP.ret ?_
    refine EX.ret_then ?_
    exact EX.fin id (.inl rfl) rfl (.tmp rfl .nil) rfl r12 trivial (by simp) (by simp)
  · try simp only [decide_eq_true_eq, decide_eq_false_iff_not, Bool.and_eq_true, Bool.or_eq_true, Bool.and_eq_false_iff, Bool.or_eq_false_iff, Bool.not_eq_true', Bool.not_eq_false', ne_eq, Decidable.not_not] at hc1
    obtain ⟨⟨hr1, hr2⟩, hr3⟩ := hc1
    have hrd := rdy_parts hr1
    have hf := hrd.2
    have hcb := Fnd.chkB hf
    have law := hlaw hf (by omega)
    have htb := tl_bnd (Fnd.shopOK hf)
    have hpg := Shop.pigsOK (Fnd.shopOK hf)
    have hcl := calmTo_len f.nights
    refine WP.skip ?_
    refine EX.then ?_
    refine WP.seq ?_
    refine WP.region ?_
    refine WPl.v rfl (o_ldpa G31 rfl rfl rfl) ?_
    refine WPl.cL 8 rfl rfl rfl rfl rfl (o_sigo 6 (ren [(0, 0), (1, 1)]) (c17O f (by omega) (by omega)) e17 rfl rfl SvsOK.rf w17O ⟨(lx rfl), (lx rfl), trivial⟩ r17O rfl rfl) ?_
    refine WPl.l 8 9 rfl rfl rfl (o_alloc Z31) ?_
    refine WPl.s1 (o_stag G31 rfl rfl rfl ⟨rfl, rfl, rfl, rfl, rfl, rfl, rfl, rfl, rfl, rfl, (.inr ⟨_, _, _, _, rfl⟩), (.inr ⟨_, _, _, _, rfl⟩), trivial⟩ rfl rfl) ?_
    refine WPl.nil ?_
    refine EX.then ?_
    refine WP.seq ?_
    refine WP.region ?_
    refine WPl.v rfl (o_assign rfl) ?_
    refine WPl.imp (Imp.namo (EP.sl EP.int) 9 10 44 rfl rfl) ?_
    refine WPl.imp (Imp.swF 6 9 rfl (lx rfl)) ?_
    refine WPl.nil ?_
    refine EX.then ?_
    refine WP.seq ?_
    refine WP.seq ?_
    refine WP.region ?_
    refine WPl.v rfl (o_assign rfl) ?_
    refine WPl.nil ?_
    refine EX.then ?_
    refine WP.block ?_
    refine WP.loop (Gh := Nat) (fun i => ⟨10, [(1, .e (.a (.q 2))), (2, .e (.a (.p 3 (0)))), (4, .b (false)), (5, .e (.a (.p 8 (0)))), (6, .e (.a (.q 9))), (7, .i ((i : Int)))], [(0, PL EPig (f.shop.pigs)), (1, PL ENight (f.nights)), (2, PL EP.int (add))], [(3, .blk [ai (f.shop.pounds), ai (f.shop.tl), ai (f.shop.th), ai (f.shop.al), ai (f.shop.ah), ai (f.shop.room), ai (f.shop.tpl), ai (f.shop.tph), ai (f.shop.apl), ai (f.shop.aph), .q 0, .q 1] 31), (6, .own 78 EPig.size ([] ++ f.shop.pigs).length (RP EPig ([] ++ f.shop.pigs))), (7, .own 75 ENight.size (calmTo f.nights i).length (RP ENight (calmTo f.nights i))), (8, .blk [ai (f.shop.pounds), ai (f.shop.tl), ai (f.shop.th), ai (f.shop.al), ai (f.shop.ah), ai (f.shop.room), ai (f.shop.tpl), ai (f.shop.tph), ai (f.shop.apl), ai (f.shop.aph), .q 6, .q 7] 31), (9, .own 44 (EP.sl EP.int).size (List.replicate i (List.replicate f.shop.pigs.length 0)).length (RP (EP.sl EP.int) (List.replicate i (List.replicate f.shop.pigs.length 0))))], [], []⟩) (fun i => i ≤ f.nights.length) (fun i => f.nights.length - i) (0) id ?_ (LeR.of ⟨rfl, rfl, rfl, rfl, rfl, rfl, trivial⟩ ⟨(lx rfl), (lx rfl), (lx rfl), trivial⟩ ⟨rfl, rfl, rfl, rfl, rfl, trivial⟩ rfl rfl rfl rfl rfl) ?_
    · first | trivial | omega | (constructor <;> omega) | simp
    intro i hφ
    have hi : i ≤ f.nights.length := hφ
    have hcli := hcl i
    refine WP.seq ?_
    refine WP.seq ?_
    refine WP.region ?_
    refine WPl.v rfl (o_move rfl) ?_
    refine WPl.v rfl (o_fldp F31_1 rfl) ?_
    refine WPl.v rfl (o_ldp S29 rfl rfl rfl) ?_
    refine WPl.v rfl (o_leno L29 rfl rfl) ?_
    refine WPl.v rfl (o_lss rfl rfl) ?_
    refine WPl.nil ?_
    refine EX.then ?_
    refine WP.cond rfl (fun hc2 => ?_) (fun hc2 => ?_)
    · try simp only [decide_eq_true_eq, decide_eq_false_iff_not, Bool.and_eq_true, Bool.or_eq_true, Bool.and_eq_false_iff, Bool.or_eq_false_iff, Bool.not_eq_true', Bool.not_eq_false', ne_eq, Decidable.not_not] at hc2
      refine WP.skip ?_
      refine EX.then ?_
      refine WP.seq ?_
      refine WP.block ?_
      refine WP.seq ?_
      refine WP.draw (nf := 10) [⟨[44, 45, 46, 47, 48, 49, 50, 51], [], [], [], []⟩, ⟨[44, 45, 46, 47, 48, 49, 50, 51], [], [], [], [0]⟩, ⟨[42, 43, 45, 46, 47, 48, 49, 50, 51], [], [], [], []⟩, ⟨[42, 43, 44, 47], [], [], [], []⟩, ⟨[42, 43, 44, 47], [], [], [], [3]⟩, ⟨[42, 43, 44, 45, 46], [], [], [], []⟩, ⟨[42, 43, 44], [], [], [], [3, 4, 5]⟩, ⟨[42, 43, 44], [], [], [], [3, 4, 5, 6]⟩, ⟨[42, 43, 44], [], [], [], [3, 4, 5, 6, 7]⟩, ⟨[42, 43, 44], [], [], [], [3, 4, 5, 6, 7, 8]⟩, ⟨[], [], [], [], [0, 1, 2, 3, 4, 5, 6, 7, 8, 9]⟩, ⟨[], [], [], [7], [0, 1, 2, 3, 4, 5, 6, 7, 8, 9, 10]⟩] (by kernel_rfl) (by kernel_rfl) ?_
      refine DRQ.v rfl rfl rfl (o_fldp F31_1 rfl) ?_
      refine DRQ.v rfl rfl rfl (o_ldp S29 rfl rfl rfl) ?_
      refine DRQ.v rfl rfl rfl (o_move rfl) ?_
      refine DRQ.v rfl rfl rfl (o_fldp F31_1 rfl) ?_
      refine DRQ.v rfl rfl rfl (o_ldp S29 rfl rfl rfl) ?_
      refine DRQ.v rfl rfl rfl (o_move rfl) ?_
      refine DRQ.v rfl rfl rfl (o_idxo L29 rfl rfl rfl (by have := hcl i; omega) (by have := hcl i; omega)) ?_
      refine DRQ.v rfl rfl rfl (o_fldo F75_1 rfl rfl (by first | omega | (simp; omega))) ?_
      refine DRQ.v rfl rfl rfl (o_ldoF (off := 2) (i := (i : Int)) S3 rfl rfl rfl rfl (by have := hcl i; omega) (by have := hcl i; omega) (strI rfl)) ?_
      refine DRQ.v rfl rfl rfl (o_build B75 rfl ⟨rfl, trivial⟩ rfl rfl) ?_
      refine DRQ.v rfl rfl rfl (o_idxo L29 rfl rfl rfl (by have := hcl i; omega) (by have := hcl i; omega)) ?_
      refine DRQ.s 7 rfl rfl rfl (o_steE2 (z := ({ lo := 0, hi := 0, test := (nth (calmTo f.nights i) (i : Int)).test } : Night)) Try.sizeOf75 rfl rfl rfl ⟨rfl, rfl, rfl, trivial⟩ (eok_str ⟨rfl, rfl, rfl, trivial⟩) rfl rfl rfl (by have := hcl i; omega) (by have := hcl i; omega)) ?_
      refine DRQ.nil' ?_
      refine EX.then ?_
      refine WP.region ?_
      refine WPl.v rfl (o_move rfl) ?_
      refine WPl.v rfl (o_fldp F31_0 rfl) ?_
      refine WPl.v rfl (o_fldp F28_4 rfl) ?_
      refine WPl.v rfl (o_ldp S26 rfl rfl rfl) ?_
      refine WPl.v rfl (o_lenq L26 rfl (lx rfl)) ?_
      refine WPl.x 10 11 rfl rfl rfl (OpG.settle0 (o_make (z := 0) (E := EP.int) f.shop.pigs.length R44 (fun _ => rfl) rfl rfl (by first | omega | (simp; omega)) (by first | omega | (simp; omega)))) ?_
      refine WPl.l 11 12 rfl rfl rfl (o_bsl (E := (EP.sl EP.int)) (l := [List.replicate f.shop.pigs.length 0]) R32 rfl rfl (.cons ((.inl ⟨_, (lx rfl), PL.one⟩)) rfl (eok_sl (lx rfl)) (.nil)) rfl rfl) ?_
      refine WPl.u1 (k := 12) (m := 13) rfl rfl rfl (o_appo R32 EP.sl_one rfl rfl rfl rfl (by simp; omega) (by simp; omega)) ?_
      refine WPl.v rfl (o_assign rfl) ?_
      refine WPl.nil ?_
      refine EX.blk ?_
      refine EX.then ?_
      refine WP.region ?_
      refine WPl.v rfl (o_move rfl) ?_
      refine WPl.v rfl (o_add rfl rfl (by first | omega | (simp; omega)) (by first | omega | (simp; omega))) ?_
      refine WPl.v rfl (o_assign rfl) ?_
      refine WPl.nil ?_
      refine EX.again (i + 1) (ren [(9, 12)]) (by first | omega | (constructor <;> omega)) (by omega) (LeR.of ⟨rfl, rfl, rfl, rfl, rfl, rfl, trivial⟩ ⟨(lx rfl), (lx rfl), (lx rfl), trivial⟩ ⟨rfl, rfl, rfl, rfl, (congrArg (fun z => some (Ent.own 44 (EP.sl EP.int).size (List.length z) (RP (EP.sl EP.int) z))) (show ((List.replicate i (List.replicate f.shop.pigs.length 0)) ++ [List.replicate f.shop.pigs.length 0]) = ((fun i => List.replicate i (List.replicate f.shop.pigs.length 0)) (i + 1)) from by dsimp only; rw [List.replicate_succ'])), trivial⟩ rfl rfl rfl rfl rfl)
    · try simp only [decide_eq_true_eq, decide_eq_false_iff_not, Bool.and_eq_true, Bool.or_eq_true, Bool.and_eq_false_iff, Bool.or_eq_false_iff, Bool.not_eq_true', Bool.not_eq_false', ne_eq, Decidable.not_not] at hc2
      have he : i = f.nights.length := by omega
      subst he
      refine WP.exit ?_
      refine EX.exit_then ?_
      refine EX.exit_then ?_
      refine EX.exit_blk ?_
      refine EX.then ?_
      refine WP.seq ?_
      refine WP.region ?_
      refine WPl.imp (Imp.frz (E := EPig) (l := [] ++ f.shop.pigs) 6 rfl rfl) ?_
      refine WPl.imp (Imp.frz (E := ENight) (l := calmTo f.nights f.nights.length) 7 rfl rfl) ?_
      refine WPl.v rfl (o_ldpa G31 rfl rfl rfl) ?_
      refine WPl.cs 10 rfl rfl rfl rfl (o_sig 10 (ren [(0, 6), (1, 7)]) (c43 f.calm (by show f.shop.pigs.length ≤ 40; omega)) e43 rfl rfl rfl w43 ⟨(lx rfl), (lx rfl), trivial⟩ r43) ?_
      refine WPl.v rfl (o_move rfl) ?_
      refine WPl.v rfl (o_extract rfl rfl) ?_
      refine WPl.v rfl (o_extract rfl rfl) ?_
      refine WPl.v rfl (o_assign rfl) ?_
      refine WPl.v rfl (o_assign rfl) ?_
      refine WPl.nil ?_
      refine EX.then ?_
      refine WP.seq ?_
      refine WP.region ?_
      refine WPl.v rfl (o_fldp F31_0 rfl) ?_
      refine WPl.v rfl (o_ldpg G28 rfl rfl rfl) ?_
      refine WPl.cs 10 rfl rfl rfl rfl (o_sig 10 (ren [(0, 6)]) (c65 f.shop (by omega)) e65 rfl rfl rfl w65 ⟨(lx rfl), trivial⟩ r65) ?_
      refine WPl.v rfl (o_move rfl) ?_
      refine WPl.v rfl (o_extract rfl rfl) ?_
      refine WPl.v rfl (o_extract rfl rfl) ?_
      refine WPl.v rfl (o_assign rfl) ?_
      refine WPl.v rfl (o_assign rfl) ?_
      refine WPl.nil ?_
      refine EX.then ?_
      refine WP.seq ?_
      refine WP.seq ?_
      refine WP.region ?_
      refine WPl.v rfl (o_move rfl) ?_
      refine WPl.v rfl (o_move rfl) ?_
      refine WPl.v rfl (o_neq rfl rfl) ?_
      refine WPl.v rfl (o_move rfl) ?_
      refine WPl.bit 10 11 (!(decide ((f.calm.leastV costG) ≠ f.shop.mCheap))) rfl rfl ?_
      refine WPl.gv 10 rfl rfl (.plain rfl (by simp) rfl) (fun hb => o_move rfl) ?_
      refine WPl.gv 10 rfl rfl (.plain rfl (by simp) rfl) (fun hb => o_move rfl) ?_
      refine WPl.gv 10 rfl rfl (.plain rfl (by simp) rfl) (fun hb => o_neq rfl rfl) ?_
      refine WPl.v rfl (o_or rfl rfl rfl (by first | (simp; done) | simp_all)) ?_
      refine WPl.nil ?_
      refine EX.then ?_
      refine WP.cond rfl (fun hc3 => ?_) (fun hc3 => ?_)
      · try simp only [decide_eq_true_eq, decide_eq_false_iff_not, Bool.and_eq_true, Bool.or_eq_true, Bool.and_eq_false_iff, Bool.or_eq_false_iff, Bool.not_eq_true', Bool.not_eq_false', ne_eq, Decidable.not_not] at hc3
        rw [law.e, law.c] at hc3
        simp at hc3
      · try simp only [decide_eq_true_eq, decide_eq_false_iff_not, Bool.and_eq_true, Bool.or_eq_true, Bool.and_eq_false_iff, Bool.or_eq_false_iff, Bool.not_eq_true', Bool.not_eq_false', ne_eq, Decidable.not_not] at hc3
        refine WP.skip ?_
        refine EX.then ?_
        refine WP.seq ?_
        refine WP.region ?_
        refine WPl.v rfl (o_move rfl) ?_
        refine WPl.l 11 12 rfl rfl rfl (o_bsl (E := EP.int) (l := []) R44 rfl rfl (.nil) rfl rfl) ?_
        refine WPl.v rfl (o_move rfl) ?_
        refine WPl.u1 (k := 12) (m := 13) rfl rfl rfl (OpG.settle1 (.inl rfl) rfl (o_apps R44 EP.int_one rfl rfl rfl (lx rfl) (by simp; omega) (by simp; omega))) ?_
        refine WPl.v rfl (o_idxo L32 rfl rfl rfl (by first | omega | (simp; omega)) (by first | omega | (simp; omega))) ?_
        refine WPl.s1 (o_steE2 (z := [] ++ add) Try.sizeOf44 rfl rfl rfl ((.inl ⟨_, (lx rfl), PL.one⟩)) (eok_sl (lx rfl)) rfl rfl rfl (by first | omega | (simp; omega)) (by first | omega | (simp; omega))) ?_
        refine WPl.nil ?_
        refine EX.then ?_
        refine WP.seq ?_
        refine WP.seq ?_
        refine WP.region ?_
        refine WPl.v rfl (o_fldp F31_0 rfl) ?_
        refine WPl.v rfl (o_ldpg G28 rfl rfl rfl) ?_
        refine WPl.v rfl (o_move rfl) ?_
        refine WPl.cs 13 rfl rfl rfl rfl (o_sig 13 (ren [(0, 6), (1, 2)]) (c66 f.shop add hpg (by omega)) e66 rfl rfl rfl w66 ⟨(lx rfl), (lx rfl), trivial⟩ r66) ?_
        refine WPl.v rfl (o_not rfl) ?_
        refine WPl.nil ?_
        refine EX.then ?_
        refine WP.cond rfl (fun hc4 => ?_) (fun hc4 => ?_)
        · try simp only [decide_eq_true_eq, decide_eq_false_iff_not, Bool.and_eq_true, Bool.or_eq_true, Bool.and_eq_false_iff, Bool.or_eq_false_iff, Bool.not_eq_true', Bool.not_eq_false', ne_eq, Decidable.not_not] at hc4
          refine WP.seq ?_
          refine WP.region ?_
          refine WPl.v rfl (o_ldpa G31 rfl rfl rfl) ?_
          refine WPl.v rfl (o_move rfl) ?_
          refine WPl.cs 13 rfl rfl rfl rfl (o_sigbc 13 (ren [(0, 6), (1, 7), (2, 9)]) (Sig.free (c23 f.calm (f.calmPlan add) (by show f.shop.pigs.length ≤ 40; omega))) e23 rfl rfl SvsOK.rf w23 ⟨.x (lx rfl), .x (lx rfl), .own rfl rfl, trivial⟩ r23) ?_
          refine WPl.v rfl (o_move rfl) ?_
          refine WPl.v rfl (o_extract rfl rfl) ?_
          refine WPl.v rfl (o_extract rfl rfl) ?_
          refine WPl.v rfl (o_assign rfl) ?_
          refine WPl.v rfl (o_assign rfl) ?_
          refine WPl.nil ?_
          refine EX.then ?_
          refine WP.seq ?_
          refine WP.region ?_
          refine WPl.v rfl (o_move rfl) ?_
          refine WPl.v rfl (o_eql rfl rfl) ?_
          refine WPl.imp (Imp.bitF 97 (b' := true) rfl (decide_eq_true (law.n hc4))) ?_
          refine WPl.v rfl (o_move rfl) ?_
          refine WPl.cL 14 rfl rfl rfl rfl ⟨_, _, rfl, rfl, rfl⟩ (o_sig 13 id c16 e16 rfl rfl rfl w16 trivial r16) ?_
          refine WPl.v rfl (o_pickT rfl rfl) ?_
          refine WPl.v rfl (o_assign rfl) ?_
          refine WPl.nil ?_
          refine EX.then ?_
          refine WP.ret ?_
          refine EX.ret_then ?_
          exact EX.fin id (.inl rfl) rfl (.tmp rfl .nil) rfl r12 trivial (by simp) (by simp)
        · try simp only [decide_eq_true_eq, decide_eq_false_iff_not, Bool.and_eq_true, Bool.or_eq_true, Bool.and_eq_false_iff, Bool.or_eq_false_iff, Bool.not_eq_true', Bool.not_eq_false', ne_eq, Decidable.not_not] at hc4
          refine WP.skip ?_
          refine EX.then ?_
          refine WP.seq ?_
          refine WP.region ?_
          refine WPl.v rfl (o_ldpa G31 rfl rfl rfl) ?_
          refine WPl.v rfl (o_move rfl) ?_
          refine WPl.cs 13 rfl rfl rfl rfl (o_sigbc 13 (ren [(0, 6), (1, 7), (2, 9)]) (Sig.free (c23 f.calm (f.calmPlan add) (by show f.shop.pigs.length ≤ 40; omega))) e23 rfl rfl SvsOK.rf w23 ⟨.x (lx rfl), .x (lx rfl), .own rfl rfl, trivial⟩ r23) ?_
          refine WPl.v rfl (o_move rfl) ?_
          refine WPl.v rfl (o_extract rfl rfl) ?_
          refine WPl.v rfl (o_extract rfl rfl) ?_
          refine WPl.v rfl (o_assign rfl) ?_
          refine WPl.v rfl (o_assign rfl) ?_
          refine WPl.nil ?_
          refine EX.then ?_
          refine WP.seq ?_
          refine WP.draw (nf := 15) [⟨[110, 111, 112], [13, 14], [], [], []⟩, ⟨[110, 111, 112], [13, 14], [], [], [0]⟩, ⟨[108, 109, 111], [], [13], [13], []⟩, ⟨[108, 109, 110], [13], [], [], []⟩, ⟨[108, 109], [], [14], [14, 13], [2, 3]⟩, ⟨[], [], [], [], [0, 1, 2, 3, 4]⟩, ⟨[], [], [], [], [0, 1, 2, 3, 4, 5]⟩, ⟨[115], [], [], [], [0, 1, 2, 3, 4, 5, 6]⟩, ⟨[114, 16], [], [], [], [0, 1, 2, 3, 4, 5, 6]⟩, ⟨[115], [], [], [], [0, 1, 2, 3, 4, 5, 6, 7]⟩, ⟨[], [], [], [], [0, 1, 2, 3, 4, 5, 6, 7, 8, 9]⟩] (by kernel_rfl) (by kernel_rfl) ?_
          refine DRQ.v rfl rfl rfl (o_fldp F31_0 rfl) ?_
          refine DRQ.v rfl rfl rfl (o_ldpg G28 rfl rfl rfl) ?_
          refine DRQ.l 13 rfl rfl rfl rfl (o_bsl (E := EP.int) (l := []) R44 rfl rfl (.nil) rfl rfl) ?_
          refine DRQ.v rfl rfl rfl (o_move rfl) ?_
          refine DRQ.l2 14 13 rfl rfl rfl rfl (o_apps R44 EP.int_one rfl rfl rfl (lx rfl) (by simp; omega) (by simp; omega)) ?_
          refine DRQ.cs rfl rfl rfl rfl (o_sigbc 15 (ren [(0, 6), (1, 14)]) (Sig.free (c67 f.shop add (by omega))) e67 rfl rfl SvsOK.rf w67 ⟨.x (lx rfl), .own rfl rfl, trivial⟩ r67) ?_
          refine DRQ.v rfl rfl rfl (o_move rfl) ?_
          refine DRQ.v rfl rfl rfl (o_extract rfl rfl) ?_
          refine DRQ.v rfl rfl rfl (o_extract rfl rfl) ?_
          refine DRQ.v rfl rfl rfl (o_assign rfl) ?_
          refine DRQ.v rfl rfl rfl (o_assign rfl) ?_
          refine DRQ.nil' ?_
          refine EX.then ?_
          refine WP.seq ?_
          refine WP.region ?_
          refine WPl.v rfl (o_move rfl) ?_
          refine WPl.v rfl (o_eql rfl rfl) ?_
          refine WPl.imp (Imp.bitF 117 (b' := true) rfl (decide_eq_true (law.y hc4).1)) ?_
          refine WPl.v rfl (o_move rfl) ?_
          refine WPl.on rfl ⟨_, _, rfl, rfl, rfl⟩ (o_move rfl) ?_
          refine WPl.on rfl ⟨_, _, rfl, rfl, rfl⟩ (o_eql rfl rfl) ?_
          refine WPl.v rfl (o_pickT rfl rfl) ?_
          refine WPl.imp (Imp.bitF 121 (b' := true) rfl (by rw [opE_t (Fnd.shopOK hf), hc4]; rfl)) ?_
          refine WPl.v rfl (o_move rfl) ?_
          refine WPl.on rfl ⟨_, _, rfl, rfl, rfl⟩ (o_move rfl) ?_
          refine WPl.on rfl ⟨_, _, rfl, rfl, rfl⟩ (o_move rfl) ?_
          refine WPl.on rfl ⟨_, _, rfl, rfl, rfl⟩ (o_eql rfl rfl) ?_
          refine WPl.v rfl (o_pickT rfl rfl) ?_
          refine WPl.imp (Imp.bitF 126 (b' := true) rfl (decide_eq_true (law.y hc4).2)) ?_
          refine WPl.v rfl (o_move rfl) ?_
          refine WPl.cL 16 rfl rfl rfl rfl ⟨_, _, rfl, rfl, rfl⟩ (o_sig 15 id c16 e16 rfl rfl rfl w16 trivial r16) ?_
          refine WPl.v rfl (o_pickT rfl rfl) ?_
          refine WPl.v rfl (o_assign rfl) ?_
          refine WPl.nil ?_
          refine EX.then ?_
          refine WP.ret ?_
          exact EX.fin id (.inl rfl) rfl (.tmp rfl .nil) rfl r12 trivial (by simp) (by simp)
end Go.Flong
namespace Go.Proofs.Ytglbnodjcngefaa
open Go Go.Eng Go.Flong Go.ChangeShapes Go.WideShapes
set_option maxRecDepth 100000 in
theorem weeksCalm_lifted (os : Os) (started : os.Started) (H : Type) (enc : TypeId × Value → H) : ReturnsInHanded {} Try.checked os 12 .any (Rows.weeksCalmSpec.pre6 enc Try.prog Try.f12 Rows.weeksCalmRow.domain false) (Rows.weeksCalmSpec.post enc Try.prog Try.f12 false true false false) := by
  refine lawLifted (C := Try.checked) own started (by kernel_rfl) Try.func12
    (ChangeSpec.witness6 (enc := enc) (C := Try.checked) false ⟨#[], #[.agg #[.int .i64 0, .int .i64 0, .int .i64 0, .int .i64 0, .int .i64 0, .int .i64 0, .int .i64 0, .int .i64 0, .int .i64 0, .int .i64 0, .slice none 0 0, .slice none 0 0], .slice none 0 0], []⟩ 8 (by kernel_rfl) (by kernel_rfl) (by kernel_rfl) (by kernel_rfl))
    laidOut rfl Try.underlying4 (by intro t ht; revert ht; revert t; exact of_decide_eq_true (by kernel_rfl)) rfl (fun ds hd => ?_) fun W base args ds p hval hA => ?_
  · match ds, hd with
    | [_, _], _ => rfl
  · obtain ⟨v0, vs, d0, ds0, p0, q0, ha, rfl, rfl, h0, hA⟩ := trodAll_cons hA
    obtain ⟨v1, vs, d1, ds1, p1, q1, rfl, rfl, rfl, h1, hA⟩ := trodAll_cons hA
    obtain ⟨rfl, rfl, rfl⟩ := trodAll_nil hA
    obtain rfl : args = #[v0, v1] := by cases args; simp_all
    obtain ⟨a0, pv0, nv0, rfl, hp0, hn0⟩ := arg31 (hval 0 31 v0 rfl rfl) h0
    obtain ⟨a1, hl1⟩ := arg44 (hval 1 44 v1 rfl rfl) h1
    exact Sig.kept (c12 a0 a1 (fun h1 h2 => calmLaw h1 h2)) (ν := nuL [pv0, nv0, v1]) ⟨hp0, hn0, hl1, trivial⟩
theorem weeksCalm_holds : Rows.WeeksCalmSaid :=
  OpenClaim.holds_of_wide 12 Try.f12 rfl rfl rfl rfl rfl rfl rfl ⟨rfl, rfl, rfl, rfl, rfl⟩ rfl rfl rfl rfl rfl (by kernel_rfl) Try.func12 (by kernel_rfl)
    (of_decide_eq_true (by kernel_rfl)) (by unfold Func.isWrapper; rw [if_neg (by decide +kernel)]; exact ⟨rfl, rfl⟩)
    (fun os started H enc _ => weeksCalm_lifted os started H enc)
end Go.Proofs.Ytglbnodjcngefaa
