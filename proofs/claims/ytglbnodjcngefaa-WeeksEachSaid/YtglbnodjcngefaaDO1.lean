/- Walks (printed by gen.py off the specs). -/
import Derived.Test.YtglbnodjcngefaaDL1
import Derived.Test.YtglbnodjcngefaaBase9
import Derived.Test.YtglbnodjcngefaaBase10
import Derived.Test.YtglbnodjcngefaaProg
set_option linter.unusedSimpArgs false
set_option linter.unusedVariables false
namespace Go.Flong
open Go Go.Eng Go.Proofs
theorem e14 : Enters' Try.prog 14 := Try.call14
theorem e15 : Enters' Try.prog 15 := Try.call15
theorem e99 : Enters' Try.prog 99 := Try.call99
theorem Z25 : Zero Try.prog 25 [ai (0), ai (0), ai (0), ai (0), ai (0)] := .mk Try.zeroValue25 rfl rfl
theorem F53_0 : Fld Try.prog 53 0 0 := .mk Try.underlying53 rfl rfl rfl Try.sizeOf3 rfl
theorem F53_1 : Fld Try.prog 53 1 1 := .mk Try.underlying53 rfl rfl rfl Try.sizeOf3 rfl
theorem F53_2 : Fld Try.prog 53 2 2 := .mk Try.underlying53 rfl rfl rfl Try.sizeOf44 rfl
theorem w42 {l : List Int} {n : Int} : ∀ x ∈ ([.e (.a (.q 0)), .i (n)] : List SV), x.res (keys (α := Pred) [(0, PL EP.int (l))]) := by simp [SV.res, El.res, At.res, keys]
theorem r42 {l : List Int} {n : Int} : SV.res (keys (α := Pred) []) (.b (inL l n)) := by simp [SV.res, El.res, At.res, keys]
set_option maxHeartbeats 4000000 in
theorem c42 (l : List Int) (n : Int) (hl : l.length ≤ 1000000) : Sig Try.prog 42 [.e (.a (.q 0)), .i (n)] [(0, PL EP.int (l))] (.b (inL l n)) [] := by
  refine Sig.intro Try.func42 rfl 1 [(0, .e (.a (.q 0))), (1, .i (n))] rfl w42 rfl rfl fun I w => ?_
  refine WP.seq ?_
  refine WP.region ?_
  refine WPl.v rfl (o_assign rfl) ?_
  refine WPl.nil ?_
  refine EX.then ?_
  refine WP.seq ?_
  refine WP.seq ?_
  refine WP.region ?_
  refine WPl.v rfl (o_assign rfl) ?_
  refine WPl.nil ?_
  refine EX.then ?_
  refine WP.block ?_
  refine WP.loop (Gh := Nat) (fun i => ⟨1, [(0, .e (.a (.q 0))), (1, .i (n)), (4, .b (false)), (5, .i ((i : Int)))], [(0, PL EP.int (l))], [], [], []⟩) (fun i => i ≤ l.length ∧ allI (fun j => !decide (nth l j = n)) i = true) (fun i => l.length - i) (0) id ?_ (LeR.of ⟨rfl, rfl, rfl, rfl, trivial⟩ ⟨(lx rfl), trivial⟩ trivial rfl rfl rfl rfl rfl) ?_
  · exact ⟨by omega, rfl⟩
  intro i hφ
  have hi : i ≤ l.length := hφ.1
  have hall := hφ.2
  refine WP.seq ?_
  refine WP.seq ?_
  refine WP.region ?_
  refine WPl.v rfl (o_move rfl) ?_
  refine WPl.v rfl (o_move rfl) ?_
  refine WPl.v rfl (o_lenq L44 rfl (lx rfl)) ?_
  refine WPl.v rfl (o_lss rfl rfl) ?_
  refine WPl.nil ?_
  refine EX.then ?_
  refine WP.cond rfl (fun hc1 => ?_) (fun hc1 => ?_)
  · try simp only [decide_eq_true_eq, decide_eq_false_iff_not, Bool.and_eq_true, Bool.or_eq_true, Bool.and_eq_false_iff, Bool.or_eq_false_iff, Bool.not_eq_true', Bool.not_eq_false', ne_eq, Decidable.not_not] at hc1
    refine WP.skip ?_
    refine EX.then ?_
    refine WP.seq ?_
    refine WP.block ?_
    refine WP.seq ?_
    refine WP.region ?_
    refine WPl.v rfl (o_move rfl) ?_
    refine WPl.v rfl (o_move rfl) ?_
    refine WPl.x 1 2 rfl rfl rfl (o_idx L44 rfl (lx rfl) rfl (by first | omega | (simp; omega)) (by first | omega | (simp; omega))) ?_
    refine WPl.v rfl (o_ldq S3 rfl (lx rfl) intc) ?_
    refine WPl.v rfl (o_move rfl) ?_
    refine WPl.v rfl (o_eql rfl rfl) ?_
    refine WPl.nil ?_
    refine EX.then ?_
    refine WP.cond rfl (fun hc2 => ?_) (fun hc2 => ?_)
    · try simp only [decide_eq_true_eq, decide_eq_false_iff_not, Bool.and_eq_true, Bool.or_eq_true, Bool.and_eq_false_iff, Bool.or_eq_false_iff, Bool.not_eq_true', Bool.not_eq_false', ne_eq, Decidable.not_not] at hc2
      refine WP.seq ?_
      refine WP.region ?_
      refine WPl.v rfl (o_assign rfl) ?_
      refine WPl.nil ?_
      refine EX.then ?_
      refine WP.ret ?_
      refine EX.ret_blk ?_
      refine EX.ret_then ?_
      refine EX.ret_then ?_
      refine EX.ret_blk ?_
      refine EX.ret_then ?_
      rw [show inL l n = true from by simp only [inL, Bool.not_eq_true']; exact not_allI (show i < l.length by omega) (by simpa using hc2)]
      exact EX.fin id (.inl rfl) rfl (.tmp rfl .nil) rfl (by simp [SV.res, El.res, At.res, keys]) trivial (by simp) (by simp)
    · try simp only [decide_eq_true_eq, decide_eq_false_iff_not, Bool.and_eq_true, Bool.or_eq_true, Bool.and_eq_false_iff, Bool.or_eq_false_iff, Bool.not_eq_true', Bool.not_eq_false', ne_eq, Decidable.not_not] at hc2
      refine WP.skip ?_
      refine EX.blk ?_
      refine EX.then ?_
      refine WP.region ?_
      refine WPl.v rfl (o_move rfl) ?_
      refine WPl.v rfl (o_add rfl rfl (by first | omega | (simp; omega)) (by first | omega | (simp; omega))) ?_
      refine WPl.v rfl (o_assign rfl) ?_
      refine WPl.nil ?_
      refine EX.again (i + 1) id (by exact ⟨by omega, by simp only [allI, hall, Bool.true_and]; simpa using hc2⟩) (by omega) (LeR.of ⟨rfl, rfl, rfl, rfl, trivial⟩ ⟨(lx rfl), trivial⟩ trivial rfl rfl rfl rfl rfl)
  · try simp only [decide_eq_true_eq, decide_eq_false_iff_not, Bool.and_eq_true, Bool.or_eq_true, Bool.and_eq_false_iff, Bool.or_eq_false_iff, Bool.not_eq_true', Bool.not_eq_false', ne_eq, Decidable.not_not] at hc1
    refine WP.exit ?_
    refine EX.exit_then ?_
    refine EX.exit_then ?_
    refine EX.exit_blk ?_
    refine EX.then ?_
    refine WP.seq ?_
    refine WP.region ?_
    refine WPl.v rfl (o_assign rfl) ?_
    refine WPl.nil ?_
    refine EX.then ?_
    refine WP.ret ?_
    have he : i = l.length := by omega
    subst he
    rw [show inL l n = false from by simp only [inL, hall]; rfl]
    exact EX.fin id (.inl rfl) rfl (.tmp rfl .nil) rfl (by simp [SV.res, El.res, At.res, keys]) trivial (by simp) (by simp)
theorem w36 {l : List Int} {a b : Int} : ∀ x ∈ ([.e (.a (.q 0)), .i (a), .i (b)] : List SV), x.res (keys (α := Pred) [(0, PL EP.int (l))]) := by simp [SV.res, El.res, At.res, keys]
theorem r36 {l : List Int} {a b : Int} : SV.res (keys (α := Pred) []) (.b (rising l a b)) := by simp [SV.res, El.res, At.res, keys]
set_option maxHeartbeats 4000000 in
theorem c36 (l : List Int) (a b : Int) (hl : l.length ≤ 1000000) : Sig Try.prog 36 [.e (.a (.q 0)), .i (a), .i (b)] [(0, PL EP.int (l))] (.b (rising l a b)) [] := by
  refine Sig.intro Try.func36 rfl 1 [(0, .e (.a (.q 0))), (1, .i (a)), (2, .i (b))] rfl w36 rfl rfl fun I w => ?_
  refine WP.seq ?_
  refine WP.region ?_
  refine WPl.v rfl (o_assign rfl) ?_
  refine WPl.nil ?_
  refine EX.then ?_
  refine WP.seq ?_
  refine WP.seq ?_
  refine WP.region ?_
  refine WPl.v rfl (o_assign rfl) ?_
  refine WPl.nil ?_
  refine EX.then ?_
  refine WP.block ?_
  refine WP.loop (Gh := Nat) (fun i => ⟨1, [(0, .e (.a (.q 0))), (1, .i (a)), (2, .i (b)), (6, .b (false)), (7, .i ((i : Int)))], [(0, PL EP.int (l))], [], [], []⟩) (fun i => i ≤ l.length ∧ allI (risingAt l a b) i = true) (fun i => l.length - i) (0) id ?_ (LeR.of ⟨rfl, rfl, rfl, rfl, rfl, trivial⟩ ⟨(lx rfl), trivial⟩ trivial rfl rfl rfl rfl rfl) ?_
  · exact ⟨by omega, rfl⟩
  intro i hφ
  have hi : i ≤ l.length := hφ.1
  have hall := hφ.2
  refine WP.seq ?_
  refine WP.seq ?_
  refine WP.region ?_
  refine WPl.v rfl (o_move rfl) ?_
  refine WPl.v rfl (o_move rfl) ?_
  refine WPl.v rfl (o_lenq L44 rfl (lx rfl)) ?_
  refine WPl.v rfl (o_lss rfl rfl) ?_
  refine WPl.nil ?_
  refine EX.then ?_
  refine WP.cond rfl (fun hc1 => ?_) (fun hc1 => ?_)
  · try simp only [decide_eq_true_eq, decide_eq_false_iff_not, Bool.and_eq_true, Bool.or_eq_true, Bool.and_eq_false_iff, Bool.or_eq_false_iff, Bool.not_eq_true', Bool.not_eq_false', ne_eq, Decidable.not_not] at hc1
    refine WP.skip ?_
    refine EX.then ?_
    refine WP.seq ?_
    refine WP.block ?_
    refine WP.seq ?_
    refine WP.imp (Imp.bit 1 2 (!(!(within (nth l (i : Int)) a b))) rfl rfl) ?_
    refine WP.imp (Imp.bit 2 3 ((!(!(within (nth l (i : Int)) a b))) && (decide (0 < (i : Int)))) rfl rfl) ?_
    refine WP.draw (nf := 6) [⟨[15, 18, 19], [], [], [], []⟩, ⟨[14, 18, 19], [], [], [], []⟩, ⟨[18, 19], [], [3], [3], [0, 1]⟩, ⟨[18, 19], [], [], [], [0, 1, 2]⟩, ⟨[14, 15, 16, 17, 19], [3], [], [], []⟩, ⟨[14, 15, 16, 17, 18], [3], [], [], []⟩, ⟨[], [], [], [], [0, 1, 2, 3, 4, 5]⟩, ⟨[], [], [], [], [0, 1, 2, 3, 4, 5, 6]⟩, ⟨[], [], [], [], [0, 1, 2, 3, 4, 5, 6, 7]⟩, ⟨[], [], [], [], [0, 1, 2, 3, 4, 5, 6, 7, 8]⟩, ⟨[], [], [], [], [0, 1, 2, 3, 4, 5, 6, 7, 8, 9]⟩, ⟨[], [], [], [], [0, 1, 2, 3, 4, 5, 6, 7, 8, 9, 10]⟩, ⟨[27, 30, 31, 32, 33, 34], [5], [], [], [0, 1, 2, 3, 4, 5, 6, 7, 8, 9, 10, 11]⟩, ⟨[26, 30, 31, 32, 33, 34], [5], [], [], [0, 1, 2, 3, 4, 5, 6, 7, 8, 9, 10, 11]⟩, ⟨[30, 31, 32, 33, 34], [5], [4], [4], [0, 1, 2, 3, 4, 5, 6, 7, 8, 9, 10, 11, 12, 13]⟩, ⟨[30, 31, 32, 33, 34], [5], [], [], [0, 1, 2, 3, 4, 5, 6, 7, 8, 9, 10, 11, 12, 13, 14]⟩, ⟨[26, 27, 28, 29, 31, 32], [4], [], [], [0, 1, 2, 3, 4, 5, 6, 7, 8, 9, 10, 11]⟩, ⟨[26, 27, 28, 29, 30], [4], [], [], [0, 1, 2, 3, 4, 5, 6, 7, 8, 9, 10, 11]⟩, ⟨[26, 27, 28, 29, 30], [4], [], [], [0, 1, 2, 3, 4, 5, 6, 7, 8, 9, 10, 11, 17]⟩, ⟨[26, 27, 28, 29], [4], [5], [5], [0, 1, 2, 3, 4, 5, 6, 7, 8, 9, 10, 11, 16, 17, 18]⟩, ⟨[26, 27, 28, 29], [4], [], [], [0, 1, 2, 3, 4, 5, 6, 7, 8, 9, 10, 11, 16, 17, 18, 19]⟩, ⟨[], [], [], [], [0, 1, 2, 3, 4, 5, 6, 7, 8, 9, 10, 11, 12, 13, 14, 15, 16, 17, 18, 19, 20]⟩, ⟨[], [], [], [], [0, 1, 2, 3, 4, 5, 6, 7, 8, 9, 10, 11, 12, 13, 14, 15, 16, 17, 18, 19, 20, 21]⟩, ⟨[], [], [], [], [0, 1, 2, 3, 4, 5, 6, 7, 8, 9, 10, 11, 12, 13, 14, 15, 16, 17, 18, 19, 20, 21, 22]⟩] (by kernel_rfl) (by kernel_rfl) ?_
    refine DRQ.v rfl rfl rfl (o_move rfl) ?_
    refine DRQ.v rfl rfl rfl (o_move rfl) ?_
    refine DRQ.x 3 rfl rfl rfl rfl (o_idx L44 rfl (lx rfl) rfl (by first | omega | (simp; omega)) (by first | omega | (simp; omega))) ?_
    refine DRQ.v rfl rfl rfl (o_ldq S3 rfl (lx rfl) intc) ?_
    refine DRQ.v rfl rfl rfl (o_move rfl) ?_
    refine DRQ.v rfl rfl rfl (o_move rfl) ?_
    refine DRQ.cs rfl rfl rfl rfl (o_sig 4 id (c35 (nth l (i : Int)) a b) e35 rfl rfl rfl w35 trivial r35) ?_
    refine DRQ.v rfl rfl rfl (o_not rfl) ?_
    refine DRQ.v rfl rfl rfl (o_move rfl) ?_
    refine DRQ.gv 1 rfl rfl (.plain rfl (by simp) rfl) rfl (fun hb => o_move rfl) ?_
    refine DRQ.gv 1 rfl rfl (.plain rfl (by simp) rfl) rfl (fun hb => o_gtr rfl rfl) ?_
    refine DRQ.gv 1 rfl rfl (.plain rfl (by simp) rfl) rfl (fun hb => o_move rfl) ?_
    refine DRQ.gv 2 rfl rfl (.nest rfl rfl (by simp) rfl) rfl (fun hb => o_move rfl) ?_
    refine DRQ.gv 2 rfl rfl (.nest rfl rfl (by simp) rfl) rfl (fun hb => o_move rfl) ?_
    refine DRQ.gx 2 4 rfl rfl (.nest rfl rfl (by simp) rfl) rfl rfl (fun hb => o_idx L44 rfl (lx rfl) rfl (by simp at hb; omega) (by simp at hb; omega)) ?_
    refine DRQ.gv 2 rfl rfl (.nest rfl rfl (by simp) rfl) rfl (fun hb => o_ldq S3 rfl (lxi hb rfl) intc) ?_
    refine DRQ.gv 2 rfl rfl (.nest rfl rfl (by simp) rfl) rfl (fun hb => o_move rfl) ?_
    refine DRQ.gv 2 rfl rfl (.nest rfl rfl (by simp) rfl) rfl (fun hb => o_move rfl) ?_
    refine DRQ.gv 2 rfl rfl (.nest rfl rfl (by simp) rfl) rfl (fun hb => o_sub rfl rfl (by simp at hb; omega) (by simp at hb; omega)) ?_
    refine DRQ.gx 2 5 rfl rfl (.nest rfl rfl (by simp) rfl) rfl rfl (fun hb => o_idx L44 rfl (lx rfl) rfl (by simp at hb; omega) (by simp at hb; omega)) ?_
    refine DRQ.gv 2 rfl rfl (.nest rfl rfl (by simp) rfl) rfl (fun hb => o_ldq S3 rfl (lxi hb rfl) intc) ?_
    refine DRQ.gv 2 rfl rfl (.nest rfl rfl (by simp) rfl) rfl (fun hb => o_leq rfl rfl) ?_
    refine DRQ.gv 1 rfl rfl (.plain rfl (by simp) rfl) rfl (fun hb => o_and rfl rfl rfl (by first | (simp; done) | simp_all)) ?_
    refine DRQ.v rfl rfl rfl (o_or rfl rfl rfl (by first | (simp; done) | simp_all)) ?_
    refine DRQ.nil' ?_
    refine EX.then ?_
    refine WP.cond rfl (fun hc2 => ?_) (fun hc2 => ?_)
    · try simp only [decide_eq_true_eq, decide_eq_false_iff_not, Bool.and_eq_true, Bool.or_eq_true, Bool.and_eq_false_iff, Bool.or_eq_false_iff, Bool.not_eq_true', Bool.not_eq_false', ne_eq, Decidable.not_not] at hc2
      refine WP.seq ?_
      refine WP.region ?_
      refine WPl.v rfl (o_assign rfl) ?_
      refine WPl.nil ?_
      refine EX.then ?_
      refine WP.ret ?_
      refine EX.ret_blk ?_
      refine EX.ret_then ?_
      refine EX.ret_then ?_
      refine EX.ret_blk ?_
      refine EX.ret_then ?_
      rw [show rising l a b = false from by refine not_allI (show i < l.length by omega) ?_; simp only [risingAt, Bool.and_eq_false_iff, Bool.not_eq_false', Bool.and_eq_true, decide_eq_true_eq]; exact hc2]
      exact EX.fin id (.inl rfl) rfl (.tmp rfl .nil) rfl (by simp [SV.res, El.res, At.res, keys]) trivial (by simp) (by simp)
    · try simp only [decide_eq_true_eq, decide_eq_false_iff_not, Bool.and_eq_true, Bool.or_eq_true, Bool.and_eq_false_iff, Bool.or_eq_false_iff, Bool.not_eq_true', Bool.not_eq_false', ne_eq, Decidable.not_not] at hc2
      refine WP.skip ?_
      refine EX.blk ?_
      refine EX.then ?_
      refine WP.region ?_
      refine WPl.v rfl (o_move rfl) ?_
      refine WPl.v rfl (o_add rfl rfl (by first | omega | (simp; omega)) (by first | omega | (simp; omega))) ?_
      refine WPl.v rfl (o_assign rfl) ?_
      refine WPl.nil ?_
      refine EX.again (i + 1) id (by exact ⟨by omega, by simp only [allI, hall, Bool.true_and, risingAt, Bool.and_eq_true, Bool.not_eq_true', Bool.and_eq_false_iff, decide_eq_false_iff_not]; exact hc2⟩) (by omega) (LeR.of ⟨rfl, rfl, rfl, rfl, rfl, trivial⟩ ⟨(lx rfl), trivial⟩ trivial rfl rfl rfl rfl rfl)
  · try simp only [decide_eq_true_eq, decide_eq_false_iff_not, Bool.and_eq_true, Bool.or_eq_true, Bool.and_eq_false_iff, Bool.or_eq_false_iff, Bool.not_eq_true', Bool.not_eq_false', ne_eq, Decidable.not_not] at hc1
    refine WP.exit ?_
    refine EX.exit_then ?_
    refine EX.exit_then ?_
    refine EX.exit_blk ?_
    refine EX.then ?_
    refine WP.seq ?_
    refine WP.region ?_
    refine WPl.v rfl (o_assign rfl) ?_
    refine WPl.nil ?_
    refine EX.then ?_
    refine WP.ret ?_
    have he : i = l.length := by omega
    subst he
    rw [show rising l a b = true from hall]
    exact EX.fin id (.inl rfl) rfl (.tmp rfl .nil) rfl (by simp [SV.res, El.res, At.res, keys]) trivial (by simp) (by simp)
theorem w32 {f : Fnd} : ∀ x ∈ ([.e (.g [ai (f.shop.pounds), ai (f.shop.tl), ai (f.shop.th), ai (f.shop.al), ai (f.shop.ah), ai (f.shop.room), ai (f.shop.tpl), ai (f.shop.tph), ai (f.shop.apl), ai (f.shop.aph), .q 0, .q 1])] : List SV), x.res (keys (α := Pred) [(0, PL EPig (f.shop.pigs)), (1, PL ENight (f.nights))]) := by simp [SV.res, El.res, At.res, keys]
theorem r32 {f : Fnd} : SV.res (keys (α := Pred) []) (.b (f.rdy)) := by simp [SV.res, El.res, At.res, keys]
set_option maxHeartbeats 4000000 in
theorem c32 (f : Fnd)  : Sig Try.prog 32 [.e (.g [ai (f.shop.pounds), ai (f.shop.tl), ai (f.shop.th), ai (f.shop.al), ai (f.shop.ah), ai (f.shop.room), ai (f.shop.tpl), ai (f.shop.tph), ai (f.shop.apl), ai (f.shop.aph), .q 0, .q 1])] [(0, PL EPig (f.shop.pigs)), (1, PL ENight (f.nights))] (.b (f.rdy)) [] := by
  refine Sig.intro Try.func32 rfl 2 [(0, .e (.g [ai (f.shop.pounds), ai (f.shop.tl), ai (f.shop.th), ai (f.shop.al), ai (f.shop.ah), ai (f.shop.room), ai (f.shop.tpl), ai (f.shop.tph), ai (f.shop.apl), ai (f.shop.aph), .q 0, .q 1]))] rfl w32 rfl rfl fun I w => ?_
  refine WP.seq ?_
  refine WP.region ?_
  refine WPl.l 2 3 rfl rfl rfl (o_boxg rfl) ?_
  refine WPl.v rfl (o_assign rfl) ?_
  refine WPl.nil ?_
  refine EX.then ?_
  refine WP.seq ?_
  refine WP.region ?_
  refine WPl.v rfl (o_ldpa G31 rfl rfl rfl) ?_
  refine WPl.cs 3 rfl rfl rfl rfl (o_sig 3 (ren [(0, 0), (1, 1)]) (c14 f) e14 rfl rfl rfl w14 ⟨(lx rfl), (lx rfl), trivial⟩ r14) ?_
  refine WPl.v rfl (o_not rfl) ?_
  refine WPl.v rfl (o_move rfl) ?_
  refine WPl.bit 3 4 (!f.far) rfl rfl ?_
  refine WPl.gv 3 rfl rfl (.plain rfl Iff.rfl rfl) (fun hb => o_ldpa G31 rfl rfl rfl) ?_
  refine WPl.gc0 3 rfl rfl (.plain rfl Iff.rfl rfl) (fun hb => o_sig 4 (ren [(0, 0), (1, 1)]) (c22 f) e22 rfl rfl rfl w22 ⟨(lx rfl), (lx rfl), trivial⟩ r22) ?_
  refine WPl.gv 3 rfl rfl (.plain rfl Iff.rfl rfl) (fun hb => o_eql rfl rfl) ?_
  refine WPl.v rfl (o_and rfl rfl rfl id) ?_
  refine WPl.v rfl (o_assign rfl) ?_
  refine WPl.nil ?_
  refine EX.then ?_
  refine WP.ret ?_
  rw [show f.rdy = ((!f.far) && decide (errW f.chk = 0)) from by unfold Fnd.rdy; cases f.chk <;> simp [errW]]
  exact EX.fin id (.inl rfl) rfl (.tmp rfl .nil) rfl (by simp [SV.res, El.res, At.res, keys]) trivial (by simp) (by simp)
theorem w33 {f : Fnd} {plan : List (List Int)} : ∀ x ∈ ([.e (.g [ai (f.shop.pounds), ai (f.shop.tl), ai (f.shop.th), ai (f.shop.al), ai (f.shop.ah), ai (f.shop.room), ai (f.shop.tpl), ai (f.shop.tph), ai (f.shop.apl), ai (f.shop.aph), .q 0, .q 1]), .e (.a (.q 2))] : List SV), x.res (keys (α := Pred) [(0, PL EPig (f.shop.pigs)), (1, PL ENight (f.nights)), (2, PL (EP.sl EP.int) (plan))]) := by simp [SV.res, El.res, At.res, keys]
theorem r33 {f : Fnd} {plan : List (List Int)} : SV.res (keys (α := Pred) []) (.b (f.isPlanL plan)) := by simp [SV.res, El.res, At.res, keys]
set_option maxHeartbeats 4000000 in
theorem c33 (f : Fnd) (plan : List (List Int)) (hf : f.chk = true) : Sig Try.prog 33 [.e (.g [ai (f.shop.pounds), ai (f.shop.tl), ai (f.shop.th), ai (f.shop.al), ai (f.shop.ah), ai (f.shop.room), ai (f.shop.tpl), ai (f.shop.tph), ai (f.shop.apl), ai (f.shop.aph), .q 0, .q 1]), .e (.a (.q 2))] [(0, PL EPig (f.shop.pigs)), (1, PL ENight (f.nights)), (2, PL (EP.sl EP.int) (plan))] (.b (f.isPlanL plan)) [] := by
  refine Sig.intro Try.func33 rfl 3 [(0, .e (.g [ai (f.shop.pounds), ai (f.shop.tl), ai (f.shop.th), ai (f.shop.al), ai (f.shop.ah), ai (f.shop.room), ai (f.shop.tpl), ai (f.shop.tph), ai (f.shop.apl), ai (f.shop.aph), .q 0, .q 1])), (1, .e (.a (.q 2)))] rfl w33 rfl rfl fun I w => ?_
  refine WP.seq ?_
  refine WP.region ?_
  refine WPl.l 3 4 rfl rfl rfl (o_boxg rfl) ?_
  refine WPl.v rfl (o_assign rfl) ?_
  refine WPl.nil ?_
  refine EX.then ?_
  refine WP.seq ?_
  refine WP.region ?_
  refine WPl.v rfl (o_move rfl) ?_
  refine WPl.cs 4 rfl rfl rfl rfl (o_sig 4 (ren [(0, 2)]) (c15 plan) e15 rfl rfl rfl w15 ⟨(lx rfl), trivial⟩ r15) ?_
  refine WPl.v rfl (o_not rfl) ?_
  refine WPl.v rfl (o_move rfl) ?_
  refine WPl.bit 4 5 (!(longP plan)) rfl rfl ?_
  refine WPl.gv 4 rfl rfl (.plain rfl Iff.rfl rfl) (fun hb => o_ldpa G31 rfl rfl rfl) ?_
  refine WPl.gv 4 rfl rfl (.plain rfl Iff.rfl rfl) (fun hb => o_move rfl) ?_
  refine WPl.gc0 4 rfl rfl (.plain rfl Iff.rfl rfl) (fun hb => o_sig 5 (ren [(0, 0), (1, 1), (2, 2)]) (c99 f plan hf) e99 rfl rfl rfl w99 ⟨(lx rfl), (lx rfl), (lx rfl), trivial⟩ r99) ?_
  refine WPl.v rfl (o_and rfl rfl rfl id) ?_
  refine WPl.v rfl (o_assign rfl) ?_
  refine WPl.nil ?_
  refine EX.then ?_
  refine WP.ret ?_
  exact EX.fin id (.inl rfl) rfl (.tmp rfl .nil) rfl r33 trivial (by simp) (by simp)
theorem w34 {f : Fnd} {t : Tru} : ∀ x ∈ ([.e (.g [ai (f.shop.pounds), ai (f.shop.tl), ai (f.shop.th), ai (f.shop.al), ai (f.shop.ah), ai (f.shop.room), ai (f.shop.tpl), ai (f.shop.tph), ai (f.shop.apl), ai (f.shop.aph), .q 0, .q 1]), .e (.g [ai (t.tin), ai (t.ant), .q 2])] : List SV), x.res (keys (α := Pred) [(0, PL EPig (f.shop.pigs)), (1, PL ENight (f.nights)), (2, PL EP.int (t.dross))]) := by simp [SV.res, El.res, At.res, keys]
theorem r34 {f : Fnd} {t : Tru} : SV.res (keys (α := Pred) []) (.b (f.isTruth t)) := by simp [SV.res, El.res, At.res, keys]
set_option maxHeartbeats 4000000 in
theorem c34 (f : Fnd) (t : Tru) (hl : f.nights.length ≤ 40) : Sig Try.prog 34 [.e (.g [ai (f.shop.pounds), ai (f.shop.tl), ai (f.shop.th), ai (f.shop.al), ai (f.shop.ah), ai (f.shop.room), ai (f.shop.tpl), ai (f.shop.tph), ai (f.shop.apl), ai (f.shop.aph), .q 0, .q 1]), .e (.g [ai (t.tin), ai (t.ant), .q 2])] [(0, PL EPig (f.shop.pigs)), (1, PL ENight (f.nights)), (2, PL EP.int (t.dross))] (.b (f.isTruth t)) [] := by
  refine Sig.intro Try.func34 rfl 3 [(0, .e (.g [ai (f.shop.pounds), ai (f.shop.tl), ai (f.shop.th), ai (f.shop.al), ai (f.shop.ah), ai (f.shop.room), ai (f.shop.tpl), ai (f.shop.tph), ai (f.shop.apl), ai (f.shop.aph), .q 0, .q 1])), (1, .e (.g [ai (t.tin), ai (t.ant), .q 2]))] rfl w34 rfl rfl fun I w => ?_
  refine WP.seq ?_
  refine WP.region ?_
  refine WPl.l 3 4 rfl rfl rfl (o_boxg rfl) ?_
  refine WPl.l 4 5 rfl rfl rfl (o_boxg rfl) ?_
  refine WPl.v rfl (o_assign rfl) ?_
  refine WPl.nil ?_
  refine EX.then ?_
  refine WP.seq ?_
  refine WP.region ?_
  refine WPl.v rfl (o_fldp F31_0 rfl) ?_
  refine WPl.v rfl (o_fldp F28_0 rfl) ?_
  refine WPl.v rfl (o_ldpg G25 rfl rfl rfl) ?_
  refine WPl.l 5 6 rfl rfl rfl (o_alloc Z25) ?_
  refine WPl.s1 (o_stag G25 rfl rfl rfl ⟨rfl, rfl, rfl, rfl, rfl, trivial⟩ rfl rfl) ?_
  refine WPl.nil ?_
  refine EX.then ?_
  refine WP.seq ?_
  refine WP.seq ?_
  refine WP.region ?_
  refine WPl.v rfl (o_fldp F53_0 rfl) ?_
  refine WPl.v rfl (o_ldp S3 rfl rfl rfl) ?_
  refine WPl.v rfl (o_fldp F25_1 rfl) ?_
  refine WPl.v rfl (o_fldp F23_0 rfl) ?_
  refine WPl.v rfl (o_ldp S3 rfl rfl rfl) ?_
  refine WPl.v rfl (o_fldp F25_1 rfl) ?_
  refine WPl.v rfl (o_fldp F23_1 rfl) ?_
  refine WPl.v rfl (o_ldp S3 rfl rfl rfl) ?_
  refine WPl.cs 6 rfl rfl rfl rfl (o_sig 6 id (c35 t.tin f.shop.tl f.shop.th) e35 rfl rfl rfl w35 trivial r35) ?_
  refine WPl.v rfl (o_not rfl) ?_
  refine WPl.v rfl (o_move rfl) ?_
  refine WPl.bit 6 7 (!(!(within t.tin f.shop.tl f.shop.th))) rfl rfl ?_
  refine WPl.gv 6 rfl rfl (.plain rfl (by simp) rfl) (fun hb => o_fldp F53_1 rfl) ?_
  refine WPl.gv 6 rfl rfl (.plain rfl (by simp) rfl) (fun hb => o_ldp S3 rfl rfl rfl) ?_
  refine WPl.gv 6 rfl rfl (.plain rfl (by simp) rfl) (fun hb => o_fldp F25_2 rfl) ?_
  refine WPl.gv 6 rfl rfl (.plain rfl (by simp) rfl) (fun hb => o_fldp F23_0 rfl) ?_
  refine WPl.gv 6 rfl rfl (.plain rfl (by simp) rfl) (fun hb => o_ldp S3 rfl rfl rfl) ?_
  refine WPl.gv 6 rfl rfl (.plain rfl (by simp) rfl) (fun hb => o_fldp F25_2 rfl) ?_
  refine WPl.gv 6 rfl rfl (.plain rfl (by simp) rfl) (fun hb => o_fldp F23_1 rfl) ?_
  refine WPl.gv 6 rfl rfl (.plain rfl (by simp) rfl) (fun hb => o_ldp S3 rfl rfl rfl) ?_
  refine WPl.gc0 6 rfl rfl (.plain rfl (by simp) rfl) (fun hb => o_sig 7 id (c35 t.ant f.shop.al f.shop.ah) e35 rfl rfl rfl w35 trivial r35) ?_
  refine WPl.gv 6 rfl rfl (.plain rfl (by simp) rfl) (fun hb => o_not rfl) ?_
  refine WPl.v rfl (o_or rfl rfl rfl (by first | (simp; done) | simp_all)) ?_
  refine WPl.v rfl (o_move rfl) ?_
  refine WPl.bit 7 8 (!((!(within t.tin f.shop.tl f.shop.th)) || (!(within t.ant f.shop.al f.shop.ah)))) rfl rfl ?_
  refine WPl.gv 7 rfl rfl (.plain rfl (by simp) rfl) (fun hb => o_fldp F53_2 rfl) ?_
  refine WPl.gv 7 rfl rfl (.plain rfl (by simp) rfl) (fun hb => o_ldp S44 rfl rfl rfl) ?_
  refine WPl.gv 7 rfl rfl (.plain rfl (by simp) rfl) (fun hb => o_lenq L44 rfl (lx rfl)) ?_
  refine WPl.gv 7 rfl rfl (.plain rfl (by simp) rfl) (fun hb => o_fldp F31_1 rfl) ?_
  refine WPl.gv 7 rfl rfl (.plain rfl (by simp) rfl) (fun hb => o_ldp S29 rfl rfl rfl) ?_
  refine WPl.gv 7 rfl rfl (.plain rfl (by simp) rfl) (fun hb => o_lenq L29 rfl (lx rfl)) ?_
  refine WPl.gv 7 rfl rfl (.plain rfl (by simp) rfl) (fun hb => o_neq rfl rfl) ?_
  refine WPl.v rfl (o_or rfl rfl rfl (by first | (simp; done) | simp_all)) ?_
  refine WPl.nil ?_
  refine EX.then ?_
  refine WP.cond rfl (fun hc1 => ?_) (fun hc1 => ?_)
  · try simp only [decide_eq_true_eq, decide_eq_false_iff_not, Bool.and_eq_true, Bool.or_eq_true, Bool.and_eq_false_iff, Bool.or_eq_false_iff, Bool.not_eq_true', Bool.not_eq_false', ne_eq, Decidable.not_not] at hc1
    refine WP.seq ?_
    refine WP.region ?_
    refine WPl.v rfl (o_assign rfl) ?_
    refine WPl.nil ?_
    refine EX.then ?_
    refine WP.ret ?_
    refine EX.ret_then ?_
    rw [show f.isTruth t = false from by simp only [Fnd.isTruth, Bool.and_eq_false_iff, decide_eq_false_iff_not]; exact .inl hc1]
    exact EX.fin id (.inl rfl) rfl (.tmp rfl .nil) rfl (by simp [SV.res, El.res, At.res, keys]) trivial (by simp) (by simp)
  · try simp only [decide_eq_true_eq, decide_eq_false_iff_not, Bool.and_eq_true, Bool.or_eq_true, Bool.and_eq_false_iff, Bool.or_eq_false_iff, Bool.not_eq_true', Bool.not_eq_false', ne_eq, Decidable.not_not] at hc1
    refine WP.skip ?_
    refine EX.then ?_
    refine WP.seq ?_
    refine WP.seq ?_
    refine WP.region ?_
    refine WPl.v rfl (o_assign rfl) ?_
    refine WPl.nil ?_
    refine EX.then ?_
    refine WP.block ?_
    refine WP.loop (Gh := Nat) (fun i => ⟨8, [(2, .e (.a (.p 3 (0)))), (3, .e (.a (.p 4 (0)))), (4, .b (false)), (6, .i ((i : Int)))], [(0, PL EPig (f.shop.pigs)), (1, PL ENight (f.nights)), (2, PL EP.int (t.dross))], [(3, .blk [ai (f.shop.pounds), ai (f.shop.tl), ai (f.shop.th), ai (f.shop.al), ai (f.shop.ah), ai (f.shop.room), ai (f.shop.tpl), ai (f.shop.tph), ai (f.shop.apl), ai (f.shop.aph), .q 0, .q 1] 31), (4, .blk [ai (t.tin), ai (t.ant), .q 2] 53)], [], []⟩) (fun i => i ≤ t.dross.length ∧ allI (f.truthAt t) i = true) (fun i => t.dross.length - i) (0) id ?_ (LeR.of ⟨rfl, rfl, rfl, rfl, trivial⟩ ⟨(lx rfl), (lx rfl), (lx rfl), trivial⟩ ⟨rfl, rfl, trivial⟩ rfl rfl rfl rfl rfl) ?_
    · exact ⟨by omega, rfl⟩
    intro i hφ
    have hi : i ≤ t.dross.length := hφ.1
    have hall := hφ.2
    have hlen : (t.dross.length : Int) = f.nights.length := hc1.2
    refine WP.seq ?_
    refine WP.seq ?_
    refine WP.region ?_
    refine WPl.v rfl (o_move rfl) ?_
    refine WPl.v rfl (o_fldp F53_2 rfl) ?_
    refine WPl.v rfl (o_ldp S44 rfl rfl rfl) ?_
    refine WPl.v rfl (o_lenq L44 rfl (lx rfl)) ?_
    refine WPl.v rfl (o_lss rfl rfl) ?_
    refine WPl.nil ?_
    refine EX.then ?_
    refine WP.cond rfl (fun hc2 => ?_) (fun hc2 => ?_)
    · try simp only [decide_eq_true_eq, decide_eq_false_iff_not, Bool.and_eq_true, Bool.or_eq_true, Bool.and_eq_false_iff, Bool.or_eq_false_iff, Bool.not_eq_true', Bool.not_eq_false', ne_eq, Decidable.not_not] at hc2
      refine WP.skip ?_
      refine EX.then ?_
      refine WP.seq ?_
      refine WP.block ?_
      refine WP.seq ?_
      refine WP.region ?_
      refine WPl.v rfl (o_fldp F31_1 rfl) ?_
      refine WPl.v rfl (o_ldp S29 rfl rfl rfl) ?_
      refine WPl.v rfl (o_move rfl) ?_
      refine WPl.x 8 9 rfl rfl rfl (o_idx L29 rfl (lx rfl) rfl (by first | omega | (simp; omega)) (by first | omega | (simp; omega))) ?_
      refine WPl.v rfl (o_fldq F75_0 rfl (lx rfl)) ?_
      refine WPl.v rfl (o_ldeg G23 rfl (lx rfl) (strG rfl) rfl rfl) ?_
      refine WPl.l 9 10 rfl rfl rfl (o_alloc Z23) ?_
      refine WPl.s1 (o_stag G23 rfl rfl rfl ⟨rfl, rfl, trivial⟩ rfl rfl) ?_
      refine WPl.nil ?_
      refine EX.then ?_
      refine WP.seq ?_
      refine WP.draw (nf := 11) [⟨[57, 60, 61, 62, 63], [], [], [], []⟩, ⟨[57, 60, 61, 62, 63], [], [], [], [0]⟩, ⟨[55, 56, 60, 61, 62, 63], [], [], [], []⟩, ⟨[60, 61, 62, 63], [], [10], [10], [0, 1, 2]⟩, ⟨[60, 61, 62, 63], [], [], [], [0, 1, 2, 3]⟩, ⟨[55, 56, 57, 58, 59, 62, 63], [10], [], [], []⟩, ⟨[55, 56, 57, 58, 59, 62, 63], [10], [], [], [5]⟩, ⟨[55, 56, 57, 58, 59, 60, 61], [10], [], [], []⟩, ⟨[55, 56, 57, 58, 59, 60, 61], [10], [], [], [7]⟩, ⟨[], [], [], [], [0, 1, 2, 3, 4, 5, 6, 7, 8]⟩, ⟨[], [], [], [], [0, 1, 2, 3, 4, 5, 6, 7, 8, 9]⟩] (by kernel_rfl) (by kernel_rfl) ?_
      refine DRQ.v rfl rfl rfl (o_fldp F53_2 rfl) ?_
      refine DRQ.v rfl rfl rfl (o_ldp S44 rfl rfl rfl) ?_
      refine DRQ.v rfl rfl rfl (o_move rfl) ?_
      refine DRQ.x 10 rfl rfl rfl rfl (o_idx L44 rfl (lx rfl) rfl (by first | omega | (simp; omega)) (by first | omega | (simp; omega))) ?_
      refine DRQ.v rfl rfl rfl (o_ldq S3 rfl (lx rfl) intc) ?_
      refine DRQ.v rfl rfl rfl (o_fldp F23_0 rfl) ?_
      refine DRQ.v rfl rfl rfl (o_ldp S3 rfl rfl rfl) ?_
      refine DRQ.v rfl rfl rfl (o_fldp F23_1 rfl) ?_
      refine DRQ.v rfl rfl rfl (o_ldp S3 rfl rfl rfl) ?_
      refine DRQ.cs rfl rfl rfl rfl (o_sig 11 id (c35 (nth t.dross (i : Int)) ((nth f.nights (i : Int)).lo) ((nth f.nights (i : Int)).hi)) e35 rfl rfl rfl w35 trivial r35) ?_
      refine DRQ.v rfl rfl rfl (o_not rfl) ?_
      refine DRQ.nil' ?_
      refine EX.then ?_
      refine WP.cond rfl (fun hc3 => ?_) (fun hc3 => ?_)
      · try simp only [decide_eq_true_eq, decide_eq_false_iff_not, Bool.and_eq_true, Bool.or_eq_true, Bool.and_eq_false_iff, Bool.or_eq_false_iff, Bool.not_eq_true', Bool.not_eq_false', ne_eq, Decidable.not_not] at hc3
        refine WP.seq ?_
        refine WP.region ?_
        refine WPl.v rfl (o_assign rfl) ?_
        refine WPl.nil ?_
        refine EX.then ?_
        refine WP.ret ?_
        refine EX.ret_blk ?_
        refine EX.ret_then ?_
        refine EX.ret_then ?_
        refine EX.ret_blk ?_
        refine EX.ret_then ?_
        rw [show f.isTruth t = false from by simp only [Fnd.isTruth, Bool.and_eq_false_iff]; exact .inr (not_allI (show i < t.dross.length by omega) hc3)]
        exact EX.fin id (.inl rfl) rfl (.tmp rfl .nil) rfl (by simp [SV.res, El.res, At.res, keys]) trivial (by simp) (by simp)
      · try simp only [decide_eq_true_eq, decide_eq_false_iff_not, Bool.and_eq_true, Bool.or_eq_true, Bool.and_eq_false_iff, Bool.or_eq_false_iff, Bool.not_eq_true', Bool.not_eq_false', ne_eq, Decidable.not_not] at hc3
        refine WP.skip ?_
        refine EX.blk ?_
        refine EX.then ?_
        refine WP.region ?_
        refine WPl.v rfl (o_move rfl) ?_
        refine WPl.v rfl (o_add rfl rfl (by first | omega | (simp; omega)) (by first | omega | (simp; omega))) ?_
        refine WPl.v rfl (o_assign rfl) ?_
        refine WPl.nil ?_
        refine EX.again (i + 1) id (by exact ⟨by omega, by simp only [allI, hall, Bool.true_and]; exact hc3⟩) (by omega) (LeR.of ⟨rfl, rfl, rfl, rfl, trivial⟩ ⟨(lx rfl), (lx rfl), (lx rfl), trivial⟩ ⟨rfl, rfl, trivial⟩ rfl rfl rfl rfl rfl)
    · try simp only [decide_eq_true_eq, decide_eq_false_iff_not, Bool.and_eq_true, Bool.or_eq_true, Bool.and_eq_false_iff, Bool.or_eq_false_iff, Bool.not_eq_true', Bool.not_eq_false', ne_eq, Decidable.not_not] at hc2
      refine WP.exit ?_
      refine EX.exit_then ?_
      refine EX.exit_then ?_
      refine EX.exit_blk ?_
      refine EX.then ?_
      refine WP.seq ?_
      refine WP.region ?_
      refine WPl.v rfl (o_assign rfl) ?_
      refine WPl.nil ?_
      refine EX.then ?_
      refine WP.ret ?_
      have he : i = t.dross.length := by omega
      subst he
      rw [show f.isTruth t = true from by simp only [Fnd.isTruth, hall, Bool.and_eq_true, decide_eq_true_eq]; exact ⟨hc1, trivial⟩]
      exact EX.fin id (.inl rfl) rfl (.tmp rfl .nil) rfl (by simp [SV.res, El.res, At.res, keys]) trivial (by simp) (by simp)
theorem w37 {f : Fnd} {plan : List (List Int)} {k : Int} : ∀ x ∈ ([.e (.g [ai (f.shop.pounds), ai (f.shop.tl), ai (f.shop.th), ai (f.shop.al), ai (f.shop.ah), ai (f.shop.room), ai (f.shop.tpl), ai (f.shop.tph), ai (f.shop.apl), ai (f.shop.aph), .q 0, .q 1]), .e (.a (.q 2)), .i (k)] : List SV), x.res (keys (α := Pred) [(0, PL EPig (f.shop.pigs)), (1, PL ENight (f.nights)), (2, PL (EP.sl EP.int) (plan))]) := by simp [SV.res, El.res, At.res, keys]
theorem r37 {f : Fnd} {plan : List (List Int)} {k : Int} : SV.res (keys (α := Pred) [(0, PL EP.int (upTo f.shop.pigs.length plan (k + 1).toNat))]) (.e (.a (.q 0))) := by simp [SV.res, El.res, At.res, keys]
set_option maxHeartbeats 4000000 in
theorem c37 (f : Fnd) (plan : List (List Int)) (k : Int) (hs : f.shop.pigs.length ≤ 4) (hk : -1 ≤ k ∧ k < plan.length) (hpl : plan.length ≤ 40) (hp : ∀ i : Nat, i < plan.length → (nth plan i).length = f.shop.pigs.length ∧ bnd (nth plan i) 1000) : Sig Try.prog 37 [.e (.g [ai (f.shop.pounds), ai (f.shop.tl), ai (f.shop.th), ai (f.shop.al), ai (f.shop.ah), ai (f.shop.room), ai (f.shop.tpl), ai (f.shop.tph), ai (f.shop.apl), ai (f.shop.aph), .q 0, .q 1]), .e (.a (.q 2)), .i (k)] [(0, PL EPig (f.shop.pigs)), (1, PL ENight (f.nights)), (2, PL (EP.sl EP.int) (plan))] (.e (.a (.q 0))) [(0, PL EP.int (upTo f.shop.pigs.length plan (k + 1).toNat))] := by
  have hub := upTo_bnd (by omega) hp
  have hul := upTo_len f.shop.pigs.length plan
  have hal := fun i j => addTo_len (upTo f.shop.pigs.length plan i) (nth plan i) j
  refine Sig.intro Try.func37 rfl 3 [(0, .e (.g [ai (f.shop.pounds), ai (f.shop.tl), ai (f.shop.th), ai (f.shop.al), ai (f.shop.ah), ai (f.shop.room), ai (f.shop.tpl), ai (f.shop.tph), ai (f.shop.apl), ai (f.shop.aph), .q 0, .q 1])), (1, .e (.a (.q 2))), (2, .i (k))] rfl w37 rfl rfl fun I w => ?_
  refine WP.seq ?_
  refine WP.region ?_
  refine WPl.l 3 4 rfl rfl rfl (o_boxg rfl) ?_
  refine WPl.v rfl (o_assign rfl) ?_
  refine WPl.nil ?_
  refine EX.then ?_
  refine WP.seq ?_
  refine WP.region ?_
  refine WPl.v rfl (o_fldp F31_0 rfl) ?_
  refine WPl.v rfl (o_fldp F28_4 rfl) ?_
  refine WPl.v rfl (o_ldp S26 rfl rfl rfl) ?_
  refine WPl.v rfl (o_lenq L26 rfl (lx rfl)) ?_
  refine WPl.l 4 5 rfl rfl rfl (o_make (z := 0) (E := EP.int) f.shop.pigs.length R44 (fun _ => rfl) rfl rfl (by first | omega | (simp; omega)) (by first | omega | (simp; omega))) ?_
  refine WPl.v rfl (o_assign rfl) ?_
  refine WPl.nil ?_
  refine EX.then ?_
  refine WP.seq ?_
  refine WP.seq ?_
  refine WP.region ?_
  refine WPl.v rfl (o_assign rfl) ?_
  refine WPl.nil ?_
  refine EX.then ?_
  refine WP.block ?_
  refine WP.loop (Gh := Nat) (fun i => ⟨5, [(1, .e (.a (.q 2))), (2, .i (k)), (6, .e (.a (.v (.slice none 0 0)))), (7, .e (.a (.q 4))), (8, .i ((i : Int)))], [(2, PL (EP.sl EP.int) (plan))], [(4, .own 3 EP.int.size (upTo f.shop.pigs.length plan i).length (RP EP.int (upTo f.shop.pigs.length plan i)))], [], []⟩) (fun i => i ≤ (k + 1).toNat) (fun i => (k + 1).toNat - i) (0) id ?_ (LeR.of ⟨rfl, rfl, rfl, rfl, rfl, trivial⟩ ⟨(lx rfl), trivial⟩ ⟨rfl, trivial⟩ rfl rfl rfl rfl rfl) ?_
  · first | trivial | omega | (constructor <;> omega) | simp
  intro i hφ
  try simp only [] at hφ
  refine WP.seq ?_
  refine WP.seq ?_
  refine WP.region ?_
  refine WPl.v rfl (o_move rfl) ?_
  refine WPl.v rfl (o_move rfl) ?_
  refine WPl.v rfl (o_leq rfl rfl) ?_
  refine WPl.nil ?_
  refine EX.then ?_
  refine WP.cond rfl (fun hc1 => ?_) (fun hc1 => ?_)
  · try simp only [decide_eq_true_eq, decide_eq_false_iff_not, Bool.and_eq_true, Bool.or_eq_true, Bool.and_eq_false_iff, Bool.or_eq_false_iff, Bool.not_eq_true', Bool.not_eq_false', ne_eq, Decidable.not_not] at hc1
    refine WP.skip ?_
    refine EX.then ?_
    refine WP.seq ?_
    refine WP.block ?_
    refine WP.seq ?_
    refine WP.region ?_
    refine WPl.v rfl (o_assign rfl) ?_
    refine WPl.nil ?_
    refine EX.then ?_
    refine WP.block ?_
    refine WP.loop (Gh := Nat) (fun j => ⟨5, [(1, .e (.a (.q 2))), (2, .i (k)), (6, .e (.a (.v (.slice none 0 0)))), (7, .e (.a (.q 4))), (8, .i ((i : Int))), (15, .i ((i : Int))), (16, .i (k)), (17, .b (decide ((i : Int) ≤ k))), (9, .i ((j : Int)))], [(2, PL (EP.sl EP.int) (plan))], [(4, .own 3 EP.int.size (addTo (upTo f.shop.pigs.length plan i) (nth plan i) j).length (RP EP.int (addTo (upTo f.shop.pigs.length plan i) (nth plan i) j)))], [], []⟩) (fun j => j ≤ f.shop.pigs.length) (fun j => f.shop.pigs.length - j) (0) id ?_ (LeR.of ⟨rfl, rfl, rfl, rfl, rfl, rfl, rfl, rfl, rfl, trivial⟩ ⟨(lx rfl), trivial⟩ ⟨rfl, trivial⟩ rfl rfl rfl rfl rfl) ?_
    · first | trivial | omega | (constructor <;> omega) | simp
    intro j hφ
    have hj : j ≤ f.shop.pigs.length := hφ
    have haj := hal i j
    have hui := hul i
    refine WP.seq ?_
    refine WP.seq ?_
    refine WP.region ?_
    refine WPl.v rfl (o_move rfl) ?_
    refine WPl.v rfl (o_move rfl) ?_
    refine WPl.v rfl (o_leno L44 rfl rfl) ?_
    refine WPl.v rfl (o_lss rfl rfl) ?_
    refine WPl.nil ?_
    refine EX.then ?_
    refine WP.cond rfl (fun hc2 => ?_) (fun hc2 => ?_)
    · try simp only [decide_eq_true_eq, decide_eq_false_iff_not, Bool.and_eq_true, Bool.or_eq_true, Bool.and_eq_false_iff, Bool.or_eq_false_iff, Bool.not_eq_true', Bool.not_eq_false', ne_eq, Decidable.not_not] at hc2
      refine WP.skip ?_
      refine EX.then ?_
      refine WP.seq ?_
      refine WP.block ?_
      refine WP.draw (nf := 8) [⟨[27, 30, 31, 32, 33, 34, 35, 36], [5, 6, 7], [], [], []⟩, ⟨[26, 30, 31, 32, 33, 34, 35, 36], [5, 6, 7], [], [], []⟩, ⟨[30, 31, 32, 33, 34, 35, 36], [5, 6, 7], [], [], [0, 1]⟩, ⟨[30, 31, 32, 33, 34, 35, 36], [5, 6, 7], [], [], [0, 1, 2]⟩, ⟨[26, 27, 28, 29, 31, 34], [], [], [], []⟩, ⟨[26, 27, 28, 29, 30, 34], [], [], [], []⟩, ⟨[26, 27, 28, 29, 34], [], [5], [5], [4, 5]⟩, ⟨[26, 27, 28, 29, 34], [], [6], [6], [4, 5, 6]⟩, ⟨[26, 27, 28, 29, 30, 31, 32, 33], [5, 6], [], [], []⟩, ⟨[26, 27, 28, 29], [], [7], [7], [4, 5, 6, 7, 8]⟩, ⟨[26, 27, 28, 29], [], [], [], [4, 5, 6, 7, 8, 9]⟩, ⟨[], [], [], [], [0, 1, 2, 3, 4, 5, 6, 7, 8, 9, 10]⟩, ⟨[], [], [], [], [0, 1, 2, 3, 4, 5, 6, 7, 8, 9, 10, 11]⟩, ⟨[], [], [], [4], [0, 1, 2, 3, 4, 5, 6, 7, 8, 9, 10, 11, 12]⟩] (by kernel_rfl) (by kernel_rfl) ?_
      have hx1 := hub i (by omega) j (by rw [hul]; have := hal i j; have := hul i; omega)
      have hx2 := (hp i (by omega)).2 j (by have := (hp i (by omega)).1; have := hal i j; have := hul i; omega)
      have hx3 : nth (addTo (upTo f.shop.pigs.length plan i) (nth plan i) j) (j : Int) = nth (upTo f.shop.pigs.length plan i) (j : Int) := by rw [addTo_nth _ _ j j (by have := hal i j; have := hul i; omega), if_neg (Nat.lt_irrefl _)]
      refine DRQ.v rfl rfl rfl (o_move rfl) ?_
      refine DRQ.v rfl rfl rfl (o_move rfl) ?_
      refine DRQ.v rfl rfl rfl (o_idxo L44 rfl rfl rfl (by have := hal i j; have := hul i; omega) (by have := hal i j; have := hul i; omega)) ?_
      refine DRQ.v rfl rfl rfl (o_ldoi S3 rfl rfl rfl rfl (by have := hal i j; have := hul i; omega) (by have := hal i j; have := hul i; omega)) ?_
      refine DRQ.v rfl rfl rfl (o_move rfl) ?_
      refine DRQ.v rfl rfl rfl (o_move rfl) ?_
      refine DRQ.x 5 rfl rfl rfl rfl (o_idx L32 rfl (lx rfl) rfl (by first | omega | (simp; omega)) (by first | omega | (simp; omega))) ?_
      refine DRQ.x 6 rfl rfl rfl rfl (o_ldqx S44 rfl (lx rfl) slx) ?_
      refine DRQ.v rfl rfl rfl (o_move rfl) ?_
      refine DRQ.x 7 rfl rfl rfl rfl (o_idx L44 rfl (lx rfl) rfl (by have := (hp i (by omega)).1; have := hal i j; have := hul i; omega) (by have := (hp i (by omega)).1; have := hal i j; have := hul i; omega)) ?_
      refine DRQ.v rfl rfl rfl (o_ldq S3 rfl (lx rfl) intc) ?_
      refine DRQ.v rfl rfl rfl (o_add rfl rfl (by first | omega | (simp; omega)) (by first | omega | (simp; omega))) ?_
      refine DRQ.v rfl rfl rfl (o_idxo L44 rfl rfl rfl (by have := hal i j; have := hul i; omega) (by have := hal i j; have := hul i; omega)) ?_
      refine DRQ.s 4 rfl rfl rfl (o_steE2 Try.sizeOf3 rfl rfl rfl rfl eok_int rfl rfl rfl (by have := hal i j; have := hul i; omega) (by have := hal i j; have := hul i; omega)) ?_
      refine DRQ.nil' ?_
      refine EX.blk ?_
      refine EX.then ?_
      refine WP.region ?_
      refine WPl.v rfl (o_move rfl) ?_
      refine WPl.v rfl (o_add rfl rfl (by first | omega | (simp; omega)) (by first | omega | (simp; omega))) ?_
      refine WPl.v rfl (o_assign rfl) ?_
      refine WPl.nil ?_
      refine EX.again (j + 1) id (by first | omega | (constructor <;> omega)) (by omega) (LeR.of ⟨rfl, rfl, rfl, rfl, rfl, rfl, rfl, rfl, rfl, trivial⟩ ⟨(lx rfl), trivial⟩ ⟨rfl, trivial⟩ rfl rfl rfl rfl rfl)
    · try simp only [decide_eq_true_eq, decide_eq_false_iff_not, Bool.and_eq_true, Bool.or_eq_true, Bool.and_eq_false_iff, Bool.or_eq_false_iff, Bool.not_eq_true', Bool.not_eq_false', ne_eq, Decidable.not_not] at hc2
      refine WP.exit ?_
      refine EX.exit_then ?_
      refine EX.exit_then ?_
      refine EX.exit_blk ?_
      refine EX.blk ?_
      refine EX.then ?_
      refine WP.region ?_
      refine WPl.v rfl (o_move rfl) ?_
      refine WPl.v rfl (o_add rfl rfl (by first | omega | (simp; omega)) (by first | omega | (simp; omega))) ?_
      refine WPl.v rfl (o_assign rfl) ?_
      refine WPl.nil ?_
      refine EX.again (i + 1) id (by first | omega | (constructor <;> omega)) (by omega) (LeR.of ⟨rfl, rfl, rfl, rfl, rfl, trivial⟩ ⟨(lx rfl), trivial⟩ ⟨(congrArg (fun z => some (Ent.own 3 EP.int.size (List.length z) (RP EP.int z))) (show (addTo (upTo f.shop.pigs.length plan i) (nth plan i) j) = ((fun i => upTo f.shop.pigs.length plan i) (i + 1)) from by show _ = plus _ _; exact addTo_plus (by have := hal i j; have := hul i; omega))), trivial⟩ rfl rfl rfl rfl rfl)
  · try simp only [decide_eq_true_eq, decide_eq_false_iff_not, Bool.and_eq_true, Bool.or_eq_true, Bool.and_eq_false_iff, Bool.or_eq_false_iff, Bool.not_eq_true', Bool.not_eq_false', ne_eq, Decidable.not_not] at hc1
    refine WP.exit ?_
    refine EX.exit_then ?_
    refine EX.exit_then ?_
    refine EX.exit_blk ?_
    refine EX.then ?_
    refine WP.seq ?_
    refine WP.region ?_
    refine WPl.v rfl (o_move rfl) ?_
    refine WPl.v rfl (o_assign rfl) ?_
    refine WPl.nil ?_
    refine EX.then ?_
    refine WP.ret ?_
    refine EX.imp (Imp.frz (E := EP.int) (l := upTo f.shop.pigs.length plan i) 4 rfl rfl) ?_
    have hi2 : i = (k + 1).toNat := by omega
    subst hi2
    exact EX.fin (ren [(0, 4)]) (.inl rfl) rfl (.tmp rfl .nil) rfl (by simp [SV.res, El.res, At.res, keys]) ⟨(lx rfl), trivial⟩ (by simp) (by simp)
end Go.Flong
