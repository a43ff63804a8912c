/- TopBeaten returns true for every input and leaves its arguments as they were (the new moulds). No condition. -/
import Derived.Test.YtodeaohjdioppaaZP3
set_option linter.unusedSimpArgs false
set_option linter.unusedVariables false
namespace Go.Flong
open Go Go.Eng Go.Proofs
theorem e42 : Enters' Try.prog 42 := Try.call42
theorem e41 : Enters' Try.prog 41 := Try.call41
theorem e26 : Enters' Try.prog 26 := Try.call26
theorem B70 : BldT Try.prog 70 [(0, 4), (4, 1), (5, 5)] [.slice none 0 0, .slice none 0 0, .slice none 0 0, .int .i64 0, .slice none 0 0, .int .i64 0, .int .i64 0, .int .i64 0, .int .i64 0, .int .i64 0] := BldT.mk (ns := [4, 1, 5]) Try.underlying70 ⟨Try.sizeOf26, Try.sizeOf66, Try.sizeOf68, trivial⟩ rfl Try.zeroValue70 rfl
theorem Z52 : Zero Try.prog 52 [.v (.pointer none)] := .mk Try.zeroValue52 rfl rfl
theorem S52 : TyS Try.prog 52 := ⟨Try.isAgg52, Try.sizeOf52⟩
theorem e27 : Enters' Try.prog 27 := Try.call27
theorem Z68 : Zero Try.prog 68 [ai (0), ai (0), ai (0), ai (0), ai (0)] := .mk Try.zeroValue68 rfl rfl
theorem A68 : IsArr Try.prog 68 3 5 := ⟨Try.underlying68, Try.sizeOf3⟩
theorem F70_2 : Fld Try.prog 70 2 5 := .mk Try.underlying70 rfl rfl rfl Try.sizeOf68 rfl
theorem F70_1 : Fld Try.prog 70 1 4 := .mk Try.underlying70 rfl rfl rfl Try.sizeOf66 rfl
theorem S66 : TyS Try.prog 66 := ⟨Try.isAgg66, Try.sizeOf66⟩
theorem L66 : IsSl Try.prog 66 68 5 := ⟨Try.underlying66, Try.sizeOf68⟩
theorem G68 : TyG Try.prog 68 5 := ⟨Try.isAgg68, Try.sizeOf68⟩
theorem R66 : RowT Try.prog 66 68 5 40 [.int .i64 0, .int .i64 0, .int .i64 0, .int .i64 0, .int .i64 0] := ⟨Try.underlying66, ⟨Try.t68, _, by kernel_rfl, rfl, rfl, rfl, rfl⟩, rfl, by decide⟩
theorem w42 {f : FSh} {u : List Int} : ∀ x ∈ ([.e (.g [.q 0, .q 1, .q 2, ai (f.fresh)]), .e (.a (.q 3))] : List SV), x.res (keys (α := Pred) [(0, PL EMo (f.moulds)), (1, PL (EP.sl EP.int) (f.worlds)), (2, PL EP.int (f.wants)), (3, PL EP.int (u))]) := by simp [SV.res, El.res, At.res, keys]
theorem r42 {f : FSh} {u : List Int} : SV.res (keys (α := Pred) []) (.b (f.agrees u)) := by simp [SV.res, El.res, At.res, keys]
set_option maxHeartbeats 4000000 in
theorem c42 (f : FSh) (u : List Int) (hm : f.moulds.length ≤ 1000) (hl : u.length = f.moulds.length) : Sig Try.prog 42 [.e (.g [.q 0, .q 1, .q 2, ai (f.fresh)]), .e (.a (.q 3))] [(0, PL EMo (f.moulds)), (1, PL (EP.sl EP.int) (f.worlds)), (2, PL EP.int (f.wants)), (3, PL EP.int (u))] (.b (f.agrees u)) [] := by
  refine Sig.intro Try.func42 rfl 4 [(0, .e (.g [.q 0, .q 1, .q 2, ai (f.fresh)])), (1, .e (.a (.q 3)))] rfl w42 rfl rfl fun I w => ?_
  refine WP.seq ?_
  refine WP.region ?_
  refine WPl.l 4 5 rfl rfl rfl (o_boxg rfl) ?_
  refine WPl.v rfl (o_assign rfl) ?_
  refine WPl.nil ?_
  refine EX.then ?_
  refine WP.seq ?_
  refine WP.seq ?_
  refine WP.region ?_
  refine WPl.v rfl (o_fldp F26_0 rfl) ?_
  refine WPl.v rfl (o_ldp S22 rfl rfl rfl) ?_
  refine WPl.v rfl (o_lenq L22 rfl (lx rfl)) ?_
  refine WPl.v rfl (o_move rfl) ?_
  refine WPl.nil ?_
  refine EX.then ?_
  refine WP.block ?_
  refine WP.loop (Gh := Nat) (fun i => ⟨5, [(1, .e (.a (.q 3))), (4, .b (false)), (8, .e (.a (.q 0))), (9, .i ((f.moulds.length : Int))), (10, .i ((i : Int)))], [(0, PL EMo (f.moulds)), (3, PL EP.int (u))], [], [], []⟩) (fun i => i ≤ f.moulds.length ∧ allI (agreeAt f u) i = true) (fun i => f.moulds.length - i) (0) id ?_ (LeR.of ⟨rfl, rfl, rfl, rfl, rfl, trivial⟩ ⟨(lx rfl), (lx rfl), trivial⟩ trivial rfl rfl rfl rfl rfl) ?_
  · exact ⟨by omega, rfl⟩
  intro i hφ
  have hi : i ≤ f.moulds.length := hφ.1
  have hall := hφ.2
  refine WP.seq ?_
  refine WP.region ?_
  refine WPl.v rfl (o_lss rfl rfl) ?_
  refine WPl.nil ?_
  refine EX.then ?_
  refine WP.seq ?_
  refine WP.cond rfl (fun hc1 => ?_) (fun hc1 => ?_)
  · try simp only [decide_eq_true_eq, decide_eq_false_iff_not, Bool.and_eq_true, Bool.or_eq_true, Bool.and_eq_false_iff, Bool.or_eq_false_iff, Bool.not_eq_true', Bool.not_eq_false', ne_eq, Decidable.not_not] at hc1
    refine WP.skip ?_
    refine EX.then ?_
    refine WP.seq ?_
    refine WP.block ?_
    refine WP.seq ?_
    refine WP.region ?_
    refine WPl.v rfl (o_move rfl) ?_
    refine WPl.x 5 6 rfl rfl rfl (o_idx L22 rfl (lx rfl) rfl (by first | omega | (simp; omega)) (by first | omega | (simp; omega))) ?_
    refine WPl.v rfl (o_ldqg G47 rfl (lx rfl) (strG rfl) rfl rfl) ?_
    refine WPl.l 6 7 rfl rfl rfl (o_alloc Z47) ?_
    refine WPl.v rfl (o_assign rfl) ?_
    refine WPl.s1 (o_stag G47 rfl rfl rfl ⟨rfl, rfl, rfl, trivial⟩ rfl rfl) ?_
    refine WPl.nil ?_
    refine EX.then ?_
    refine WP.seq ?_
    refine WP.imp (Imp.bit 7 8 (!(decide ((nth u (i : Int)) < ((nth f.moulds (i : Int)).used)))) rfl rfl) ?_
    refine WP.imp (Imp.bit 8 9 ((!(decide ((nth u (i : Int)) < ((nth f.moulds (i : Int)).used)))) && (decide (((nth f.moulds (i : Int)).broke) = 1))) rfl rfl) ?_
    refine WP.draw (nf := 11) [⟨[16, 19, 20], [], [], [], []⟩, ⟨[15, 19, 20], [], [], [], []⟩, ⟨[19, 20], [], [9], [9], [0, 1]⟩, ⟨[19, 20], [], [], [], [0, 1, 2]⟩, ⟨[15, 16, 17, 18], [9], [], [], []⟩, ⟨[15, 16, 17, 18], [9], [], [], [4]⟩, ⟨[], [], [], [], [0, 1, 2, 3, 4, 5]⟩, ⟨[], [], [], [], [0, 1, 2, 3, 4, 5, 6]⟩, ⟨[], [], [], [], [0, 1, 2, 3, 4, 5, 6, 7]⟩, ⟨[], [], [], [], [0, 1, 2, 3, 4, 5, 6, 7, 8]⟩, ⟨[], [], [], [], [0, 1, 2, 3, 4, 5, 6, 7, 8, 9]⟩, ⟨[], [], [], [], [0, 1, 2, 3, 4, 5, 6, 7, 8, 9, 10]⟩, ⟨[28, 31, 32], [], [], [], [0, 1, 2, 3, 4, 5, 6, 7, 8, 9, 10, 11]⟩, ⟨[27, 31, 32], [], [], [], [0, 1, 2, 3, 4, 5, 6, 7, 8, 9, 10, 11]⟩, ⟨[31, 32], [], [10], [10], [0, 1, 2, 3, 4, 5, 6, 7, 8, 9, 10, 11, 12, 13]⟩, ⟨[31, 32], [], [], [], [0, 1, 2, 3, 4, 5, 6, 7, 8, 9, 10, 11, 12, 13, 14]⟩, ⟨[27, 28, 29, 30], [10], [], [], [0, 1, 2, 3, 4, 5, 6, 7, 8, 9, 10, 11]⟩, ⟨[27, 28, 29, 30], [10], [], [], [0, 1, 2, 3, 4, 5, 6, 7, 8, 9, 10, 11, 16]⟩, ⟨[], [], [], [], [0, 1, 2, 3, 4, 5, 6, 7, 8, 9, 10, 11, 12, 13, 14, 15, 16, 17]⟩, ⟨[], [], [], [], [0, 1, 2, 3, 4, 5, 6, 7, 8, 9, 10, 11, 12, 13, 14, 15, 16, 17, 18]⟩, ⟨[], [], [], [], [0, 1, 2, 3, 4, 5, 6, 7, 8, 9, 10, 11, 12, 13, 14, 15, 16, 17, 18, 19]⟩] (by kernel_rfl) (by kernel_rfl) ?_
    refine DRQ.v rfl rfl rfl (o_move rfl) ?_
    refine DRQ.v rfl rfl rfl (o_move rfl) ?_
    refine DRQ.x 9 rfl rfl rfl rfl (o_idx L24 rfl (lx rfl) rfl (by first | omega | (simp; omega)) (by first | omega | (simp; omega))) ?_
    refine DRQ.v rfl rfl rfl (o_ldq S3 rfl (lx rfl) intc) ?_
    refine DRQ.v rfl rfl rfl (o_fldp F47_1 rfl) ?_
    refine DRQ.v rfl rfl rfl (o_ldp S3 rfl rfl rfl) ?_
    refine DRQ.v rfl rfl rfl (o_lss rfl rfl) ?_
    refine DRQ.v rfl rfl rfl (o_move rfl) ?_
    refine DRQ.gv 7 rfl rfl (.plain rfl (by first | (simp; done) | simp only [Bool.not_eq_true']) rfl) rfl (fun hb => o_fldp F47_2 rfl) ?_
    refine DRQ.gv 7 rfl rfl (.plain rfl (by first | (simp; done) | simp only [Bool.not_eq_true']) rfl) rfl (fun hb => o_ldp S3 rfl rfl rfl) ?_
    refine DRQ.gv 7 rfl rfl (.plain rfl (by first | (simp; done) | simp only [Bool.not_eq_true']) rfl) rfl (fun hb => o_eql rfl rfl) ?_
    refine DRQ.gv 7 rfl rfl (.plain rfl (by first | (simp; done) | simp only [Bool.not_eq_true']) rfl) rfl (fun hb => o_move rfl) ?_
    refine DRQ.gv 8 rfl rfl (.nest rfl rfl (by first | (simp; done) | simp only [Bool.and_eq_true, Bool.not_eq_true']) rfl) rfl (fun hb => o_move rfl) ?_
    refine DRQ.gv 8 rfl rfl (.nest rfl rfl (by first | (simp; done) | simp only [Bool.and_eq_true, Bool.not_eq_true']) rfl) rfl (fun hb => o_move rfl) ?_
    refine DRQ.gx 8 10 rfl rfl (.nest rfl rfl (by first | (simp; done) | simp only [Bool.and_eq_true, Bool.not_eq_true']) rfl) rfl rfl (fun hb => o_idx L24 rfl (lx rfl) rfl (by first | omega | (simp; omega)) (by first | omega | (simp; omega))) ?_
    refine DRQ.gv 8 rfl rfl (.nest rfl rfl (by first | (simp; done) | simp only [Bool.and_eq_true, Bool.not_eq_true']) rfl) rfl (fun hb => o_ldq S3 rfl (lxi hb rfl) intc) ?_
    refine DRQ.gv 8 rfl rfl (.nest rfl rfl (by first | (simp; done) | simp only [Bool.and_eq_true, Bool.not_eq_true']) rfl) rfl (fun hb => o_fldp F47_1 rfl) ?_
    refine DRQ.gv 8 rfl rfl (.nest rfl rfl (by first | (simp; done) | simp only [Bool.and_eq_true, Bool.not_eq_true']) rfl) rfl (fun hb => o_ldp S3 rfl rfl rfl) ?_
    refine DRQ.gv 8 rfl rfl (.nest rfl rfl (by first | (simp; done) | simp only [Bool.and_eq_true, Bool.not_eq_true']) rfl) rfl (fun hb => o_gtr rfl rfl) ?_
    refine DRQ.gv 7 rfl rfl (.plain rfl (by first | (simp; done) | simp only [Bool.not_eq_true']) rfl) rfl (fun hb => o_and rfl rfl rfl (by first | (simp; done) | exact fun h => Bool.and_eq_true_iff.2 ⟨hb, h⟩ | simp_all)) ?_
    refine DRQ.v rfl rfl rfl (o_or rfl rfl rfl (by first | (simp; done) | exact fun h => by rw [h]; rfl | exact fun h => Bool.and_eq_true_iff.2 ⟨hb, by rw [h]; rfl⟩ | simp_all)) ?_
    refine DRQ.nil' ?_
    refine EX.then ?_
    refine WP.cond rfl (fun hc2 => ?_) (fun hc2 => ?_)
    · try simp only [decide_eq_true_eq, decide_eq_false_iff_not, Bool.and_eq_true, Bool.or_eq_true, Bool.and_eq_false_iff, Bool.or_eq_false_iff, Bool.not_eq_true', Bool.not_eq_false', ne_eq, Decidable.not_not] at hc2
      refine WP.seq ?_
      refine WP.region ?_
      refine WPl.v rfl (o_assign rfl) ?_
      refine WPl.nil ?_
      refine EX.then ?_
      refine WP.ret ?_
      refine EX.ret_blk ?_
      refine EX.ret_then ?_
      refine EX.ret_then ?_
      refine EX.ret_blk ?_
      refine EX.ret_then ?_
      rw [show f.agrees u = false from not_allI (show i < f.moulds.length by omega) (by simp only [agreeAt, Bool.not_eq_eq_eq_not, Bool.not_true, Bool.not_false, Bool.or_eq_true, Bool.or_eq_false_iff, Bool.and_eq_true, Bool.and_eq_false_iff, decide_eq_true_eq, decide_eq_false_iff_not]; exact hc2)]
      exact EX.fin id (.inl rfl) rfl (.tmp rfl .nil) rfl (by simp [SV.res, El.res, At.res, keys]) trivial (by simp) (by simp)
    · try simp only [decide_eq_true_eq, decide_eq_false_iff_not, Bool.and_eq_true, Bool.or_eq_true, Bool.and_eq_false_iff, Bool.or_eq_false_iff, Bool.not_eq_true', Bool.not_eq_false', ne_eq, Decidable.not_not] at hc2
      refine WP.skip ?_
      refine EX.blk ?_
      refine EX.then ?_
      refine WP.region ?_
      refine WPl.v rfl (o_add rfl rfl (by first | omega | (simp; omega)) (by first | omega | (simp; omega))) ?_
      refine WPl.v rfl (o_move rfl) ?_
      refine WPl.nil ?_
      refine EX.again (i + 1) id (by exact ⟨by omega, by simp only [allI, hall, Bool.true_and]; simp only [agreeAt, Bool.not_eq_eq_eq_not, Bool.not_true, Bool.not_false, Bool.or_eq_true, Bool.or_eq_false_iff, Bool.and_eq_true, Bool.and_eq_false_iff, decide_eq_true_eq, decide_eq_false_iff_not]; exact hc2⟩) (by omega) (LeR.of ⟨rfl, rfl, rfl, rfl, rfl, trivial⟩ ⟨(lx rfl), (lx rfl), trivial⟩ trivial rfl rfl rfl rfl rfl)
  · try simp only [decide_eq_true_eq, decide_eq_false_iff_not, Bool.and_eq_true, Bool.or_eq_true, Bool.and_eq_false_iff, Bool.or_eq_false_iff, Bool.not_eq_true', Bool.not_eq_false', ne_eq, Decidable.not_not] at hc1
    refine WP.exit ?_
    refine EX.exit_then ?_
    refine EX.exit_then ?_
    refine EX.exit_blk ?_
    refine EX.then ?_
    refine WP.seq ?_
    refine WP.region ?_
    refine WPl.v rfl (o_assign rfl) ?_
    refine WPl.nil ?_
    refine EX.then ?_
    refine WP.ret ?_
    rw [show f.agrees u = true from by unfold FSh.agrees; rw [show f.moulds.length = i by omega]; exact hall]
    exact EX.fin id (.inl rfl) rfl (.tmp rfl .nil) rfl (by simp [SV.res, El.res, At.res, keys]) trivial (by simp) (by simp)
theorem w41 {f : FSh} : ∀ x ∈ ([.e (.a (.q 0))] : List SV), x.res (keys (α := Pred) [(0, PP EFs (f))]) := by simp [SV.res, El.res, At.res, keys]
set_option maxHeartbeats 4000000 in
theorem c41 (f : FSh) (hf : f.B) : SigI Try.prog 41 [.e (.a (.q 0))] [(0, PP EFs (f))] (agItems f) := by
  have hm := hf.m
  have hw := hf.w
  refine SigI.intro Try.func41 rfl 2 1 w41 rfl rfl rfl fun I w l Y K F0 hround => ?_
  have hF : ∀ c, F0 c → F0 c := fun _ h => h
  refine WP.seq ?_
  refine WP.region ?_
  refine WPl.v rfl (o_fldq F26_1 rfl (lx rfl)) ?_
  refine WPl.x 2 3 rfl rfl rfl (o_ldex S23 rfl (lx rfl) (strS rfl)) ?_
  refine WPl.v rfl (o_lenq L23 rfl (lx rfl)) ?_
  refine WPl.v rfl (o_move rfl) ?_
  refine WPl.nil ?_
  refine EX.then ?_
  refine WP.block ?_
  refine WP.loop (Gh := Nat × (Nat → Prop)) (fun (⟨i, F⟩ : Nat × (Nat → Prop)) => ⟨3, [(0, .e (.a (.v (yv l)))), (1, .e (.a (.q 0))), (6, .e (.a (.q 2))), (7, .i ((f.worlds.length : Int))), (8, .i ((i : Int)))], [(0, PP EFs (f)), (2, PL (EP.sl EP.int) (f.worlds))], [(1, .ext ((Y ((f.agTo i).length)).xp F))], [], []⟩) (fun (⟨i, F⟩ : Nat × (Nat → Prop)) => i ≤ f.worlds.length ∧ ∀ c, F0 c → F c) (fun (⟨i, F⟩ : Nat × (Nat → Prop)) => f.worlds.length - i) ((0, F0)) id ?_ (LeR.of ⟨rfl, rfl, rfl, rfl, rfl, trivial⟩ ⟨(lx rfl), (lx rfl), trivial⟩ ⟨rfl, trivial⟩ rfl rfl rfl rfl rfl) ?_
  · exact ⟨by omega, fun _ h => h⟩
  rintro ⟨i, F⟩ hφ
  obtain ⟨hi, hF⟩ : i ≤ f.worlds.length ∧ ∀ c, F0 c → F c := hφ
  refine WP.seq ?_
  refine WP.region ?_
  refine WPl.v rfl (o_lss rfl rfl) ?_
  refine WPl.nil ?_
  refine EX.then ?_
  refine WP.seq ?_
  refine WP.cond rfl (fun hc1 => ?_) (fun hc1 => ?_)
  · try simp only [decide_eq_true_eq, decide_eq_false_iff_not, Bool.and_eq_true, Bool.or_eq_true, Bool.and_eq_false_iff, Bool.or_eq_false_iff, Bool.not_eq_true', Bool.not_eq_false', ne_eq, Decidable.not_not] at hc1
    refine WP.skip ?_
    refine EX.then ?_
    refine WP.seq ?_
    refine WP.block ?_
    refine WP.seq ?_
    refine WP.region ?_
    refine WPl.v rfl (o_move rfl) ?_
    refine WPl.x 3 4 rfl rfl rfl (o_idx L23 rfl (lx rfl) rfl (by first | omega | (simp; omega)) (by first | omega | (simp; omega))) ?_
    refine WPl.x 4 5 rfl rfl rfl (o_ldqx S24 rfl (lx rfl) slx) ?_
    refine WPl.v rfl (o_assign rfl) ?_
    refine WPl.v rfl (o_assign rfl) ?_
    refine WPl.nil ?_
    refine EX.then ?_
    refine WP.seq ?_
    refine WP.region ?_
    refine WPl.cs 8 rfl rfl rfl rfl (o_ldqm (cs0 := [.q 5, .q 6, .q 7, ai (f.fresh)]) (X' := [(5, PL EMo (f.moulds)), (6, PL (EP.sl EP.int) (f.worlds)), (7, PL EP.int (f.wants))]) 5 G26 rfl (lx rfl) rfl rfl rfl) ?_
    refine WPl.v rfl (o_move rfl) ?_
    refine WPl.cs 8 rfl rfl rfl rfl (o_sig 8 (ren [(0, 5), (1, 6), (2, 7), (3, 4)]) (c42 f (nth f.worlds (i : Int)) (by omega) (hf.ws i (by omega)).1) e42 rfl rfl rfl w42 ⟨(lx rfl), (lx rfl), (lx rfl), (lx rfl), trivial⟩ r42) ?_
    rcases Bool.eq_false_or_eq_true (f.agrees (nth f.worlds (i : Int))) with hs15 | hs15
    · refine WPl.imp (Imp.bitF 15 (b' := true) rfl hs15) ?_
      refine WPl.v rfl (o_move rfl) ?_
      refine WPl.on rfl ⟨_, _, rfl, rfl, rfl⟩ (o_move rfl) ?_
      refine WPl.on rfl ⟨_, _, rfl, rfl, rfl⟩ (o_move rfl) ?_
      refine WPl.on rfl ⟨_, _, rfl, rfl, rfl⟩ (o_move rfl) ?_
      refine WPl.yield (Y' := Y ((f.agTo i).length + 1)) (K' := K) 1 rfl rfl ⟨_, _, rfl, rfl, rfl⟩ rfl rfl rfl (yieldH (ky := 1) (J := [0]) (it := ⟨[.i ((i : Int)), .e (.a (.q 0))], [(0, PL EP.int ((nth f.worlds (i : Int))))], []⟩) (ren [(0, 4)]) (hround ((f.agTo i).length) _ (agItems_at (by omega) hs15)) rfl (hF) SvsOK.rf (by simp [SV.res, El.res, At.res, keys]) ⟨(lx rfl), trivial⟩ trivial) fun by20 F1 hF1 => ?_
      have hF : ∀ c, F0 c → F1 c := fun c hc => hF1 c (hF c hc)
      cases by20
      · skip
        refine WPl.on rfl ⟨_, _, rfl, rfl, rfl⟩ (o_not rfl) ?_
        refine WPl.v rfl (o_pickT rfl rfl) ?_
        refine WPl.nil ?_
        refine EX.then ?_
        refine WP.cond rfl (fun _ => ?_) (fun h => by cases h)
        refine WP.ret ?_
        refine EX.ret_blk ?_
        refine EX.ret_then ?_
        refine EX.ret_then ?_
        refine EX.ret_blk ?_
        exact EX.finI (.inl rfl) rfl rfl (ky := 1) (Y := K) rfl (fun _ _ h => .inr h)
      · skip
        refine WPl.on rfl ⟨_, _, rfl, rfl, rfl⟩ (o_not rfl) ?_
        refine WPl.v rfl (o_pickT rfl rfl) ?_
        refine WPl.nil ?_
        refine EX.then ?_
        refine WP.cond rfl (fun h => by cases h) (fun _ => ?_)
        refine WP.skip ?_
        refine EX.blk ?_
        refine EX.then ?_
        refine WP.region ?_
        refine WPl.v rfl (o_add rfl rfl (by first | omega | (simp; omega)) (by first | omega | (simp; omega))) ?_
        refine WPl.v rfl (o_move rfl) ?_
        refine WPl.nil ?_
        refine EX.again ((i + 1, F1)) id (by exact ⟨by omega, hF⟩) (by first | omega | (dsimp only; omega) | (simp only []; omega)) (LeR.of ⟨rfl, rfl, rfl, rfl, rfl, trivial⟩ ⟨(lx rfl), (lx rfl), trivial⟩ ⟨(congrArg (fun z => some (Ent.ext ((Y z).xp F1))) (show (f.agTo i).length + 1 = (f.agTo (i + 1)).length from by rw [FSh.agTo]; rw [if_pos hs15, List.length_append]; rfl)), trivial⟩ rfl rfl rfl rfl rfl)
    · refine WPl.imp (Imp.bitF 15 (b' := false) rfl hs15) ?_
      refine WPl.v rfl (o_move rfl) ?_
      refine WPl.off rfl ⟨_, _, rfl, rfl, rfl⟩ ?_
      refine WPl.off rfl ⟨_, _, rfl, rfl, rfl⟩ ?_
      refine WPl.off rfl ⟨_, _, rfl, rfl, rfl⟩ ?_
      refine WPl.off rfl ⟨_, _, rfl, rfl, rfl⟩ ?_
      refine WPl.off rfl ⟨_, _, rfl, rfl, rfl⟩ ?_
      refine WPl.v rfl (o_pickF rfl rfl) ?_
      refine WPl.nil ?_
      refine EX.then ?_
      refine WP.cond rfl (fun h => by cases h) (fun _ => ?_)
      refine WP.skip ?_
      refine EX.blk ?_
      refine EX.then ?_
      refine WP.region ?_
      refine WPl.v rfl (o_add rfl rfl (by first | omega | (simp; omega)) (by first | omega | (simp; omega))) ?_
      refine WPl.v rfl (o_move rfl) ?_
      refine WPl.nil ?_
      refine EX.again ((i + 1, F)) id (by exact ⟨by omega, hF⟩) (by first | omega | (dsimp only; omega) | (simp only []; omega)) (LeR.of ⟨rfl, rfl, rfl, rfl, rfl, trivial⟩ ⟨(lx rfl), (lx rfl), trivial⟩ ⟨(congrArg (fun z => some (Ent.ext ((Y z).xp F))) (show (f.agTo i).length = (f.agTo (i + 1)).length from by rw [FSh.agTo]; rw [if_neg (by rw [hs15]; simp)])), trivial⟩ rfl rfl rfl rfl rfl)
  · try simp only [decide_eq_true_eq, decide_eq_false_iff_not, Bool.and_eq_true, Bool.or_eq_true, Bool.and_eq_false_iff, Bool.or_eq_false_iff, Bool.not_eq_true', Bool.not_eq_false', ne_eq, Decidable.not_not] at hc1
    refine WP.exit ?_
    refine EX.exit_then ?_
    refine EX.exit_then ?_
    refine EX.exit_blk ?_
    have hend : (f.agTo i).length = (agItems f).length := by rw [show i = f.worlds.length by omega]; simp [agItems, FSh.agL]
    exact EX.finI (.inr rfl) rfl rfl (ky := 1) (Y := Y ((f.agTo i).length)) rfl (fun _ _ h => .inl (by rw [hend] at h; exact h))
theorem w27 {f : FSh} : ∀ x ∈ ([.e (.g [.q 0, .q 1, .q 2, ai (f.fresh)])] : List SV), x.res (keys (α := Pred) [(0, PL EMo (f.moulds)), (1, PL (EP.sl EP.int) (f.worlds)), (2, PL EP.int (f.wants))]) := by simp [SV.res, El.res, At.res, keys]
theorem r27 {f : FSh} : SV.res (keys (α := Pred) [(0, ItP Try.prog (agItems f))]) (.e (.a (.q 0))) := by simp [SV.res, El.res, At.res, keys]
set_option maxHeartbeats 4000000 in
theorem c27 (f : FSh) (hf : f.B) : Sig Try.prog 27 [.e (.g [.q 0, .q 1, .q 2, ai (f.fresh)])] [(0, PL EMo (f.moulds)), (1, PL (EP.sl EP.int) (f.worlds)), (2, PL EP.int (f.wants))] (.e (.a (.q 0))) [(0, ItP Try.prog (agItems f))] := by
  refine Sig.intro Try.func27 rfl 3 [(0, .e (.g [.q 0, .q 1, .q 2, ai (f.fresh)]))] rfl w27 rfl rfl fun I w => ?_
  refine WP.seq ?_
  refine WP.region ?_
  refine WPl.l 3 4 rfl rfl rfl (o_boxg rfl) ?_
  refine WPl.v rfl (o_assign rfl) ?_
  refine WPl.nil ?_
  refine EX.then ?_
  refine WP.seq ?_
  refine WP.region ?_
  refine WPl.imp (Imp.frzb (E := EFs) (y := f) 3 4 5 rfl rfl (bok_str ⟨⟨_, rfl, (lx rfl)⟩, ⟨_, rfl, (lx rfl)⟩, ⟨_, rfl, (lx rfl)⟩, rfl, trivial⟩) rfl rfl rfl) ?_
  refine WPl.x 5 6 rfl rfl rfl (o_mkit 5 (ren [(0, 4)]) (c41 f hf) e41 rfl SvsOK.rf w41 ⟨(lx rfl), trivial⟩) ?_
  refine WPl.v rfl (o_assign rfl) ?_
  refine WPl.nil ?_
  refine EX.then ?_
  refine WP.ret ?_
  exact EX.fin (ren [(0, 5)]) (.inl rfl) rfl (.tmp rfl .nil) rfl r27 ⟨(lx rfl), trivial⟩ (by simp) (by simp)
theorem w18 {f : FSh} : ∀ x ∈ ([.e (.g [.q 0, .q 1, .q 2, ai (f.fresh)]), .b (true)] : List SV), x.res (keys (α := Pred) [(0, PL EMo (f.moulds)), (1, PL (EP.sl EP.int) (f.worlds)), (2, PL EP.int (f.wants))]) := by simp [SV.res, El.res, At.res, keys]
theorem r18 {f : FSh} : SV.res (keys (α := Pred) [(0, PP EFl (f.shopV))]) (.t [.a (.q 0), .a (ai (0))]) := by simp [SV.res, El.res, At.res, keys]
set_option maxHeartbeats 4000000 in
theorem c18 (f : FSh) (hm : f.Small) (hv : f.newE = 0) : Sig Try.prog 18 [.e (.g [.q 0, .q 1, .q 2, ai (f.fresh)]), .b (true)] [(0, PL EMo (f.moulds)), (1, PL (EP.sl EP.int) (f.worlds)), (2, PL EP.int (f.wants))] (.t [.a (.q 0), .a (ai (0))]) [(0, PP EFl (f.shopV))] := by
  obtain ⟨hc, hne⟩ := newE_eq.1 hv
  have hf := FSh.chkB hc
  have hm5 := hf.m
  have hsl := sureTo_len f
  refine Sig.intro Try.func18 rfl 3 [(0, .e (.g [.q 0, .q 1, .q 2, ai (f.fresh)])), (1, .b (true))] rfl w18 rfl rfl fun I w => ?_
  refine WP.seq ?_
  refine WP.region ?_
  refine WPl.l 3 4 rfl rfl rfl (o_boxg rfl) ?_
  refine WPl.v rfl (o_assign rfl) ?_
  refine WPl.v rfl (o_assign rfl) ?_
  refine WPl.nil ?_
  refine EX.then ?_
  refine WP.seq ?_
  refine WP.seq ?_
  refine WP.region ?_
  refine WPl.v rfl (o_ldpa G26 rfl rfl rfl) ?_
  refine WPl.cs 4 rfl rfl rfl rfl (o_sig 4 (ren [(0, 0), (1, 1), (2, 2)]) (c26 f hm) e26 rfl rfl rfl w26 ⟨(lx rfl), (lx rfl), (lx rfl), trivial⟩ r26) ?_
  refine WPl.v rfl (o_assign rfl) ?_
  refine WPl.nil ?_
  refine EX.then ?_
  refine WP.seq ?_
  refine WP.region ?_
  refine WPl.v rfl (o_move rfl) ?_
  refine WPl.v rfl (o_neq rfl rfl) ?_
  refine WPl.nil ?_
  refine EX.then ?_
  refine WP.cond rfl (fun hc1 => ?_) (fun hc1 => ?_)
  · try simp only [decide_eq_true_eq, decide_eq_false_iff_not, Bool.and_eq_true, Bool.or_eq_true, Bool.and_eq_false_iff, Bool.or_eq_false_iff, Bool.not_eq_true', Bool.not_eq_false', ne_eq, Decidable.not_not] at hc1
    exact absurd (errF_eq.2 hc) (by simpa using hc1)
  · try simp only [decide_eq_true_eq, decide_eq_false_iff_not, Bool.and_eq_true, Bool.or_eq_true, Bool.and_eq_false_iff, Bool.or_eq_false_iff, Bool.not_eq_true', Bool.not_eq_false', ne_eq, Decidable.not_not] at hc1
    refine WP.skip ?_
    refine EX.then ?_
    refine WP.seq ?_
    refine WP.seq ?_
    refine WP.region ?_
    refine WPl.v rfl (o_move rfl) ?_
    refine WPl.v rfl (o_not rfl) ?_
    refine WPl.nil ?_
    refine EX.then ?_
    refine WP.cond rfl (fun h => by cases h) (fun _ => ?_)
    refine WP.skip ?_
    refine EX.then ?_
    refine WP.seq ?_
    refine WP.region ?_
    refine WPl.v rfl (o_ldpa G26 rfl rfl rfl) ?_
    refine WPl.v rfl (o_build B70 rfl trivial rfl rfl) ?_
    refine WPl.l 4 5 rfl rfl rfl (o_boxg rfl) ?_
    refine WPl.l 5 6 rfl rfl rfl (o_alloc Z52) ?_
    refine WPl.s1 (o_sta S52 rfl rfl rfl trivial rfl) ?_
    refine WPl.nil ?_
    refine EX.then ?_
    refine WP.seq ?_
    refine WP.seq ?_
    refine WP.region ?_
    refine WPl.v rfl (o_ldpa G26 rfl rfl rfl) ?_
    refine WPl.cs 7 rfl rfl rfl rfl (o_sig 6 (ren [(0, 0), (1, 1), (2, 2)]) (c27 f hf) e27 rfl rfl rfl w27 ⟨(lx rfl), (lx rfl), (lx rfl), trivial⟩ r27) ?_
    refine WPl.nil ?_
    refine EX.then ?_
    refine WP.block ?_
    refine WP.leR (S' := ⟨7, [(2, .e (.a (.p 3 (0)))), (4, .e (.a (.v (.pointer none)))), (5, .i (0)), (7, .e (.a (.p 5 (0)))), (24, .e (.a (.q 6)))], [(0, PL EMo (f.moulds)), (1, PL (EP.sl EP.int) (f.worlds)), (2, PL EP.int (f.wants)), (6, ItP Try.prog (agItems f))], [(3, .blk [.q 0, .q 1, .q 2, ai (f.fresh)] 26), (4, .blk [.q 0, .q 1, .q 2, ai (f.fresh), .v (.slice none 0 0), ai (0), ai (0), ai (0), ai (0), ai (0)] 70), (5, .blk [.p 4 (0)] 52)], [], []⟩) id (LeR.of ⟨rfl, rfl, rfl, rfl, rfl, trivial⟩ ⟨(lx rfl), (lx rfl), (lx rfl), (lx rfl), trivial⟩ ⟨rfl, rfl, rfl, trivial⟩ rfl rfl rfl rfl rfl) ?_
    refine WP.imp (Imp.namo (EArr 5) 7 8 68 rfl rfl) ?_
    refine WP.imp (Imp.swL 4 4 7 rfl rfl (lx rfl)) ?_
    refine WP.rangeG 11 1 (f.agL.length) (fun g => ⟨[.i (nth f.agL (g : Int)), .e (.a (.q 0))], [(0, PL EP.int ((nth f.worlds (nth f.agL (g : Int)))))], []⟩) (fun g => ⟨11, [(2, .e (.a (.p 3 (0)))), (4, .e (.a (.v (.pointer none)))), (5, .i (0)), (7, .e (.a (.p 5 (0)))), (24, .e (.a (.q 6)))], [(0, PL EMo (f.moulds)), (1, PL (EP.sl EP.int) (f.worlds)), (2, PL EP.int (f.wants)), (6, ItP Try.prog (agItems f))], [(3, .blk [.q 0, .q 1, .q 2, ai (f.fresh)] 26), (4, .blk [.q 0, .q 1, .q 2, ai (f.fresh), .q 10, ai (nth (f.sureTo g) 0), ai (nth (f.sureTo g) 1), ai (nth (f.sureTo g) 2), ai (nth (f.sureTo g) 3), ai (nth (f.sureTo g) 4)] 70), (5, .blk [.p 4 (0)] 52), (8, .ob (.deferred (some []))), (10, .own 68 (EArr 5).size (f.rowsTo g).length (RP (EArr 5) (f.rowsTo g)))], [8], []⟩) (fun _ _ => False) rfl rfl (lx rfl) (rfl) (fun _ => RSt.of rfl rfl rfl rfl rfl rfl) (fun _ _ h => h.elim) rfl rfl rfl (fun _ _ => ItemOK.of rfl) rfl rfl (ren [(10, 7)]) (LeR.of ⟨rfl, rfl, rfl, rfl, rfl, trivial⟩ ⟨(lx rfl), (lx rfl), (lx rfl), (lx rfl), trivial⟩ ⟨rfl, (congrArg (fun z => some (Ent.blk z 70)) (List.cons_eq_cons.2 ⟨(Eq.refl (.q 0 : At)), (List.cons_eq_cons.2 ⟨(Eq.refl (.q 1 : At)), (List.cons_eq_cons.2 ⟨(Eq.refl (.q 2 : At)), (List.cons_eq_cons.2 ⟨(Eq.refl (ai (f.fresh) : At)), (List.cons_eq_cons.2 ⟨(Eq.refl (.q 7 : At)), (List.cons_eq_cons.2 ⟨(congrArg (fun z => ai z) (show (0) = ((fun g => nth (f.sureTo g) 0) 0) from rfl)), (List.cons_eq_cons.2 ⟨(congrArg (fun z => ai z) (show (0) = ((fun g => nth (f.sureTo g) 1) 0) from rfl)), (List.cons_eq_cons.2 ⟨(congrArg (fun z => ai z) (show (0) = ((fun g => nth (f.sureTo g) 2) 0) from rfl)), (List.cons_eq_cons.2 ⟨(congrArg (fun z => ai z) (show (0) = ((fun g => nth (f.sureTo g) 3) 0) from rfl)), (List.cons_eq_cons.2 ⟨(congrArg (fun z => ai z) (show (0) = ((fun g => nth (f.sureTo g) 4) 0) from rfl)), (Eq.refl [])⟩)⟩)⟩)⟩)⟩)⟩)⟩)⟩)⟩)⟩)), rfl, rfl, rfl, trivial⟩ rfl rfl rfl rfl rfl) ?_ ?_ ?_
    · intro g hg w1 E1 I1 R1 pβ1 pν1 us1
      have hgl := agL_at hg
      have hgw := (hf.ws (nth f.agL (g : Int)).toNat (by omega)).1
      rw [show (((nth f.agL (g : Int)).toNat : Nat) : Int) = nth f.agL (g : Int) by omega] at hgw
      have hsb := sureTo_b hf g (by omega)
      have hrl := rowsTo_len f g
      have hal : f.agL.length ≤ f.worlds.length := agTo_len f _
      have hww := hf.w
      have hgw2 : (f.wAt g).length = f.moulds.length := hgw
      refine WP.region ?_
      refine WPl.v rfl (o_assign rfl) ?_
      refine WPl.nil ?_
      refine EX.beg rfl ?_
      refine WP.block ?_
      refine WP.seq ?_
      refine WP.region ?_
      refine WPl.l 12 13 rfl rfl rfl (o_alloc Z68) ?_
      refine WPl.nil ?_
      refine EX.then ?_
      refine WP.seq ?_
      refine WP.seq ?_
      refine WP.region ?_
      refine WPl.v rfl (o_fldp F26_0 rfl) ?_
      refine WPl.v rfl (o_ldp S22 rfl rfl rfl) ?_
      refine WPl.v rfl (o_lenq L22 rfl (lx rfl)) ?_
      refine WPl.v rfl (o_move rfl) ?_
      refine WPl.nil ?_
      refine EX.then ?_
      refine WP.block ?_
      refine WP.loop (Gh := Nat) (fun i => ⟨13, [(2, .e (.a (.p 3 (0)))), (4, .e (.a (.v (.pointer none)))), (5, .i (0)), (7, .e (.a (.p 5 (0)))), (24, .e (.a (.q 6))), (26, .e (.a (.q 11))), (9, .e (.a (.q 11))), (10, .e (.a (.p 12 (0)))), (27, .e (.a (.p 3 (0)))), (28, .e (.a (.q 0))), (29, .i ((f.moulds.length : Int))), (30, .i ((i : Int)))], [(0, PL EMo (f.moulds)), (1, PL (EP.sl EP.int) (f.worlds)), (2, PL EP.int (f.wants)), (6, ItP Try.prog (agItems f)), (11, PL EP.int ((nth f.worlds (nth f.agL (g : Int)))))], [(3, .blk [.q 0, .q 1, .q 2, ai (f.fresh)] 26), (4, .blk [.q 0, .q 1, .q 2, ai (f.fresh), .q 10, ai (nth (f.sureIn (f.wAt g) (f.rowsTo g).length (f.sureTo g) i) 0), ai (nth (f.sureIn (f.wAt g) (f.rowsTo g).length (f.sureTo g) i) 1), ai (nth (f.sureIn (f.wAt g) (f.rowsTo g).length (f.sureTo g) i) 2), ai (nth (f.sureIn (f.wAt g) (f.rowsTo g).length (f.sureTo g) i) 3), ai (nth (f.sureIn (f.wAt g) (f.rowsTo g).length (f.sureTo g) i) 4)] 70), (5, .blk [.p 4 (0)] 52), (8, .ob (.deferred (some []))), (10, .own 68 (EArr 5).size (f.rowsTo g).length (RP (EArr 5) (f.rowsTo g))), (9, .ob (.loop { R1 with state := .busy })), (12, .blk [ai (nth (f.lefTo (f.wAt g) i) 0), ai (nth (f.lefTo (f.wAt g) i) 1), ai (nth (f.lefTo (f.wAt g) i) 2), ai (nth (f.lefTo (f.wAt g) i) 3), ai (nth (f.lefTo (f.wAt g) i) 4)] 68)], [], []⟩) (fun i => i ≤ f.moulds.length) (fun i => f.moulds.length - i) (0) id ?_ (LeR.of ⟨rfl, rfl, rfl, rfl, rfl, rfl, rfl, rfl, rfl, rfl, rfl, rfl, trivial⟩ ⟨(lx rfl), (lx rfl), (lx rfl), (lx rfl), (lx rfl), trivial⟩ ⟨rfl, (congrArg (fun z => some (Ent.blk z 70)) (List.cons_eq_cons.2 ⟨(Eq.refl (.q 0 : At)), (List.cons_eq_cons.2 ⟨(Eq.refl (.q 1 : At)), (List.cons_eq_cons.2 ⟨(Eq.refl (.q 2 : At)), (List.cons_eq_cons.2 ⟨(Eq.refl (ai (f.fresh) : At)), (List.cons_eq_cons.2 ⟨(Eq.refl (.q 10 : At)), (List.cons_eq_cons.2 ⟨(congrArg (fun z => ai z) (show (nth (f.sureTo g) 0) = ((fun i => nth (f.sureIn (f.wAt g) (f.rowsTo g).length (f.sureTo g) i) 0) 0) from rfl)), (List.cons_eq_cons.2 ⟨(congrArg (fun z => ai z) (show (nth (f.sureTo g) 1) = ((fun i => nth (f.sureIn (f.wAt g) (f.rowsTo g).length (f.sureTo g) i) 1) 0) from rfl)), (List.cons_eq_cons.2 ⟨(congrArg (fun z => ai z) (show (nth (f.sureTo g) 2) = ((fun i => nth (f.sureIn (f.wAt g) (f.rowsTo g).length (f.sureTo g) i) 2) 0) from rfl)), (List.cons_eq_cons.2 ⟨(congrArg (fun z => ai z) (show (nth (f.sureTo g) 3) = ((fun i => nth (f.sureIn (f.wAt g) (f.rowsTo g).length (f.sureTo g) i) 3) 0) from rfl)), (List.cons_eq_cons.2 ⟨(congrArg (fun z => ai z) (show (nth (f.sureTo g) 4) = ((fun i => nth (f.sureIn (f.wAt g) (f.rowsTo g).length (f.sureTo g) i) 4) 0) from rfl)), (Eq.refl [])⟩)⟩)⟩)⟩)⟩)⟩)⟩)⟩)⟩)⟩)), rfl, rfl, rfl, rfl, rfl, trivial⟩ rfl rfl rfl rfl rfl) ?_
      · first | trivial | omega | (constructor <;> omega) | simp
      intro i hφ
      have hi : i ≤ f.moulds.length := hφ
      have hlb := lefTo_len f (f.wAt g) i
      refine WP.seq ?_
      refine WP.region ?_
      refine WPl.v rfl (o_lss rfl rfl) ?_
      refine WPl.nil ?_
      refine EX.then ?_
      refine WP.seq ?_
      refine WP.cond rfl (fun hc3 => ?_) (fun hc3 => ?_)
      · try simp only [decide_eq_true_eq, decide_eq_false_iff_not, Bool.and_eq_true, Bool.or_eq_true, Bool.and_eq_false_iff, Bool.or_eq_false_iff, Bool.not_eq_true', Bool.not_eq_false', ne_eq, Decidable.not_not] at hc3
        have hlb2 := left_b hf hg (show i < f.moulds.length by omega)
        unfold FSh.leftAt FSh.wAt at hlb2
        refine WP.skip ?_
        refine EX.then ?_
        refine WP.seq ?_
        refine WP.block ?_
        refine WP.seq ?_
        refine WP.region ?_
        refine WPl.v rfl (o_move rfl) ?_
        refine WPl.x 13 14 rfl rfl rfl (o_idx L22 rfl (lx rfl) rfl (by first | omega | (simp; omega)) (by first | omega | (simp; omega))) ?_
        refine WPl.v rfl (o_ldqg G47 rfl (lx rfl) (strG rfl) rfl rfl) ?_
        refine WPl.l 14 15 rfl rfl rfl (o_alloc Z47) ?_
        refine WPl.v rfl (o_assign rfl) ?_
        refine WPl.s1 (o_stag G47 rfl rfl rfl ⟨rfl, rfl, rfl, trivial⟩ rfl rfl) ?_
        refine WPl.nil ?_
        refine EX.then ?_
        refine WP.seq ?_
        refine WP.draw (nf := 16) [⟨[36, 37, 38, 39, 40, 41, 42], [15], [], [], []⟩, ⟨[35, 37, 40, 41], [], [], [], []⟩, ⟨[35, 36, 40, 41], [], [], [], []⟩, ⟨[35, 40, 41], [], [15], [15], [1, 2]⟩, ⟨[35, 40, 41], [], [], [], [1, 2, 3]⟩, ⟨[35, 36, 37, 38, 39], [15], [], [], []⟩, ⟨[35, 36, 37, 38, 39], [15], [], [], [5]⟩, ⟨[35], [], [], [], [1, 2, 3, 4, 5, 6]⟩, ⟨[], [], [], [], [0, 1, 2, 3, 4, 5, 6, 7]⟩, ⟨[], [], [], [12], [0, 1, 2, 3, 4, 5, 6, 7, 8]⟩] (by kernel_rfl) (by kernel_rfl) ?_
        refine DRQ.v rfl rfl rfl (o_move rfl) ?_
        refine DRQ.v rfl rfl rfl (o_move rfl) ?_
        refine DRQ.v rfl rfl rfl (o_move rfl) ?_
        refine DRQ.x 15 rfl rfl rfl rfl (o_idx L24 rfl (lx rfl) rfl (by first | omega | (simp; omega)) (by first | omega | (simp; omega))) ?_
        refine DRQ.v rfl rfl rfl (o_ldq S3 rfl (lx rfl) intc) ?_
        refine DRQ.v rfl rfl rfl (o_fldp F47_1 rfl) ?_
        refine DRQ.v rfl rfl rfl (o_ldp S3 rfl rfl rfl) ?_
        refine DRQ.v rfl rfl rfl (o_sub rfl rfl (by first | omega | (simp; omega)) (by first | omega | (simp; omega))) ?_
        refine DRQ.v rfl rfl rfl (o_idxp A68 rfl rfl (by first | omega | (simp; omega)) (by first | omega | (simp; omega))) ?_
        refine DRQ.s 12 rfl rfl rfl (o_stpn (n := 5) (l := f.lefTo (f.wAt g) i) (cs' := [ai (nth (lset (f.lefTo (f.wAt g) i) (i : Int) ((nth (nth f.worlds (nth f.agL (g : Int))) (i : Int)) - ((nth f.moulds (i : Int)).used))) 0), ai (nth (lset (f.lefTo (f.wAt g) i) (i : Int) ((nth (nth f.worlds (nth f.agL (g : Int))) (i : Int)) - ((nth f.moulds (i : Int)).used))) 1), ai (nth (lset (f.lefTo (f.wAt g) i) (i : Int) ((nth (nth f.worlds (nth f.agL (g : Int))) (i : Int)) - ((nth f.moulds (i : Int)).used))) 2), ai (nth (lset (f.lefTo (f.wAt g) i) (i : Int) ((nth (nth f.worlds (nth f.agL (g : Int))) (i : Int)) - ((nth f.moulds (i : Int)).used))) 3), ai (nth (lset (f.lefTo (f.wAt g) i) (i : Int) ((nth (nth f.worlds (nth f.agL (g : Int))) (i : Int)) - ((nth f.moulds (i : Int)).used))) 4)]) S3 rfl rfl rfl rfl rfl (by first | exact lefTo_len _ _ _ | exact sureIn_len (sureTo_len _ _) _) (by first | omega | (simp; omega)) (by first | omega | (simp; omega))) ?_
        refine DRQ.nil' ?_
        refine EX.then ?_
        refine WP.seq ?_
        refine WP.imp (Imp.bit 16 17 (!(decide ((nth (lset (f.lefTo (f.wAt g) i) (i : Int) ((nth (nth f.worlds (nth f.agL (g : Int))) (i : Int)) - ((nth f.moulds (i : Int)).used))) (i : Int)) < (nth (f.sureIn (f.wAt g) (f.rowsTo g).length (f.sureTo g) i) (i : Int))))) rfl rfl) ?_
        refine WP.draw (nf := 17) [⟨[45, 50, 51, 52], [], [], [], []⟩, ⟨[44, 46, 47, 50, 51, 52], [], [], [], []⟩, ⟨[45, 50, 51, 52], [], [], [], [0]⟩, ⟨[45, 50, 51, 52], [], [], [], [0, 2]⟩, ⟨[50, 51, 52], [], [], [], [0, 1, 2, 3]⟩, ⟨[50, 51, 52], [], [], [], [0, 1, 2, 3, 4]⟩, ⟨[44, 45, 46, 47, 48, 49], [], [], [], []⟩, ⟨[44, 45, 46, 47, 48, 49], [], [], [], [6]⟩, ⟨[44, 45, 46, 47, 48, 49], [], [], [], [6, 7]⟩, ⟨[], [], [], [], [0, 1, 2, 3, 4, 5, 6, 7, 8]⟩, ⟨[], [], [], [], [0, 1, 2, 3, 4, 5, 6, 7, 8, 9]⟩, ⟨[], [], [], [], [0, 1, 2, 3, 4, 5, 6, 7, 8, 9, 10]⟩, ⟨[], [], [], [], [0, 1, 2, 3, 4, 5, 6, 7, 8, 9, 10, 11]⟩, ⟨[], [], [], [], [0, 1, 2, 3, 4, 5, 6, 7, 8, 9, 10, 11, 12]⟩, ⟨[], [], [], [], [0, 1, 2, 3, 4, 5, 6, 7, 8, 9, 10, 11, 12, 13]⟩, ⟨[], [], [], [], [0, 1, 2, 3, 4, 5, 6, 7, 8, 9, 10, 11, 12, 13, 14]⟩, ⟨[], [], [], [], [0, 1, 2, 3, 4, 5, 6, 7, 8, 9, 10, 11, 12, 13, 14, 15]⟩, ⟨[], [], [], [], [0, 1, 2, 3, 4, 5, 6, 7, 8, 9, 10, 11, 12, 13, 14, 15, 16]⟩] (by kernel_rfl) (by kernel_rfl) ?_
        refine DRQ.v rfl rfl rfl (o_ldp S52 rfl rfl rfl) ?_
        refine DRQ.v rfl rfl rfl (o_move rfl) ?_
        refine DRQ.v rfl rfl rfl (o_nilp rfl) ?_
        refine DRQ.v rfl rfl rfl (o_fldp F70_2 rfl) ?_
        refine DRQ.v rfl rfl rfl (o_idxpc (5 + (i : Int)) A68 rfl rfl (by first | omega | (simp; omega)) (by first | omega | (simp; omega)) (by omega)) ?_
        refine DRQ.v rfl rfl rfl (o_ldpm (n := 5) (l := (f.sureIn (f.wAt g) (f.rowsTo g).length (f.sureTo g) i)) [.q 0, .q 1, .q 2, ai (f.fresh), .q 10] S3 rfl rfl rfl (by first | omega | (simp; omega)) (by first | omega | (simp; omega)) (show (5 + (i : Int)).toNat = 5 + ((i : Int)).toNat by omega)) ?_
        refine DRQ.v rfl rfl rfl (o_move rfl) ?_
        refine DRQ.v rfl rfl rfl (o_idxp A68 rfl rfl (by first | omega | (simp; omega)) (by first | omega | (simp; omega))) ?_
        refine DRQ.v rfl rfl rfl (o_ldpn (n := 5) (l := lset (f.lefTo (f.wAt g) i) (i : Int) ((nth (nth f.worlds (nth f.agL (g : Int))) (i : Int)) - ((nth f.moulds (i : Int)).used))) S3 rfl rfl rfl (by first | omega | (simp; omega)) (by first | omega | (simp; omega))) ?_
        refine DRQ.v rfl rfl rfl (o_gtr rfl rfl) ?_
        refine DRQ.v rfl rfl rfl (o_move rfl) ?_
        refine DRQ.gv 16 rfl rfl (.plain rfl (by first | (simp; done) | simp only [Bool.not_eq_true']) rfl) rfl (fun hb => o_ldp S52 rfl rfl rfl) ?_
        refine DRQ.gv 16 rfl rfl (.plain rfl (by first | (simp; done) | simp only [Bool.not_eq_true']) rfl) rfl (fun hb => o_nilp rfl) ?_
        refine DRQ.gv 16 rfl rfl (.plain rfl (by first | (simp; done) | simp only [Bool.not_eq_true']) rfl) rfl (fun hb => o_fldp F70_1 rfl) ?_
        refine DRQ.gv 16 rfl rfl (.plain rfl (by first | (simp; done) | simp only [Bool.not_eq_true']) rfl) rfl (fun hb => o_ldp S66 rfl rfl rfl) ?_
        refine DRQ.gv 16 rfl rfl (.plain rfl (by first | (simp; done) | simp only [Bool.not_eq_true']) rfl) rfl (fun hb => o_leno L66 rfl rfl) ?_
        refine DRQ.gv 16 rfl rfl (.plain rfl (by first | (simp; done) | simp only [Bool.not_eq_true']) rfl) rfl (fun hb => o_eql rfl rfl) ?_
        refine DRQ.v rfl rfl rfl (o_or rfl rfl rfl (by first | (simp; done) | exact fun h => by rw [h]; rfl | exact fun h => Bool.and_eq_true_iff.2 ⟨hb, by rw [h]; rfl⟩ | simp_all)) ?_
        refine DRQ.nil' ?_
        refine EX.then ?_
        refine WP.cond rfl (fun hc4 => ?_) (fun hc4 => ?_)
        · try simp only [decide_eq_true_eq, decide_eq_false_iff_not, Bool.and_eq_true, Bool.or_eq_true, Bool.and_eq_false_iff, Bool.or_eq_false_iff, Bool.not_eq_true', Bool.not_eq_false', ne_eq, Decidable.not_not] at hc4
          have hlf := lefTo_self (f := f) (w := (f.wAt g)) (show i < 5 by omega)
          have hsu : f.leftAt (f.wAt g) i < nth (f.sureIn (f.wAt g) (f.rowsTo g).length (f.sureTo g) i) (i : Int) ∨ ((f.rowsTo g).length : Int) = 0 := by rw [← hlf]; exact hc4
          refine WP.draw (nf := 17) [⟨[63, 64, 65, 66], [], [], [], []⟩, ⟨[62, 64, 65, 66, 67, 68], [], [], [], []⟩, ⟨[62, 63, 67, 68], [], [], [], []⟩, ⟨[62, 63, 67, 68], [], [], [], [2]⟩, ⟨[62, 63, 67, 68], [], [], [], [2, 3]⟩, ⟨[63, 64, 65, 66], [], [], [], [0]⟩, ⟨[63, 64, 65, 66], [], [], [], [0, 5]⟩, ⟨[], [], [], [], [0, 1, 2, 3, 4, 5, 6]⟩, ⟨[], [], [], [4], [0, 1, 2, 3, 4, 5, 6, 7]⟩] (by kernel_rfl) (by kernel_rfl) ?_
          refine DRQ.v rfl rfl rfl (o_ldp S52 rfl rfl rfl) ?_
          refine DRQ.v rfl rfl rfl (o_move rfl) ?_
          refine DRQ.v rfl rfl rfl (o_move rfl) ?_
          refine DRQ.v rfl rfl rfl (o_idxp A68 rfl rfl (by first | omega | (simp; omega)) (by first | omega | (simp; omega))) ?_
          refine DRQ.v rfl rfl rfl (o_ldpn (n := 5) (l := lset (f.lefTo (f.wAt g) i) (i : Int) ((nth (nth f.worlds (nth f.agL (g : Int))) (i : Int)) - ((nth f.moulds (i : Int)).used))) S3 rfl rfl rfl (by first | omega | (simp; omega)) (by first | omega | (simp; omega))) ?_
          refine DRQ.v rfl rfl rfl (o_nilp rfl) ?_
          refine DRQ.v rfl rfl rfl (o_fldp F70_2 rfl) ?_
          refine DRQ.v rfl rfl rfl (o_idxpc (5 + (i : Int)) A68 rfl rfl (by first | omega | (simp; omega)) (by first | omega | (simp; omega)) (by omega)) ?_
          refine DRQ.s 4 rfl rfl rfl (o_stpm (n := 5) (l := (f.sureIn (f.wAt g) (f.rowsTo g).length (f.sureTo g) i)) [.q 0, .q 1, .q 2, ai (f.fresh), .q 10] (cs' := [.q 0, .q 1, .q 2, ai (f.fresh), .q 10, ai (nth (lset (f.sureIn (f.wAt g) (f.rowsTo g).length (f.sureTo g) i) (i : Int) (nth (lset (f.lefTo (f.wAt g) i) (i : Int) ((nth (nth f.worlds (nth f.agL (g : Int))) (i : Int)) - ((nth f.moulds (i : Int)).used))) (i : Int))) 0), ai (nth (lset (f.sureIn (f.wAt g) (f.rowsTo g).length (f.sureTo g) i) (i : Int) (nth (lset (f.lefTo (f.wAt g) i) (i : Int) ((nth (nth f.worlds (nth f.agL (g : Int))) (i : Int)) - ((nth f.moulds (i : Int)).used))) (i : Int))) 1), ai (nth (lset (f.sureIn (f.wAt g) (f.rowsTo g).length (f.sureTo g) i) (i : Int) (nth (lset (f.lefTo (f.wAt g) i) (i : Int) ((nth (nth f.worlds (nth f.agL (g : Int))) (i : Int)) - ((nth f.moulds (i : Int)).used))) (i : Int))) 2), ai (nth (lset (f.sureIn (f.wAt g) (f.rowsTo g).length (f.sureTo g) i) (i : Int) (nth (lset (f.lefTo (f.wAt g) i) (i : Int) ((nth (nth f.worlds (nth f.agL (g : Int))) (i : Int)) - ((nth f.moulds (i : Int)).used))) (i : Int))) 3), ai (nth (lset (f.sureIn (f.wAt g) (f.rowsTo g).length (f.sureTo g) i) (i : Int) (nth (lset (f.lefTo (f.wAt g) i) (i : Int) ((nth (nth f.worlds (nth f.agL (g : Int))) (i : Int)) - ((nth f.moulds (i : Int)).used))) (i : Int))) 4)]) S3 rfl rfl rfl rfl rfl (by first | exact lefTo_len _ _ _ | exact sureIn_len (sureTo_len _ _) _) (by first | omega | (simp; omega)) (by first | omega | (simp; omega)) (show (5 + (i : Int)).toNat = 5 + ((i : Int)).toNat by omega)) ?_
          refine DRQ.nil' ?_
          refine EX.blk ?_
          refine EX.then ?_
          refine WP.region ?_
          refine WPl.v rfl (o_add rfl rfl (by first | omega | (simp; omega)) (by first | omega | (simp; omega))) ?_
          refine WPl.v rfl (o_move rfl) ?_
          refine WPl.nil ?_
          skip
          refine EX.again (i + 1) id (by first | omega | (constructor <;> omega)) (by omega) (LeR.of ⟨rfl, rfl, rfl, rfl, rfl, rfl, rfl, rfl, rfl, rfl, rfl, rfl, trivial⟩ ⟨(lx rfl), (lx rfl), (lx rfl), (lx rfl), (lx rfl), trivial⟩ ⟨rfl, (congrArg (fun z => some (Ent.blk z 70)) (List.cons_eq_cons.2 ⟨(Eq.refl (.q 0 : At)), (List.cons_eq_cons.2 ⟨(Eq.refl (.q 1 : At)), (List.cons_eq_cons.2 ⟨(Eq.refl (.q 2 : At)), (List.cons_eq_cons.2 ⟨(Eq.refl (ai (f.fresh) : At)), (List.cons_eq_cons.2 ⟨(Eq.refl (.q 10 : At)), (List.cons_eq_cons.2 ⟨(congrArg (fun z => ai z) (show (nth (lset (f.sureIn (f.wAt g) (f.rowsTo g).length (f.sureTo g) i) (i : Int) (nth (lset (f.lefTo (f.wAt g) i) (i : Int) ((nth (nth f.worlds (nth f.agL (g : Int))) (i : Int)) - ((nth f.moulds (i : Int)).used))) (i : Int))) 0) = ((fun i => nth (f.sureIn (f.wAt g) (f.rowsTo g).length (f.sureTo g) i) 0) (i + 1)) from by show _ = nth (f.sureIn (f.wAt g) (f.rowsTo g).length (f.sureTo g) (i + 1)) _; rw [FSh.sureIn, if_pos (show f.leftAt (f.wAt g) i < nth (f.sureIn (f.wAt g) (f.rowsTo g).length (f.sureTo g) i) (i : Int) ∨ ((f.rowsTo g).length : Int) = 0 from hsu)]; rw [← hlf]; rfl)), (List.cons_eq_cons.2 ⟨(congrArg (fun z => ai z) (show (nth (lset (f.sureIn (f.wAt g) (f.rowsTo g).length (f.sureTo g) i) (i : Int) (nth (lset (f.lefTo (f.wAt g) i) (i : Int) ((nth (nth f.worlds (nth f.agL (g : Int))) (i : Int)) - ((nth f.moulds (i : Int)).used))) (i : Int))) 1) = ((fun i => nth (f.sureIn (f.wAt g) (f.rowsTo g).length (f.sureTo g) i) 1) (i + 1)) from by show _ = nth (f.sureIn (f.wAt g) (f.rowsTo g).length (f.sureTo g) (i + 1)) _; rw [FSh.sureIn, if_pos (show f.leftAt (f.wAt g) i < nth (f.sureIn (f.wAt g) (f.rowsTo g).length (f.sureTo g) i) (i : Int) ∨ ((f.rowsTo g).length : Int) = 0 from hsu)]; rw [← hlf]; rfl)), (List.cons_eq_cons.2 ⟨(congrArg (fun z => ai z) (show (nth (lset (f.sureIn (f.wAt g) (f.rowsTo g).length (f.sureTo g) i) (i : Int) (nth (lset (f.lefTo (f.wAt g) i) (i : Int) ((nth (nth f.worlds (nth f.agL (g : Int))) (i : Int)) - ((nth f.moulds (i : Int)).used))) (i : Int))) 2) = ((fun i => nth (f.sureIn (f.wAt g) (f.rowsTo g).length (f.sureTo g) i) 2) (i + 1)) from by show _ = nth (f.sureIn (f.wAt g) (f.rowsTo g).length (f.sureTo g) (i + 1)) _; rw [FSh.sureIn, if_pos (show f.leftAt (f.wAt g) i < nth (f.sureIn (f.wAt g) (f.rowsTo g).length (f.sureTo g) i) (i : Int) ∨ ((f.rowsTo g).length : Int) = 0 from hsu)]; rw [← hlf]; rfl)), (List.cons_eq_cons.2 ⟨(congrArg (fun z => ai z) (show (nth (lset (f.sureIn (f.wAt g) (f.rowsTo g).length (f.sureTo g) i) (i : Int) (nth (lset (f.lefTo (f.wAt g) i) (i : Int) ((nth (nth f.worlds (nth f.agL (g : Int))) (i : Int)) - ((nth f.moulds (i : Int)).used))) (i : Int))) 3) = ((fun i => nth (f.sureIn (f.wAt g) (f.rowsTo g).length (f.sureTo g) i) 3) (i + 1)) from by show _ = nth (f.sureIn (f.wAt g) (f.rowsTo g).length (f.sureTo g) (i + 1)) _; rw [FSh.sureIn, if_pos (show f.leftAt (f.wAt g) i < nth (f.sureIn (f.wAt g) (f.rowsTo g).length (f.sureTo g) i) (i : Int) ∨ ((f.rowsTo g).length : Int) = 0 from hsu)]; rw [← hlf]; rfl)), (List.cons_eq_cons.2 ⟨(congrArg (fun z => ai z) (show (nth (lset (f.sureIn (f.wAt g) (f.rowsTo g).length (f.sureTo g) i) (i : Int) (nth (lset (f.lefTo (f.wAt g) i) (i : Int) ((nth (nth f.worlds (nth f.agL (g : Int))) (i : Int)) - ((nth f.moulds (i : Int)).used))) (i : Int))) 4) = ((fun i => nth (f.sureIn (f.wAt g) (f.rowsTo g).length (f.sureTo g) i) 4) (i + 1)) from by show _ = nth (f.sureIn (f.wAt g) (f.rowsTo g).length (f.sureTo g) (i + 1)) _; rw [FSh.sureIn, if_pos (show f.leftAt (f.wAt g) i < nth (f.sureIn (f.wAt g) (f.rowsTo g).length (f.sureTo g) i) (i : Int) ∨ ((f.rowsTo g).length : Int) = 0 from hsu)]; rw [← hlf]; rfl)), (Eq.refl [])⟩)⟩)⟩)⟩)⟩)⟩)⟩)⟩)⟩)⟩)), rfl, rfl, rfl, rfl, rfl, trivial⟩ rfl rfl rfl rfl rfl)
        · try simp only [decide_eq_true_eq, decide_eq_false_iff_not, Bool.and_eq_true, Bool.or_eq_true, Bool.and_eq_false_iff, Bool.or_eq_false_iff, Bool.not_eq_true', Bool.not_eq_false', ne_eq, Decidable.not_not] at hc4
          have hlf := lefTo_self (f := f) (w := (f.wAt g)) (show i < 5 by omega)
          have hsu : ¬(f.leftAt (f.wAt g) i < nth (f.sureIn (f.wAt g) (f.rowsTo g).length (f.sureTo g) i) (i : Int) ∨ ((f.rowsTo g).length : Int) = 0) := by rw [← hlf]; exact not_or.2 hc4
          refine WP.skip ?_
          refine EX.blk ?_
          refine EX.then ?_
          refine WP.region ?_
          refine WPl.v rfl (o_add rfl rfl (by first | omega | (simp; omega)) (by first | omega | (simp; omega))) ?_
          refine WPl.v rfl (o_move rfl) ?_
          refine WPl.nil ?_
          skip
          refine EX.again (i + 1) id (by first | omega | (constructor <;> omega)) (by omega) (LeR.of ⟨rfl, rfl, rfl, rfl, rfl, rfl, rfl, rfl, rfl, rfl, rfl, rfl, trivial⟩ ⟨(lx rfl), (lx rfl), (lx rfl), (lx rfl), (lx rfl), trivial⟩ ⟨rfl, (congrArg (fun z => some (Ent.blk z 70)) (List.cons_eq_cons.2 ⟨(Eq.refl (.q 0 : At)), (List.cons_eq_cons.2 ⟨(Eq.refl (.q 1 : At)), (List.cons_eq_cons.2 ⟨(Eq.refl (.q 2 : At)), (List.cons_eq_cons.2 ⟨(Eq.refl (ai (f.fresh) : At)), (List.cons_eq_cons.2 ⟨(Eq.refl (.q 10 : At)), (List.cons_eq_cons.2 ⟨(congrArg (fun z => ai z) (show (nth (f.sureIn (f.wAt g) (f.rowsTo g).length (f.sureTo g) i) 0) = ((fun i => nth (f.sureIn (f.wAt g) (f.rowsTo g).length (f.sureTo g) i) 0) (i + 1)) from by show _ = nth (f.sureIn (f.wAt g) (f.rowsTo g).length (f.sureTo g) (i + 1)) _; rw [FSh.sureIn, if_neg (show ¬(f.leftAt (f.wAt g) i < nth (f.sureIn (f.wAt g) (f.rowsTo g).length (f.sureTo g) i) (i : Int) ∨ ((f.rowsTo g).length : Int) = 0) from hsu)])), (List.cons_eq_cons.2 ⟨(congrArg (fun z => ai z) (show (nth (f.sureIn (f.wAt g) (f.rowsTo g).length (f.sureTo g) i) 1) = ((fun i => nth (f.sureIn (f.wAt g) (f.rowsTo g).length (f.sureTo g) i) 1) (i + 1)) from by show _ = nth (f.sureIn (f.wAt g) (f.rowsTo g).length (f.sureTo g) (i + 1)) _; rw [FSh.sureIn, if_neg (show ¬(f.leftAt (f.wAt g) i < nth (f.sureIn (f.wAt g) (f.rowsTo g).length (f.sureTo g) i) (i : Int) ∨ ((f.rowsTo g).length : Int) = 0) from hsu)])), (List.cons_eq_cons.2 ⟨(congrArg (fun z => ai z) (show (nth (f.sureIn (f.wAt g) (f.rowsTo g).length (f.sureTo g) i) 2) = ((fun i => nth (f.sureIn (f.wAt g) (f.rowsTo g).length (f.sureTo g) i) 2) (i + 1)) from by show _ = nth (f.sureIn (f.wAt g) (f.rowsTo g).length (f.sureTo g) (i + 1)) _; rw [FSh.sureIn, if_neg (show ¬(f.leftAt (f.wAt g) i < nth (f.sureIn (f.wAt g) (f.rowsTo g).length (f.sureTo g) i) (i : Int) ∨ ((f.rowsTo g).length : Int) = 0) from hsu)])), (List.cons_eq_cons.2 ⟨(congrArg (fun z => ai z) (show (nth (f.sureIn (f.wAt g) (f.rowsTo g).length (f.sureTo g) i) 3) = ((fun i => nth (f.sureIn (f.wAt g) (f.rowsTo g).length (f.sureTo g) i) 3) (i + 1)) from by show _ = nth (f.sureIn (f.wAt g) (f.rowsTo g).length (f.sureTo g) (i + 1)) _; rw [FSh.sureIn, if_neg (show ¬(f.leftAt (f.wAt g) i < nth (f.sureIn (f.wAt g) (f.rowsTo g).length (f.sureTo g) i) (i : Int) ∨ ((f.rowsTo g).length : Int) = 0) from hsu)])), (List.cons_eq_cons.2 ⟨(congrArg (fun z => ai z) (show (nth (f.sureIn (f.wAt g) (f.rowsTo g).length (f.sureTo g) i) 4) = ((fun i => nth (f.sureIn (f.wAt g) (f.rowsTo g).length (f.sureTo g) i) 4) (i + 1)) from by show _ = nth (f.sureIn (f.wAt g) (f.rowsTo g).length (f.sureTo g) (i + 1)) _; rw [FSh.sureIn, if_neg (show ¬(f.leftAt (f.wAt g) i < nth (f.sureIn (f.wAt g) (f.rowsTo g).length (f.sureTo g) i) (i : Int) ∨ ((f.rowsTo g).length : Int) = 0) from hsu)])), (Eq.refl [])⟩)⟩)⟩)⟩)⟩)⟩)⟩)⟩)⟩)⟩)), rfl, rfl, rfl, rfl, rfl, trivial⟩ rfl rfl rfl rfl rfl)
      · try simp only [decide_eq_true_eq, decide_eq_false_iff_not, Bool.and_eq_true, Bool.or_eq_true, Bool.and_eq_false_iff, Bool.or_eq_false_iff, Bool.not_eq_true', Bool.not_eq_false', ne_eq, Decidable.not_not] at hc3
        refine WP.exit ?_
        refine EX.exit_then ?_
        refine EX.exit_then ?_
        refine EX.exit_blk ?_
        refine EX.then ?_
        refine WP.draw (nf := 15) [⟨[72, 73, 74, 75, 76, 77, 78], [10, 13, 14], [], [], []⟩, ⟨[71, 76, 77], [13], [], [], []⟩, ⟨[71, 76, 77], [13], [], [], [1]⟩, ⟨[71, 76, 77], [13], [], [], [1, 2]⟩, ⟨[71, 76, 77], [13], [], [], [1, 2, 3]⟩, ⟨[71, 72, 73, 74, 75], [], [], [], []⟩, ⟨[71, 72, 73, 74, 75], [], [13], [13, 13], [5]⟩, ⟨[71], [], [14], [14, 10], [1, 2, 3, 4, 5, 6]⟩, ⟨[], [], [], [], [0, 1, 2, 3, 4, 5, 6, 7]⟩, ⟨[], [], [], [], [0, 1, 2, 3, 4, 5, 6, 7, 8]⟩, ⟨[], [], [], [4], [0, 1, 2, 3, 4, 5, 6, 7, 8, 9]⟩] (by kernel_rfl) (by kernel_rfl) ?_
        refine DRQ.v rfl rfl rfl (o_ldp S52 rfl rfl rfl) ?_
        refine DRQ.v rfl rfl rfl (o_ldp S52 rfl rfl rfl) ?_
        refine DRQ.v rfl rfl rfl (o_nilp rfl) ?_
        refine DRQ.v rfl rfl rfl (o_fldp F70_1 rfl) ?_
        refine DRQ.v rfl rfl rfl (o_ldp S66 rfl rfl rfl) ?_
        refine DRQ.v rfl rfl rfl (o_ldpa G68 rfl rfl rfl) ?_
        refine DRQ.u1 13 rfl rfl rfl (OpG.newer0 (o_bsl (E := (EArr 5)) (l := [f.lefTo (f.wAt g) i]) R66 rfl rfl (.cons (⟨rfl, rfl, rfl, rfl, rfl, trivial⟩) rfl (eok_fix (fun _ => rfl)) (.nil)) rfl rfl)) rfl ?_
        refine DRQ.l2 14 10 rfl rfl rfl rfl (o_appo R66 EArr_one rfl rfl rfl rfl (by first | omega | (simp; omega) | (simp at *; omega)) (by first | omega | (simp; omega) | (simp at *; omega))) ?_
        refine DRQ.v rfl rfl rfl (o_nilp rfl) ?_
        refine DRQ.v rfl rfl rfl (o_fldp F70_1 rfl) ?_
        refine DRQ.s 4 rfl rfl rfl (o_sta S66 rfl rfl rfl (.inr ⟨_, _, _, _, rfl⟩) rfl) ?_
        refine DRQ.nil' ?_
        refine EX.blk ?_
        exact EX.next (ren [(10, 14)]) (LeR.of trivial ⟨(lx rfl), (lx rfl), (lx rfl), (lx rfl), trivial⟩ ⟨rfl, rfl, (congrArg (fun z => some (Ent.blk z 70)) (List.cons_eq_cons.2 ⟨(Eq.refl (.q 0 : At)), (List.cons_eq_cons.2 ⟨(Eq.refl (.q 1 : At)), (List.cons_eq_cons.2 ⟨(Eq.refl (.q 2 : At)), (List.cons_eq_cons.2 ⟨(Eq.refl (ai (f.fresh) : At)), (List.cons_eq_cons.2 ⟨(Eq.refl (.q 14 : At)), (List.cons_eq_cons.2 ⟨(congrArg (fun z => ai z) (show (nth (f.sureIn (f.wAt g) (f.rowsTo g).length (f.sureTo g) i) 0) = ((fun g => nth (f.sureTo g) 0) (g + 1)) from by dsimp only; rw [show i = f.moulds.length by omega]; rfl)), (List.cons_eq_cons.2 ⟨(congrArg (fun z => ai z) (show (nth (f.sureIn (f.wAt g) (f.rowsTo g).length (f.sureTo g) i) 1) = ((fun g => nth (f.sureTo g) 1) (g + 1)) from by dsimp only; rw [show i = f.moulds.length by omega]; rfl)), (List.cons_eq_cons.2 ⟨(congrArg (fun z => ai z) (show (nth (f.sureIn (f.wAt g) (f.rowsTo g).length (f.sureTo g) i) 2) = ((fun g => nth (f.sureTo g) 2) (g + 1)) from by dsimp only; rw [show i = f.moulds.length by omega]; rfl)), (List.cons_eq_cons.2 ⟨(congrArg (fun z => ai z) (show (nth (f.sureIn (f.wAt g) (f.rowsTo g).length (f.sureTo g) i) 3) = ((fun g => nth (f.sureTo g) 3) (g + 1)) from by dsimp only; rw [show i = f.moulds.length by omega]; rfl)), (List.cons_eq_cons.2 ⟨(congrArg (fun z => ai z) (show (nth (f.sureIn (f.wAt g) (f.rowsTo g).length (f.sureTo g) i) 4) = ((fun g => nth (f.sureTo g) 4) (g + 1)) from by dsimp only; rw [show i = f.moulds.length by omega]; rfl)), (Eq.refl [])⟩)⟩)⟩)⟩)⟩)⟩)⟩)⟩)⟩)⟩)), rfl, rfl, (congrArg (fun z => some (Ent.own 68 (EArr 5).size (List.length z) (RP (EArr 5) z))) (show ((f.rowsTo g) ++ [f.lefTo (f.wAt g) i]) = ((fun g => f.rowsTo g) (g + 1)) from by dsimp only; rw [show i = f.moulds.length by omega]; rfl)), trivial⟩ rfl rfl rfl rfl rfl)
    · exact fun _ _ h => h.elim
    · skip
      refine EX.blk ?_
      refine EX.then ?_
      refine WP.seq ?_
      refine WP.seq ?_
      refine WP.region ?_
      refine WPl.v rfl (o_ldp S52 rfl rfl rfl) ?_
      refine WPl.v rfl (o_nilp rfl) ?_
      refine WPl.v rfl (o_fldp F70_1 rfl) ?_
      refine WPl.v rfl (o_ldp S66 rfl rfl rfl) ?_
      refine WPl.v rfl (o_leno L66 rfl rfl) ?_
      refine WPl.v rfl (o_eql rfl rfl) ?_
      refine WPl.nil ?_
      refine EX.then ?_
      refine WP.cond rfl (fun hc5 => ?_) (fun hc5 => ?_)
      · try simp only [decide_eq_true_eq, decide_eq_false_iff_not, Bool.and_eq_true, Bool.or_eq_true, Bool.and_eq_false_iff, Bool.or_eq_false_iff, Bool.not_eq_true', Bool.not_eq_false', ne_eq, Decidable.not_not] at hc5
        rw [rowsTo_len] at hc5; omega
      · try simp only [decide_eq_true_eq, decide_eq_false_iff_not, Bool.and_eq_true, Bool.or_eq_true, Bool.and_eq_false_iff, Bool.or_eq_false_iff, Bool.not_eq_true', Bool.not_eq_false', ne_eq, Decidable.not_not] at hc5
        refine WP.skip ?_
        refine EX.then ?_
        refine WP.seq ?_
        refine WP.region ?_
        refine WPl.imp (Imp.frz (E := (EArr 5)) (l := f.rowsTo f.agL.length) 10 rfl rfl) ?_
        refine WPl.v rfl (o_ldp S52 rfl rfl rfl) ?_
        refine WPl.v rfl (o_assign rfl) ?_
        refine WPl.v rfl (o_assign rfl) ?_
        refine WPl.nil ?_
        refine EX.then ?_
        refine WP.ret ?_
        refine EX.imp (Imp.frzb (E := EFl) (y := f.shopV) 4 11 12 rfl rfl (bok_str ⟨⟨_, rfl, (lx rfl)⟩, ⟨_, rfl, (lx rfl)⟩, ⟨_, rfl, (lx rfl)⟩, rfl, ⟨_, rfl, (lx rfl)⟩, rfl, rfl, rfl, rfl, rfl, trivial⟩) rfl rfl rfl) ?_
        exact EX.fin (ren [(0, 11)]) (.inl rfl) rfl (.tmp rfl (.tmp rfl .nil)) rfl r18 ⟨(lx rfl), trivial⟩ (marks rfl) (by simp)
theorem w18E {f : FSh} : ∀ x ∈ ([.e (.g [.q 0, .q 1, .q 2, ai (f.fresh)]), .b (true)] : List SV), x.res (keys (α := Pred) [(0, PL EMo (f.moulds)), (1, PL (EP.sl EP.int) (f.worlds)), (2, PL EP.int (f.wants))]) := by simp [SV.res, El.res, At.res, keys]
theorem r18E {f : FSh} : SV.res (keys (α := Pred) []) (.t [.a (.v (.pointer none)), .a (ai (f.newE))]) := by simp [SV.res, El.res, At.res, keys]
set_option maxHeartbeats 4000000 in
theorem c18E (f : FSh) (hm : f.Small) (hv : f.newE ≠ 0) : Sig Try.prog 18 [.e (.g [.q 0, .q 1, .q 2, ai (f.fresh)]), .b (true)] [(0, PL EMo (f.moulds)), (1, PL (EP.sl EP.int) (f.worlds)), (2, PL EP.int (f.wants))] (.t [.a (.v (.pointer none)), .a (ai (f.newE))]) [] := by
  have hcE : f.chk = true → f.agL.length = 0 := fun hc => by have h := mt newE_eq.2 hv; rw [not_and] at h; exact Classical.not_not.1 (h hc)
  refine Sig.intro Try.func18 rfl 3 [(0, .e (.g [.q 0, .q 1, .q 2, ai (f.fresh)])), (1, .b (true))] rfl w18E rfl rfl fun I w => ?_
  refine WP.seq ?_
  refine WP.region ?_
  refine WPl.l 3 4 rfl rfl rfl (o_boxg rfl) ?_
  refine WPl.v rfl (o_assign rfl) ?_
  refine WPl.v rfl (o_assign rfl) ?_
  refine WPl.nil ?_
  refine EX.then ?_
  refine WP.seq ?_
  refine WP.seq ?_
  refine WP.region ?_
  refine WPl.v rfl (o_ldpa G26 rfl rfl rfl) ?_
  refine WPl.cs 4 rfl rfl rfl rfl (o_sig 4 (ren [(0, 0), (1, 1), (2, 2)]) (c26 f hm) e26 rfl rfl rfl w26 ⟨(lx rfl), (lx rfl), (lx rfl), trivial⟩ r26) ?_
  refine WPl.v rfl (o_assign rfl) ?_
  refine WPl.nil ?_
  refine EX.then ?_
  refine WP.seq ?_
  refine WP.region ?_
  refine WPl.v rfl (o_move rfl) ?_
  refine WPl.v rfl (o_neq rfl rfl) ?_
  refine WPl.nil ?_
  refine EX.then ?_
  refine WP.cond rfl (fun hc1 => ?_) (fun hc1 => ?_)
  · try simp only [decide_eq_true_eq, decide_eq_false_iff_not, Bool.and_eq_true, Bool.or_eq_true, Bool.and_eq_false_iff, Bool.or_eq_false_iff, Bool.not_eq_true', Bool.not_eq_false', ne_eq, Decidable.not_not] at hc1
    refine WP.seq ?_
    refine WP.region ?_
    refine WPl.v rfl (o_move rfl) ?_
    refine WPl.v rfl (o_assign rfl) ?_
    refine WPl.v rfl (o_assign rfl) ?_
    refine WPl.nil ?_
    refine EX.then ?_
    refine WP.ret ?_
    refine EX.ret_then ?_
    rw [show f.newE = errF f.chk from by cases hb : f.chk with | false => unfold FSh.newE errF; rw [hb]; rfl | true => exact absurd (errF_eq.2 hb) (by simpa using hc1)]
    exact EX.fin id (.inl rfl) rfl (.tmp rfl (.tmp rfl .nil)) rfl (by simp [SV.res, El.res, At.res, keys]) trivial (by simp) (by simp)
  · try simp only [decide_eq_true_eq, decide_eq_false_iff_not, Bool.and_eq_true, Bool.or_eq_true, Bool.and_eq_false_iff, Bool.or_eq_false_iff, Bool.not_eq_true', Bool.not_eq_false', ne_eq, Decidable.not_not] at hc1
    have hc : f.chk = true := errF_eq.1 (by simpa using hc1)
    have hf := FSh.chkB hc
    have hm5 := hf.m
    have hz := hcE hc
    refine WP.skip ?_
    refine EX.then ?_
    refine WP.seq ?_
    refine WP.seq ?_
    refine WP.region ?_
    refine WPl.v rfl (o_move rfl) ?_
    refine WPl.v rfl (o_not rfl) ?_
    refine WPl.nil ?_
    refine EX.then ?_
    refine WP.cond rfl (fun h => by cases h) (fun _ => ?_)
    refine WP.skip ?_
    refine EX.then ?_
    refine WP.seq ?_
    refine WP.region ?_
    refine WPl.v rfl (o_ldpa G26 rfl rfl rfl) ?_
    refine WPl.v rfl (o_build B70 rfl trivial rfl rfl) ?_
    refine WPl.l 4 5 rfl rfl rfl (o_boxg rfl) ?_
    refine WPl.l 5 6 rfl rfl rfl (o_alloc Z52) ?_
    refine WPl.s1 (o_sta S52 rfl rfl rfl trivial rfl) ?_
    refine WPl.nil ?_
    refine EX.then ?_
    refine WP.seq ?_
    refine WP.seq ?_
    refine WP.region ?_
    refine WPl.v rfl (o_ldpa G26 rfl rfl rfl) ?_
    refine WPl.cs 7 rfl rfl rfl rfl (o_sig 6 (ren [(0, 0), (1, 1), (2, 2)]) (c27 f hf) e27 rfl rfl rfl w27 ⟨(lx rfl), (lx rfl), (lx rfl), trivial⟩ r27) ?_
    refine WPl.nil ?_
    refine EX.then ?_
    refine WP.block ?_
    refine WP.leR (S' := ⟨7, [(2, .e (.a (.p 3 (0)))), (4, .e (.a (.v (.pointer none)))), (5, .i (0)), (7, .e (.a (.p 5 (0)))), (24, .e (.a (.q 6)))], [(0, PL EMo (f.moulds)), (1, PL (EP.sl EP.int) (f.worlds)), (2, PL EP.int (f.wants)), (6, ItP Try.prog (agItems f))], [(3, .blk [.q 0, .q 1, .q 2, ai (f.fresh)] 26), (4, .blk [.q 0, .q 1, .q 2, ai (f.fresh), .v (.slice none 0 0), ai (0), ai (0), ai (0), ai (0), ai (0)] 70), (5, .blk [.p 4 (0)] 52)], [], []⟩) id (LeR.of ⟨rfl, rfl, rfl, rfl, rfl, trivial⟩ ⟨(lx rfl), (lx rfl), (lx rfl), (lx rfl), trivial⟩ ⟨rfl, rfl, rfl, trivial⟩ rfl rfl rfl rfl rfl) ?_
    refine WP.imp (Imp.namo (EArr 5) 7 8 68 rfl rfl) ?_
    refine WP.imp (Imp.swL 4 4 7 rfl rfl (lx rfl)) ?_
    refine WP.rangeG 11 1 (f.agL.length) (fun g => ⟨[.i (nth f.agL (g : Int)), .e (.a (.q 0))], [(0, PL EP.int ((nth f.worlds (nth f.agL (g : Int)))))], []⟩) (fun g => ⟨11, [(2, .e (.a (.p 3 (0)))), (4, .e (.a (.v (.pointer none)))), (5, .i (0)), (7, .e (.a (.p 5 (0)))), (24, .e (.a (.q 6)))], [(0, PL EMo (f.moulds)), (1, PL (EP.sl EP.int) (f.worlds)), (2, PL EP.int (f.wants)), (6, ItP Try.prog (agItems f))], [(3, .blk [.q 0, .q 1, .q 2, ai (f.fresh)] 26), (4, .blk [.q 0, .q 1, .q 2, ai (f.fresh), .q 10, ai (nth (f.sureTo g) 0), ai (nth (f.sureTo g) 1), ai (nth (f.sureTo g) 2), ai (nth (f.sureTo g) 3), ai (nth (f.sureTo g) 4)] 70), (5, .blk [.p 4 (0)] 52), (8, .ob (.deferred (some []))), (10, .own 68 (EArr 5).size (f.rowsTo g).length (RP (EArr 5) (f.rowsTo g)))], [8], []⟩) (fun _ _ => False) rfl rfl (lx rfl) (rfl) (fun _ => RSt.of rfl rfl rfl rfl rfl rfl) (fun _ _ h => h.elim) rfl rfl rfl (fun _ _ => ItemOK.of rfl) rfl rfl (ren [(10, 7)]) (LeR.of ⟨rfl, rfl, rfl, rfl, rfl, trivial⟩ ⟨(lx rfl), (lx rfl), (lx rfl), (lx rfl), trivial⟩ ⟨rfl, (congrArg (fun z => some (Ent.blk z 70)) (List.cons_eq_cons.2 ⟨(Eq.refl (.q 0 : At)), (List.cons_eq_cons.2 ⟨(Eq.refl (.q 1 : At)), (List.cons_eq_cons.2 ⟨(Eq.refl (.q 2 : At)), (List.cons_eq_cons.2 ⟨(Eq.refl (ai (f.fresh) : At)), (List.cons_eq_cons.2 ⟨(Eq.refl (.q 7 : At)), (List.cons_eq_cons.2 ⟨(congrArg (fun z => ai z) (show (0) = ((fun g => nth (f.sureTo g) 0) 0) from rfl)), (List.cons_eq_cons.2 ⟨(congrArg (fun z => ai z) (show (0) = ((fun g => nth (f.sureTo g) 1) 0) from rfl)), (List.cons_eq_cons.2 ⟨(congrArg (fun z => ai z) (show (0) = ((fun g => nth (f.sureTo g) 2) 0) from rfl)), (List.cons_eq_cons.2 ⟨(congrArg (fun z => ai z) (show (0) = ((fun g => nth (f.sureTo g) 3) 0) from rfl)), (List.cons_eq_cons.2 ⟨(congrArg (fun z => ai z) (show (0) = ((fun g => nth (f.sureTo g) 4) 0) from rfl)), (Eq.refl [])⟩)⟩)⟩)⟩)⟩)⟩)⟩)⟩)⟩)⟩)), rfl, rfl, rfl, trivial⟩ rfl rfl rfl rfl rfl) ?_ ?_ ?_
    · intro g hg w1 E1 I1 R1 pβ1 pν1 us1
      exact absurd hg (by omega)
    · exact fun _ _ h => h.elim
    · skip
      refine EX.blk ?_
      refine EX.then ?_
      refine WP.seq ?_
      refine WP.seq ?_
      refine WP.region ?_
      refine WPl.v rfl (o_ldp S52 rfl rfl rfl) ?_
      refine WPl.v rfl (o_nilp rfl) ?_
      refine WPl.v rfl (o_fldp F70_1 rfl) ?_
      refine WPl.v rfl (o_ldp S66 rfl rfl rfl) ?_
      refine WPl.v rfl (o_leno L66 rfl rfl) ?_
      refine WPl.v rfl (o_eql rfl rfl) ?_
      refine WPl.nil ?_
      refine EX.then ?_
      refine WP.cond rfl (fun hc3 => ?_) (fun hc3 => ?_)
      · try simp only [decide_eq_true_eq, decide_eq_false_iff_not, Bool.and_eq_true, Bool.or_eq_true, Bool.and_eq_false_iff, Bool.or_eq_false_iff, Bool.not_eq_true', Bool.not_eq_false', ne_eq, Decidable.not_not] at hc3
        refine WP.seq ?_
        refine WP.region ?_
        refine WPl.v rfl (o_assign rfl) ?_
        refine WPl.v rfl (o_assign rfl) ?_
        refine WPl.nil ?_
        refine EX.then ?_
        refine WP.ret ?_
        refine EX.ret_then ?_
        rw [show f.newE = 3 from by unfold FSh.newE; rw [hc, hz]; rfl]
        exact EX.fin id (.inl rfl) rfl (.tmp rfl (.tmp rfl .nil)) rfl (by simp [SV.res, El.res, At.res, keys]) trivial (marks rfl) (by simp)
      · try simp only [decide_eq_true_eq, decide_eq_false_iff_not, Bool.and_eq_true, Bool.or_eq_true, Bool.and_eq_false_iff, Bool.or_eq_false_iff, Bool.not_eq_true', Bool.not_eq_false', ne_eq, Decidable.not_not] at hc3
        exact absurd (by rw [rowsTo_len]; omega) hc3
end Go.Flong
namespace Go.Flong
open Go Go.Eng
def lastJ (j : Job) : Nat → Int
  | 0 => 0
  | i + 1 => j.beat + j.hi + j.pour + (i : Int) * max j.beat j.pour
def mostJ (j : Job) : Nat → Int
  | 0 => 0
  | i + 1 => if lastJ j (i + 1) ≤ j.due then mostJ j i + 1 else mostJ j i
theorem mulN {i : Nat} {x : Int} (hi : (i : Int) ≤ 5) (h0 : 0 ≤ x) (h1 : x ≤ 9) : 0 ≤ (i : Int) * x ∧ (i : Int) * x ≤ 45 := by
  have h := Int.mul_le_mul hi h1 h0 (by omega)
  exact ⟨Int.mul_nonneg (by omega) h0, by omega⟩
theorem nth_repJ {n : Nat} {j : Job} {i : Int} (h0 : 0 ≤ i) (h1 : i < n) : nth (List.replicate n j) i = j := nth_replicate h0 h1
theorem repJ_OK {n : Nat} {j : Job} (hn : n ≤ 6) (hj : j.chk = true) : jobsOK (List.replicate n j) = true := by
  unfold jobsOK
  rw [List.length_replicate, decide_eq_true (show (n : Int) ≤ 6 by omega), Bool.true_and]
  refine allI_iff.2 fun i hi => ?_
  unfold jobOK
  rw [nth_repJ (by omega) (by omega)]; exact hj
theorem oneJ {j : Job} (h : jobsOK [j] = true) : j.chk = true := by
  unfold jobsOK at h
  rw [Bool.and_eq_true] at h
  exact allI_iff.1 h.2 0 (by simp)
theorem run_rep {n : Nat} {j : Job} {o : List Int} (hj : j.B) (ho : jobsIn n o) : ∀ i : Nat, i ≤ o.length → (runTo (List.replicate n j) o i).sb = (i : Int) * j.beat ∧ (runTo (List.replicate n j) o i).sp = lastJ j i
  | 0, _ => by simp [runTo, lastJ]
  | i + 1, h => by
    obtain ⟨h1, h2⟩ := run_rep hj ho i (by omega)
    have h3 := ho i (by omega)
    have h4 := hj.b
    have h5 := hj.p
    have h6 := hj.h
    rw [runTo, nth_repJ h3.1 h3.2]
    simp only [Rn.go]
    rw [h1, h2]
    have e1 : (((i + 1 : Nat) : Int)) * j.beat = (i : Int) * j.beat + j.beat := by rw [Int.natCast_add, Int.add_mul]; simp
    refine ⟨by rw [e1], ?_⟩
    have hb : 0 ≤ (i : Int) * j.beat := Int.mul_nonneg (by omega) (by omega)
    cases i with
    | zero => simp only [lastJ]; simp; omega
    | succ k =>
      simp only [lastJ]
      rw [← e1]
      have e2 : (((k + 1 : Nat) : Int)) * j.beat = (k : Int) * j.beat + j.beat := by rw [Int.natCast_add, Int.add_mul]; simp
      have e3 : (((k + 1 : Nat) : Int)) * max j.beat j.pour = (k : Int) * max j.beat j.pour + max j.beat j.pour := by rw [Int.natCast_add, Int.add_mul]; simp
      have e4 : (((k + 1 + 1 : Nat) : Int)) * j.beat = (k : Int) * j.beat + j.beat + j.beat := by rw [show k + 1 + 1 = (k + 1) + 1 from rfl, Int.natCast_add, Int.add_mul, e2]; simp
      have hk : (k : Int) * j.beat ≤ (k : Int) * max j.beat j.pour := Int.mul_le_mul_of_nonneg_left (by omega) (by omega)
      rw [e4, e3]
      by_cases hc : j.beat ≤ j.pour
      · rw [Int.max_eq_right hc] at hk ⊢; omega
      · rw [Int.max_eq_left (a := j.beat) (b := j.pour) (by omega)] at hk ⊢; omega
theorem end_rep {n : Nat} {j : Job} {o : List Int} (hj : j.B) (ho : jobsIn n o) : endOf (List.replicate n j) o = lastJ j o.length := (run_rep hj ho o.length (Nat.le_refl _)).2
theorem sur_rep {n : Nat} {j : Job} {o : List Int} (hj : j.B) (ho : jobsIn n o) : ∀ i : Nat, i ≤ o.length → surM (List.replicate n j) o i = mostJ j i
  | 0, _ => rfl
  | i + 1, h => by
    have h1 := sur_rep hj ho i (by omega)
    have h2 := (run_rep hj ho (i + 1) h).2
    have h3 := ho i (by omega)
    rw [surM, mostJ, h1]
    unfold timeOK
    rw [h2, nth_repJ h3.1 h3.2]
    simp only [decide_eq_true_eq]
theorem mostJ_mono (j : Job) : ∀ {a b : Nat}, a ≤ b → mostJ j a ≤ mostJ j b
  | a, 0, h => by have : a = 0 := by omega
                  subst this; exact Int.le_refl _
  | a, b + 1, h => by
    rcases Nat.lt_or_ge a (b + 1) with h1 | h1
    · have := mostJ_mono j (a := a) (b := b) (by omega)
      rw [mostJ]; split <;> omega
    · have : a = b + 1 := by omega
      subst this; exact Int.le_refl _
theorem orders_full (s : List Job) : ∃ i : Nat, i < (ordersV s).length ∧ (nth (ordersV s) (i : Int)).length = s.length := by
  obtain ⟨o, h1, h2⟩ := ordersF_full s.length (s.length + 1) [] (by rw [freeN_nil]; omega)
  obtain ⟨i, hi, he⟩ := List.mem_iff_getElem.1 h1
  refine ⟨i, hi, ?_⟩
  have : nth (ordersV s) (i : Int) = o := by rw [← he]; exact nthG (l := ordersV s) hi
  rw [this, h2, freeN_nil]; simp
theorem most_rep {n : Nat} {j : Job} (hj : j.B) : mostV (List.replicate n j) = mostJ j n := by
  have hle : ∀ i : Nat, i ≤ (ordersV (List.replicate n j)).length → mostTo (List.replicate n j) i ≤ mostJ j n := by
    intro i
    induction i with
    | zero => intro _; exact mostJ_mono j (Nat.zero_le n)
    | succ i ih =>
      intro h
      have h1 := ih (by omega)
      obtain ⟨h2, h3⟩ := ordersV_at (s := List.replicate n j) (i := i) (by omega)
      rw [List.length_replicate] at h2 h3
      rw [mostTo, sur_rep hj h3 _ (Nat.le_refl _)]
      have := mostJ_mono j h2
      omega
  have hge : ∀ k i : Nat, i < k → k ≤ (ordersV (List.replicate n j)).length → surM (List.replicate n j) (nth (ordersV (List.replicate n j)) (i : Int)) (nth (ordersV (List.replicate n j)) (i : Int)).length ≤ mostTo (List.replicate n j) k := by
    intro k
    induction k with
    | zero => intro i h; omega
    | succ k ih =>
      intro i h hk
      rw [mostTo]
      rcases Nat.lt_or_ge i k with h1 | h1
      · have := ih i h1 (by omega); omega
      · have : i = k := by omega
        subst this; omega
  obtain ⟨i, hi, hl⟩ := orders_full (List.replicate n j)
  have h1 := hle _ (Nat.le_refl _)
  have h2 := hge _ i hi (Nat.le_refl _)
  obtain ⟨_, h3⟩ := ordersV_at hi
  rw [List.length_replicate] at hl h3
  rw [sur_rep hj h3 _ (Nat.le_refl _), hl] at h2
  unfold mostV; omega
theorem quick_rep {n : Nat} {j : Job} (hj : j.B) : (quickV (List.replicate n j)).1 = lastJ j n := by
  have hk : ∀ k : Nat, k ≤ (ordersV (List.replicate n j)).length → (quickTo (List.replicate n j) k = (0, []) ∧ ∀ i : Nat, i < k → (nth (ordersV (List.replicate n j)) (i : Int)).length ≠ n) ∨ (quickTo (List.replicate n j) k).1 = lastJ j n := by
    intro k
    induction k with
    | zero => intro _; exact .inl ⟨rfl, fun i h => by omega⟩
    | succ k ih =>
      intro h
      obtain ⟨h2, h3⟩ := ordersV_at (s := List.replicate n j) (i := k) (by omega)
      rw [List.length_replicate] at h2 h3
      have he := end_rep hj h3
      rw [quickTo]
      by_cases hs : ((nth (ordersV (List.replicate n j)) (k : Int)).length : Int) < (List.replicate n j).length
      · rw [if_pos hs]
        rw [List.length_replicate] at hs
        rcases ih (by omega) with ⟨g1, g2⟩ | g
        · refine .inl ⟨g1, fun i hi => ?_⟩
          rcases Nat.lt_or_ge i k with h4 | h4
          · exact g2 i h4
          · have : i = k := by omega
            subst this; omega
        · exact .inr g
      · rw [if_neg hs]
        rw [List.length_replicate] at hs
        have hl : (nth (ordersV (List.replicate n j)) (k : Int)).length = n := by omega
        rw [hl] at he
        refine .inr ?_
        split
        · exact he
        · rename_i hno
          rcases ih (by omega) with ⟨g1, _⟩ | g
          · rw [g1] at hno; simp at hno
          · exact g
  obtain ⟨i, hi, hl⟩ := orders_full (List.replicate n j)
  rw [List.length_replicate] at hl
  rcases hk _ (Nat.le_refl _) with ⟨_, h⟩ | h
  · exact absurd hl (h i hi)
  · exact h
def FSh.more (f : FSh) (p : Int) : FSh := { f with wants := lset ([] ++ f.wants) p (nth ([] ++ f.wants) p + 1) }
theorem more_small {f : FSh} (hm : f.Small) (p : Int) : (f.more p).Small := ⟨hm.m, hm.w, by show (lset _ _ _).length ≤ 40; rw [lset_len]; simpa using hm.p, hm.l⟩
theorem more_agTo (f : FSh) (p : Int) : ∀ i, (f.more p).agTo i = f.agTo i
  | 0 => rfl
  | i + 1 => by rw [FSh.agTo, FSh.agTo, more_agTo f p i]; rfl
theorem more_agL (f : FSh) (p : Int) : (f.more p).agL = f.agL := more_agTo f p _
theorem more_rows (f : FSh) (p : Int) : ∀ g, (f.more p).rowsTo g = f.rowsTo g
  | 0 => rfl
  | g + 1 => by
    rw [FSh.rowsTo, FSh.rowsTo, more_rows f p g]
    unfold FSh.wAt
    rw [more_agL]
    congr 2
    have : ∀ i, (f.more p).lefTo (nth f.worlds (nth f.agL (g : Int))) i = f.lefTo (nth f.worlds (nth f.agL (g : Int))) i := fun i => by
      induction i with
      | zero => rfl
      | succ i ih => rw [FSh.lefTo, FSh.lefTo, ih]; rfl
    exact this _
theorem more_sure (f : FSh) (p : Int) : ∀ g, (f.more p).sureTo g = f.sureTo g
  | 0 => rfl
  | g + 1 => by
    rw [FSh.sureTo, FSh.sureTo, more_sure f p g, more_rows]
    unfold FSh.wAt
    rw [more_agL]
    have : ∀ n q i, (f.more p).sureIn (nth f.worlds (nth f.agL (g : Int))) n q i = f.sureIn (nth f.worlds (nth f.agL (g : Int))) n q i := fun n q i => by
      induction i with
      | zero => rfl
      | succ i ih => rw [FSh.sureIn, FSh.sureIn, ih]; rfl
    exact this _ _ _
theorem more_plates (f : FSh) (p q : Int) : (f.more p).shopV.plates q = f.shopV.plates q := by
  have hs : (f.more p).shopV.sure = f.shopV.sure := by show (f.more p).sureTo (f.more p).agL.length = _; rw [more_agL, more_sure]; rfl
  have : ∀ i, (f.more p).shopV.platTo q i = f.shopV.platTo q i := fun i => by
    induction i with
    | zero => rfl
    | succ i ih => rw [FlShop.platTo, FlShop.platTo, ih, hs]; rfl
  exact this _
theorem more_newE {f : FSh} {p : Int} (h : f.newE = 0) (hc : (f.more p).chk = true) : (f.more p).newE = 0 := newE_eq.2 ⟨hc, by rw [more_agL]; exact (newE_eq.1 h).2⟩
theorem tdiv_step {x fr : Int} (h0 : 0 ≤ x) (h1 : 1 ≤ fr) : (x + 1).tdiv fr = x.tdiv fr ∨ (x + 1).tdiv fr = x.tdiv fr + 1 := by
  rw [Int.tdiv_eq_ediv_of_nonneg h0, Int.tdiv_eq_ediv_of_nonneg (by omega)]
  have h2 : x / fr ≤ (x + 1) / fr := Int.ediv_le_ediv (by omega) (by omega)
  have h3 : (x + 1) / fr ≤ x / fr + 1 := by
    rw [show x / fr + 1 = (x + 1 * fr) / fr from (Int.add_mul_ediv_right x 1 (by omega)).symm]
    exact Int.ediv_le_ediv (by omega) (by omega)
  omega
theorem more_newTo {f : FSh} {p : Int} (hf : f.B) (h0 : 0 ≤ p) (h1 : p < f.wants.length) : ∀ i : Nat, i ≤ f.wants.length → ((i : Int) ≤ p → (f.more p).newTo i = f.newTo i) ∧ (p < i → (f.more p).newTo i = f.newTo i ∨ (f.more p).newTo i = f.newTo i + 1)
  | 0, _ => ⟨fun _ => rfl, fun h => by omega⟩
  | i + 1, h => by
    obtain ⟨g1, g2⟩ := more_newTo hf h0 h1 i (by omega)
    have hw : nth (f.more p).wants (i : Int) = if (i : Int) = p then nth f.wants (i : Int) + 1 else nth f.wants (i : Int) := by
      have e : (f.more p).wants = lset f.wants ((p.toNat : Nat) : Int) (nth f.wants p + 1) := by rw [show ((p.toNat : Nat) : Int) = p by omega]; rfl
      rw [e, nth_lset (by omega)]
      by_cases hip : (i : Int) = p
      · rw [if_pos (by omega), if_pos hip, hip]
      · rw [if_neg (by omega), if_neg hip]
    have ht : (f.more p).newTo (i + 1) = (f.more p).newTo i + (max 0 (nth (f.more p).wants (i : Int) - f.shopV.plates (i : Int)) + f.fresh - 1).tdiv f.fresh := by rw [FSh.newTo, more_plates]; rfl
    have hb := newTerm_b hf (show i < f.wants.length by omega)
    have hfr := hf.fr
    refine ⟨fun hp => ?_, fun hp => ?_⟩
    · rw [ht, FSh.newTo, g1 (by omega), hw, if_neg (by omega)]
    · rw [ht, FSh.newTo, hw]
      by_cases hip : (i : Int) = p
      · rw [if_pos hip, g1 (by omega)]
        by_cases hx : nth f.wants (i : Int) < f.shopV.plates (i : Int)
        · left; congr 2; omega
        · rw [show max 0 (nth f.wants (i : Int) + 1 - f.shopV.plates (i : Int)) + f.fresh - 1 = (max 0 (nth f.wants (i : Int) - f.shopV.plates (i : Int)) + f.fresh - 1) + 1 by omega]
          have := tdiv_step hb.1 hfr.1
          omega
      · rw [if_neg hip]
        have := g2 (by omega)
        omega
theorem more_newV {f : FSh} {p : Int} (h : f.newE = 0) (hc : (f.more p).chk = true) (h0 : 0 ≤ p) (h1 : p < f.wants.length) : (f.more p).newV = f.newV ∨ (f.more p).newV = f.newV + 1 := by
  have hf := FSh.chkB (newE_eq.1 h).1
  have := (more_newTo hf h0 h1 f.wants.length (Nat.le_refl _)).2 (by omega)
  unfold FSh.newV
  rw [if_pos h, if_pos (more_newE h hc), show (f.more p).wants.length = f.wants.length from by show (lset _ _ _).length = _; rw [lset_len]; rfl]
  exact this
theorem newV_b {f : FSh} (h : f.newE = 0) : 0 ≤ f.newV := by
  have hf := FSh.chkB (newE_eq.1 h).1
  unfold FSh.newV
  rw [if_pos h]; exact (newTo_b hf _ (Nat.le_refl _)).1
theorem mostJ_b (j : Job) : ∀ i : Nat, 0 ≤ mostJ j i ∧ mostJ j i ≤ i
  | 0 => by simp [mostJ]
  | i + 1 => by
    have := mostJ_b j i
    rw [mostJ]; split <;> omega
theorem newE_vals {f : FSh} (h : f.chk = true) : f.newE = 0 ∨ f.newE = 3 := by
  unfold FSh.newE
  rw [h]
  by_cases hl : f.agL.length = 0 <;> simp [hl]
theorem take_snoc1 {α : Type} [Inhabited α] {l : List α} {i : Nat} (h : i < l.length) : l.take i ++ [nth l (i : Int)] = l.take (i + 1) := by
  rw [nthG h]; exact (List.take_succ_eq_append_getElem h).symm
theorem bor_new {f : FSh} (h : f.chk = true) : (decide (f.newE = 0) || decide (f.newE = 3)) = true := by
  rw [Bool.or_eq_true, decide_eq_true_eq, decide_eq_true_eq]; exact newE_vals h
theorem bor_or {a b : Int} (h : a = b ∨ a = b + 1) : (decide (a = b) || decide (a = b + 1)) = true := by
  rw [Bool.or_eq_true, decide_eq_true_eq, decide_eq_true_eq]; exact h
def exFs : FSh := ⟨[⟨0, 3, 0⟩, ⟨0, 5, 0⟩, ⟨1, 2, 1⟩, ⟨1, 0, 0⟩], [[8, 9, 2, 4], [6, 9, 2, 6], [12, 7, 2, 3], [9, 9, 4, 9]], [5, 3], 6⟩
def exFt : FSh := ⟨[⟨0, 3, 0⟩, ⟨0, 5, 0⟩, ⟨1, 2, 1⟩, ⟨1, 0, 0⟩], [[8, 9, 2, 4], [6, 9, 2, 6], [12, 7, 2, 3], [9, 9, 4, 9]], [6, 3], 6⟩
def exJ : List Job := [⟨3, 2, 4, 2, 9, 10⟩, ⟨1, 1, 1, 4, 7, 6⟩, ⟨2, 0, 3, 3, 14, 8⟩]
theorem exF_new : exFt.newE = 0 ∧ exFt.newV = 1 := by decide +kernel
theorem exJ_ok : jobsOK exJ = true := by decide +kernel
theorem exJ_quick : (quickV exJ).1 = 12 := by decide +kernel
theorem exFs_small : exFs.Small := huge_small (by decide +kernel)
theorem exFt_small : exFt.Small := huge_small (by decide +kernel)
end Go.Flong
namespace Go.Flong
open Go Go.Eng Go.Proofs
theorem F70_0 : Fld Try.prog 70 0 0 := .mk Try.underlying70 rfl rfl rfl Try.sizeOf26 rfl
theorem e18 : Enters' Try.prog 18 := Try.call18
theorem e19 : Enters' Try.prog 19 := Try.call19
theorem Z26 : Zero Try.prog 26 [.v (.slice none 0 0), .v (.slice none 0 0), .v (.slice none 0 0), ai (0)] := .mk Try.zeroValue26 rfl rfl
theorem R22 : RowT Try.prog 22 47 3 24 [.int .i64 0, .int .i64 0, .int .i64 0] := ⟨Try.underlying22, ⟨Try.t47, _, by kernel_rfl, rfl, rfl, rfl, rfl⟩, rfl, by decide⟩
theorem B26 : BldT Try.prog 26 [(0, 1), (1, 1), (2, 1), (3, 1)] [.slice none 0 0, .slice none 0 0, .slice none 0 0, .int .i64 0] := BldT.mk (ns := [1, 1, 1, 1]) Try.underlying26 ⟨Try.sizeOf22, Try.sizeOf23, Try.sizeOf24, Try.sizeOf3, trivial⟩ rfl Try.zeroValue26 rfl
theorem R23 : RowT Try.prog 23 24 1 24 [.slice none 0 0] := ⟨Try.underlying23, ⟨Try.t24, _, by kernel_rfl, rfl, rfl, rfl, rfl⟩, rfl, by decide⟩
theorem e25 : Enters' Try.prog 25 := Try.call25
theorem e12 : Enters' Try.prog 12 := Try.call12
theorem Z37 : Zero Try.prog 37 [.v (.slice none 0 0)] := .mk Try.zeroValue37 rfl rfl
theorem B30 : BldT Try.prog 30 [(0, 1), (1, 2), (3, 1), (4, 1), (5, 1)] [.int .i64 0, .int .i64 0, .int .i64 0, .int .i64 0, .int .i64 0, .int .i64 0] := BldT.mk (ns := [1, 2, 1, 1, 1]) Try.underlying30 ⟨Try.sizeOf3, Try.sizeOf28, Try.sizeOf3, Try.sizeOf3, Try.sizeOf3, trivial⟩ rfl Try.zeroValue30 rfl
theorem R35 : RowT Try.prog 35 30 6 48 [.int .i64 0, .int .i64 0, .int .i64 0, .int .i64 0, .int .i64 0, .int .i64 0] := ⟨Try.underlying35, ⟨Try.t30, _, by kernel_rfl, rfl, rfl, rfl, rfl⟩, rfl, by decide⟩
theorem B37 : BldT Try.prog 37 [(0, 1)] [.slice none 0 0] := BldT.mk (ns := [1]) Try.underlying37 ⟨Try.sizeOf35, trivial⟩ rfl Try.zeroValue37 rfl
theorem w19 {p : FlShop} {page : Int} : ∀ x ∈ ([.e (.a (.q 0)), .i (page)] : List SV), x.res (keys (α := Pred) [(0, PP EFl (p))]) := by simp [SV.res, El.res, At.res, keys]
theorem r19 {p : FlShop} {page : Int} : SV.res (keys (α := Pred) []) (.i (p.plates page)) := by simp [SV.res, El.res, At.res, keys]
set_option maxHeartbeats 4000000 in
theorem c19 (p : FlShop) (page : Int) (hm : p.f.moulds.length ≤ 5) (hb : b12 p.sure) : Sig Try.prog 19 [.e (.a (.q 0)), .i (page)] [(0, PP EFl (p))] (.i (p.plates page)) [] := by
  refine Sig.intro Try.func19 rfl 1 [(0, .e (.a (.q 0))), (1, .i (page))] rfl w19 rfl rfl fun I w => ?_
  refine WP.seq ?_
  refine WP.region ?_
  refine WPl.v rfl (o_assign rfl) ?_
  refine WPl.nil ?_
  refine EX.then ?_
  refine WP.seq ?_
  refine WP.region ?_
  refine WPl.v rfl (o_assign rfl) ?_
  refine WPl.nil ?_
  refine EX.then ?_
  refine WP.seq ?_
  refine WP.seq ?_
  refine WP.region ?_
  refine WPl.v rfl (o_move rfl) ?_
  refine WPl.v rfl (o_nilq rfl (lx rfl)) ?_
  refine WPl.v rfl (o_fldq F70_0 rfl (lx rfl)) ?_
  refine WPl.v rfl (o_flde F26_0 rfl (lx rfl)) ?_
  refine WPl.x 1 2 rfl rfl rfl (o_ldex S22 rfl (lx rfl) (strS rfl)) ?_
  refine WPl.v rfl (o_lenq L22 rfl (lx rfl)) ?_
  refine WPl.v rfl (o_move rfl) ?_
  refine WPl.nil ?_
  refine EX.then ?_
  refine WP.block ?_
  refine WP.loop (Gh := Nat) (fun i => ⟨2, [(0, .e (.a (.q 0))), (1, .i (page)), (4, .i (0)), (5, .i (p.platTo page i)), (12, .e (.a (.q 1))), (13, .i ((p.f.moulds.length : Int))), (14, .i ((i : Int)))], [(0, PP EFl (p)), (1, PL EMo (p.f.moulds))], [], [], []⟩) (fun i => i ≤ p.f.moulds.length) (fun i => p.f.moulds.length - i) (0) id ?_ (LeR.of ⟨rfl, rfl, rfl, rfl, rfl, rfl, rfl, trivial⟩ ⟨(lx rfl), (lx rfl), trivial⟩ trivial rfl rfl rfl rfl rfl) ?_
  · first | trivial | omega | (constructor <;> omega) | simp
  intro i hφ
  have hi : i ≤ p.f.moulds.length := hφ
  refine WP.seq ?_
  refine WP.region ?_
  refine WPl.v rfl (o_lss rfl rfl) ?_
  refine WPl.nil ?_
  refine EX.then ?_
  refine WP.seq ?_
  refine WP.cond rfl (fun hc1 => ?_) (fun hc1 => ?_)
  · try simp only [decide_eq_true_eq, decide_eq_false_iff_not, Bool.and_eq_true, Bool.or_eq_true, Bool.and_eq_false_iff, Bool.or_eq_false_iff, Bool.not_eq_true', Bool.not_eq_false', ne_eq, Decidable.not_not] at hc1
    refine WP.skip ?_
    refine EX.then ?_
    refine WP.seq ?_
    refine WP.block ?_
    refine WP.seq ?_
    refine WP.region ?_
    refine WPl.v rfl (o_move rfl) ?_
    refine WPl.x 2 3 rfl rfl rfl (o_idx L22 rfl (lx rfl) rfl (by first | omega | (simp; omega)) (by first | omega | (simp; omega))) ?_
    refine WPl.v rfl (o_ldqg G47 rfl (lx rfl) (strG rfl) rfl rfl) ?_
    refine WPl.l 3 4 rfl rfl rfl (o_alloc Z47) ?_
    refine WPl.v rfl (o_assign rfl) ?_
    refine WPl.s1 (o_stag G47 rfl rfl rfl ⟨rfl, rfl, rfl, trivial⟩ rfl rfl) ?_
    refine WPl.nil ?_
    refine EX.then ?_
    refine WP.seq ?_
    refine WP.region ?_
    refine WPl.v rfl (o_fldp F47_0 rfl) ?_
    refine WPl.v rfl (o_ldp S3 rfl rfl rfl) ?_
    refine WPl.v rfl (o_move rfl) ?_
    refine WPl.v rfl (o_eql rfl rfl) ?_
    refine WPl.nil ?_
    refine EX.then ?_
    refine WP.cond rfl (fun hc2 => ?_) (fun hc2 => ?_)
    · try simp only [decide_eq_true_eq, decide_eq_false_iff_not, Bool.and_eq_true, Bool.or_eq_true, Bool.and_eq_false_iff, Bool.or_eq_false_iff, Bool.not_eq_true', Bool.not_eq_false', ne_eq, Decidable.not_not] at hc2
      refine WP.region ?_
      refine WPl.v rfl (o_move rfl) ?_
      refine WPl.v rfl (o_move rfl) ?_
      refine WPl.v rfl (o_move rfl) ?_
      refine WPl.v rfl (o_nilq rfl (lx rfl)) ?_
      refine WPl.v rfl (o_fldq F70_2 rfl (lx rfl)) ?_
      refine WPl.v rfl (o_idxec (5 + (i : Int)) A68 rfl (lx rfl) rfl (by first | omega | (simp; omega)) (by first | omega | (simp; omega)) (by omega)) ?_
      refine WPl.v rfl (o_lde S3 rfl (lx rfl) (sure_at (i := (i : Int)) (by first | omega | (simp; omega)) (by first | omega | (simp; omega)) (by omega))) ?_
      have h1 := platTo_b hb page i
      have h2 := hb i
      refine WPl.v rfl (o_add rfl rfl (by first | omega | (simp; omega)) (by first | omega | (simp; omega))) ?_
      refine WPl.v rfl (o_assign rfl) ?_
      refine WPl.nil ?_
      refine EX.blk ?_
      refine EX.then ?_
      refine WP.region ?_
      refine WPl.v rfl (o_add rfl rfl (by first | omega | (simp; omega)) (by first | omega | (simp; omega))) ?_
      refine WPl.v rfl (o_move rfl) ?_
      refine WPl.nil ?_
      refine EX.again (i + 1) id (by first | omega | (constructor <;> omega)) (by omega) (LeR.of ⟨rfl, rfl, rfl, (congrArg (fun z => some (SV.i z)) (show ((p.platTo page i) + (nth p.sure (i : Int))) = ((fun i => p.platTo page i) (i + 1)) from by simp only [FlShop.platTo]; rw [if_pos hc2])), rfl, rfl, rfl, trivial⟩ ⟨(lx rfl), (lx rfl), trivial⟩ trivial rfl rfl rfl rfl rfl)
    · try simp only [decide_eq_true_eq, decide_eq_false_iff_not, Bool.and_eq_true, Bool.or_eq_true, Bool.and_eq_false_iff, Bool.or_eq_false_iff, Bool.not_eq_true', Bool.not_eq_false', ne_eq, Decidable.not_not] at hc2
      refine WP.skip ?_
      refine EX.blk ?_
      refine EX.then ?_
      refine WP.region ?_
      refine WPl.v rfl (o_add rfl rfl (by first | omega | (simp; omega)) (by first | omega | (simp; omega))) ?_
      refine WPl.v rfl (o_move rfl) ?_
      refine WPl.nil ?_
      refine EX.again (i + 1) id (by first | omega | (constructor <;> omega)) (by omega) (LeR.of ⟨rfl, rfl, rfl, (congrArg (fun z => some (SV.i z)) (show (p.platTo page i) = ((fun i => p.platTo page i) (i + 1)) from by simp only [FlShop.platTo]; rw [if_neg hc2])), rfl, rfl, rfl, trivial⟩ ⟨(lx rfl), (lx rfl), trivial⟩ trivial rfl rfl rfl rfl rfl)
  · try simp only [decide_eq_true_eq, decide_eq_false_iff_not, Bool.and_eq_true, Bool.or_eq_true, Bool.and_eq_false_iff, Bool.or_eq_false_iff, Bool.not_eq_true', Bool.not_eq_false', ne_eq, Decidable.not_not] at hc1
    refine WP.exit ?_
    refine EX.exit_then ?_
    refine EX.exit_then ?_
    refine EX.exit_blk ?_
    refine EX.then ?_
    refine WP.seq ?_
    refine WP.region ?_
    refine WPl.v rfl (o_move rfl) ?_
    refine WPl.v rfl (o_assign rfl) ?_
    refine WPl.nil ?_
    refine EX.then ?_
    refine WP.ret ?_
    rw [show p.plates page = p.platTo page i from by unfold FlShop.plates; rw [show p.f.moulds.length = i by omega]]
    exact EX.fin id (.inl rfl) rfl (.tmp rfl .nil) rfl (by simp [SV.res, El.res, At.res, keys]) trivial (by simp) (by simp)
theorem w8 {f : FSh} : ∀ x ∈ ([.e (.g [.q 0, .q 1, .q 2, ai (f.fresh)])] : List SV), x.res (keys (α := Pred) [(0, PL EMo (f.moulds)), (1, PL (EP.sl EP.int) (f.worlds)), (2, PL EP.int (f.wants))]) := by simp [SV.res, El.res, At.res, keys]
theorem r8 {f : FSh} : SV.res (keys (α := Pred) []) (.t [.a (ai (f.newV)), .a (ai (f.newE))]) := by simp [SV.res, El.res, At.res, keys]
set_option maxHeartbeats 4000000 in
theorem c8 (f : FSh) (hm : f.Small) : Sig Try.prog 8 [.e (.g [.q 0, .q 1, .q 2, ai (f.fresh)])] [(0, PL EMo (f.moulds)), (1, PL (EP.sl EP.int) (f.worlds)), (2, PL EP.int (f.wants))] (.t [.a (ai (f.newV)), .a (ai (f.newE))]) [] := by
  by_cases hv : f.newE = 0
  · skip
    refine Sig.intro Try.func8 rfl 3 [(0, .e (.g [.q 0, .q 1, .q 2, ai (f.fresh)]))] rfl w8 rfl rfl fun I w => ?_
    refine WP.seq ?_
    refine WP.region ?_
    refine WPl.l 3 4 rfl rfl rfl (o_boxg rfl) ?_
    refine WPl.v rfl (o_assign rfl) ?_
    refine WPl.v rfl (o_assign rfl) ?_
    refine WPl.nil ?_
    refine EX.then ?_
    refine WP.seq ?_
    refine WP.region ?_
    refine WPl.v rfl (o_ldpa G26 rfl rfl rfl) ?_
    refine WPl.cs 5 rfl rfl rfl rfl (o_sig 4 (ren [(0, 0), (1, 1), (2, 2)]) (c18 f hm hv) e18 rfl rfl rfl w18 ⟨(lx rfl), (lx rfl), (lx rfl), trivial⟩ r18) ?_
    refine WPl.v rfl (o_move rfl) ?_
    refine WPl.v rfl (o_extract rfl rfl) ?_
    refine WPl.v rfl (o_extract rfl rfl) ?_
    refine WPl.v rfl (o_assign rfl) ?_
    refine WPl.v rfl (o_assign rfl) ?_
    refine WPl.nil ?_
    refine EX.then ?_
    refine WP.seq ?_
    refine WP.seq ?_
    refine WP.region ?_
    refine WPl.v rfl (o_move rfl) ?_
    refine WPl.v rfl (o_neq rfl rfl) ?_
    refine WPl.nil ?_
    refine EX.then ?_
    refine WP.cond rfl (fun hc1 => ?_) (fun hc1 => ?_)
    · try simp only [decide_eq_true_eq, decide_eq_false_iff_not, Bool.and_eq_true, Bool.or_eq_true, Bool.and_eq_false_iff, Bool.or_eq_false_iff, Bool.not_eq_true', Bool.not_eq_false', ne_eq, Decidable.not_not] at hc1
      simp at hc1
    · try simp only [decide_eq_true_eq, decide_eq_false_iff_not, Bool.and_eq_true, Bool.or_eq_true, Bool.and_eq_false_iff, Bool.or_eq_false_iff, Bool.not_eq_true', Bool.not_eq_false', ne_eq, Decidable.not_not] at hc1
      have hf := FSh.chkB (newE_eq.1 hv).1
      have hp3 := hf.p
      refine WP.skip ?_
      refine EX.then ?_
      refine WP.seq ?_
      refine WP.region ?_
      refine WPl.v rfl (o_assign rfl) ?_
      refine WPl.nil ?_
      refine EX.then ?_
      refine WP.seq ?_
      refine WP.seq ?_
      refine WP.region ?_
      refine WPl.v rfl (o_fldp F26_2 rfl) ?_
      refine WPl.v rfl (o_ldp S24 rfl rfl rfl) ?_
      refine WPl.v rfl (o_lenq L24 rfl (lx rfl)) ?_
      refine WPl.v rfl (o_move rfl) ?_
      refine WPl.nil ?_
      refine EX.then ?_
      refine WP.block ?_
      refine WP.loop (Gh := Nat) (fun i => ⟨5, [(1, .e (.a (.p 3 (0)))), (2, .i (0)), (3, .i (0)), (4, .e (.a (.q 4))), (6, .i (f.newTo i)), (18, .e (.a (.q 2))), (19, .i ((f.wants.length : Int))), (20, .i ((i : Int)))], [(0, PL EMo (f.moulds)), (1, PL (EP.sl EP.int) (f.worlds)), (2, PL EP.int (f.wants)), (4, PP EFl (f.shopV))], [(3, .blk [.q 0, .q 1, .q 2, ai (f.fresh)] 26)], [], []⟩) (fun i => i ≤ f.wants.length) (fun i => f.wants.length - i) (0) id ?_ (LeR.of ⟨rfl, rfl, rfl, rfl, rfl, rfl, rfl, rfl, trivial⟩ ⟨(lx rfl), (lx rfl), (lx rfl), (lx rfl), trivial⟩ ⟨rfl, trivial⟩ rfl rfl rfl rfl rfl) ?_
      · first | trivial | omega | (constructor <;> omega) | simp
      intro i hφ
      have hi : i ≤ f.wants.length := hφ
      refine WP.seq ?_
      refine WP.region ?_
      refine WPl.v rfl (o_lss rfl rfl) ?_
      refine WPl.nil ?_
      refine EX.then ?_
      refine WP.seq ?_
      refine WP.cond rfl (fun hc2 => ?_) (fun hc2 => ?_)
      · try simp only [decide_eq_true_eq, decide_eq_false_iff_not, Bool.and_eq_true, Bool.or_eq_true, Bool.and_eq_false_iff, Bool.or_eq_false_iff, Bool.not_eq_true', Bool.not_eq_false', ne_eq, Decidable.not_not] at hc2
        refine WP.skip ?_
        refine EX.then ?_
        refine WP.seq ?_
        refine WP.block ?_
        refine WP.seq ?_
        refine WP.region ?_
        refine WPl.v rfl (o_move rfl) ?_
        refine WPl.x 5 6 rfl rfl rfl (o_idx L24 rfl (lx rfl) rfl (by first | omega | (simp; omega)) (by first | omega | (simp; omega))) ?_
        refine WPl.v rfl (o_ldq S3 rfl (lx rfl) intc) ?_
        refine WPl.v rfl (o_assign rfl) ?_
        refine WPl.v rfl (o_assign rfl) ?_
        refine WPl.nil ?_
        refine EX.then ?_
        refine WP.draw (nf := 6) [⟨[26, 27, 28, 29, 30, 31, 32, 33, 34, 35, 36, 37, 38], [], [], [], []⟩, ⟨[25, 27, 28, 29, 32, 33, 36, 37], [], [], [], []⟩, ⟨[25, 26, 28, 32, 33, 36, 37], [], [], [], []⟩, ⟨[25, 26, 27, 32, 33, 36, 37], [], [], [], []⟩, ⟨[25, 26, 32, 33, 36, 37], [], [], [], [2, 3]⟩, ⟨[25, 32, 33, 36, 37], [], [], [], [1, 2, 3, 4]⟩, ⟨[25, 32, 33, 36, 37], [], [], [], [1, 2, 3, 4, 5]⟩, ⟨[25, 26, 27, 28, 29, 30, 31, 36, 37], [], [], [], []⟩, ⟨[25, 26, 27, 28, 29, 30, 31, 36, 37], [], [], [], [7]⟩, ⟨[25, 36, 37], [], [], [], [1, 2, 3, 4, 5, 6, 7, 8]⟩, ⟨[25, 36, 37], [], [], [], [1, 2, 3, 4, 5, 6, 7, 8, 9]⟩, ⟨[25, 26, 27, 28, 29, 30, 31, 32, 33, 34, 35], [], [], [], []⟩, ⟨[25, 26, 27, 28, 29, 30, 31, 32, 33, 34, 35], [], [], [], [11]⟩, ⟨[25], [], [], [], [1, 2, 3, 4, 5, 6, 7, 8, 9, 10, 11, 12]⟩, ⟨[], [], [], [], [0, 1, 2, 3, 4, 5, 6, 7, 8, 9, 10, 11, 12, 13]⟩, ⟨[], [], [], [], [0, 1, 2, 3, 4, 5, 6, 7, 8, 9, 10, 11, 12, 13, 14]⟩] (by kernel_rfl) (by kernel_rfl) ?_
        refine DRQ.v rfl rfl rfl (o_move rfl) ?_
        refine DRQ.v rfl rfl rfl (o_move rfl) ?_
        refine DRQ.v rfl rfl rfl (o_move rfl) ?_
        refine DRQ.v rfl rfl rfl (o_move rfl) ?_
        refine DRQ.cs rfl rfl rfl rfl (o_sig 6 (ren [(0, 4)]) (c19 f.shopV (i : Int) hf.m (shopV_b hf)) e19 rfl rfl rfl w19 ⟨(lx rfl), trivial⟩ r19) ?_
        have h1 := platTo_b (shopV_b hf) (i : Int) f.moulds.length
        have h2 := hf.ps i (by omega)
        have h4 := hf.m
        have h5 : f.shopV.plates (i : Int) = f.shopV.platTo (i : Int) f.moulds.length := rfl
        have h6 := newTerm_b hf (show i < f.wants.length by omega)
        have h7 := tdiv_b h6.1 hf.fr.1
        have h8 := newTo_b hf i (by omega)
        have h9 := hf.fr
        refine DRQ.v rfl rfl rfl (o_sub rfl rfl (by first | omega | (simp; omega)) (by first | omega | (simp; omega))) ?_
        refine DRQ.v rfl rfl rfl (o_max rfl rfl) ?_
        refine DRQ.v rfl rfl rfl (o_fldp F26_3 rfl) ?_
        refine DRQ.v rfl rfl rfl (o_ldp S3 rfl rfl rfl) ?_
        refine DRQ.v rfl rfl rfl (o_add rfl rfl (by first | omega | (simp; omega)) (by first | omega | (simp; omega))) ?_
        refine DRQ.v rfl rfl rfl (o_sub rfl rfl (by first | omega | (simp; omega)) (by first | omega | (simp; omega))) ?_
        refine DRQ.v rfl rfl rfl (o_fldp F26_3 rfl) ?_
        refine DRQ.v rfl rfl rfl (o_ldp S3 rfl rfl rfl) ?_
        refine DRQ.v rfl rfl rfl (o_quo rfl rfl (by first | omega | (simp; omega)) (by first | omega | (simp; omega)) (by first | omega | (simp; omega))) ?_
        refine DRQ.v rfl rfl rfl (o_add rfl rfl (by first | omega | (simp; omega)) (by first | omega | (simp; omega))) ?_
        refine DRQ.v rfl rfl rfl (o_assign rfl) ?_
        refine DRQ.nil' ?_
        refine EX.blk ?_
        refine EX.then ?_
        refine WP.region ?_
        refine WPl.v rfl (o_add rfl rfl (by first | omega | (simp; omega)) (by first | omega | (simp; omega))) ?_
        refine WPl.v rfl (o_move rfl) ?_
        refine WPl.nil ?_
        refine EX.again (i + 1) id (by first | omega | (constructor <;> omega)) (by omega) (LeR.of ⟨rfl, rfl, rfl, rfl, rfl, rfl, rfl, rfl, trivial⟩ ⟨(lx rfl), (lx rfl), (lx rfl), (lx rfl), trivial⟩ ⟨rfl, trivial⟩ rfl rfl rfl rfl rfl)
      · try simp only [decide_eq_true_eq, decide_eq_false_iff_not, Bool.and_eq_true, Bool.or_eq_true, Bool.and_eq_false_iff, Bool.or_eq_false_iff, Bool.not_eq_true', Bool.not_eq_false', ne_eq, Decidable.not_not] at hc2
        refine WP.exit ?_
        refine EX.exit_then ?_
        refine EX.exit_then ?_
        refine EX.exit_blk ?_
        refine EX.then ?_
        refine WP.seq ?_
        refine WP.region ?_
        refine WPl.v rfl (o_move rfl) ?_
        refine WPl.v rfl (o_assign rfl) ?_
        refine WPl.v rfl (o_assign rfl) ?_
        refine WPl.nil ?_
        refine EX.then ?_
        refine WP.ret ?_
        rw [hv, show f.newV = f.newTo i from by unfold FSh.newV; rw [if_pos hv, show f.wants.length = i by omega]]
        exact EX.fin id (.inl rfl) rfl (.tmp rfl (.tmp rfl .nil)) rfl (by simp [SV.res, El.res, At.res, keys]) trivial (by simp) (by simp)
  · skip
    refine Sig.intro Try.func8 rfl 3 [(0, .e (.g [.q 0, .q 1, .q 2, ai (f.fresh)]))] rfl w8 rfl rfl fun I w => ?_
    refine WP.seq ?_
    refine WP.region ?_
    refine WPl.l 3 4 rfl rfl rfl (o_boxg rfl) ?_
    refine WPl.v rfl (o_assign rfl) ?_
    refine WPl.v rfl (o_assign rfl) ?_
    refine WPl.nil ?_
    refine EX.then ?_
    refine WP.seq ?_
    refine WP.region ?_
    refine WPl.v rfl (o_ldpa G26 rfl rfl rfl) ?_
    refine WPl.cs 4 rfl rfl rfl rfl (o_sig 4 (ren [(0, 0), (1, 1), (2, 2)]) (c18E f hm hv) e18 rfl rfl rfl w18E ⟨(lx rfl), (lx rfl), (lx rfl), trivial⟩ r18E) ?_
    refine WPl.v rfl (o_move rfl) ?_
    refine WPl.v rfl (o_extract rfl rfl) ?_
    refine WPl.v rfl (o_extract rfl rfl) ?_
    refine WPl.v rfl (o_assign rfl) ?_
    refine WPl.v rfl (o_assign rfl) ?_
    refine WPl.nil ?_
    refine EX.then ?_
    refine WP.seq ?_
    refine WP.seq ?_
    refine WP.region ?_
    refine WPl.v rfl (o_move rfl) ?_
    refine WPl.v rfl (o_neq rfl rfl) ?_
    refine WPl.nil ?_
    refine EX.then ?_
    refine WP.cond rfl (fun hc1 => ?_) (fun hc1 => ?_)
    · try simp only [decide_eq_true_eq, decide_eq_false_iff_not, Bool.and_eq_true, Bool.or_eq_true, Bool.and_eq_false_iff, Bool.or_eq_false_iff, Bool.not_eq_true', Bool.not_eq_false', ne_eq, Decidable.not_not] at hc1
      refine WP.seq ?_
      refine WP.region ?_
      refine WPl.v rfl (o_move rfl) ?_
      refine WPl.v rfl (o_assign rfl) ?_
      refine WPl.v rfl (o_assign rfl) ?_
      refine WPl.nil ?_
      refine EX.then ?_
      refine WP.ret ?_
      refine EX.ret_then ?_
      rw [show f.newV = 0 from if_neg hv]
      exact EX.fin id (.inl rfl) rfl (.tmp rfl (.tmp rfl .nil)) rfl (by simp [SV.res, El.res, At.res, keys]) trivial (by simp) (by simp)
    · try simp only [decide_eq_true_eq, decide_eq_false_iff_not, Bool.and_eq_true, Bool.or_eq_true, Bool.and_eq_false_iff, Bool.or_eq_false_iff, Bool.not_eq_true', Bool.not_eq_false', ne_eq, Decidable.not_not] at hc1
      exact absurd hc1 hv
theorem w12O {f : FSh} : ∀ x ∈ ([.e (.g [.q 0, .q 1, .q 2, ai (f.fresh)])] : List SV), x.res (keys (α := Pred) [(0, PL EMo (f.moulds)), (1, PL (EP.sl EP.int) (f.worlds)), (2, PL EP.int (f.wants))]) := by simp [SV.res, El.res, At.res, keys]
theorem r12O {f : FSh} : SV.res (keys (α := Pred) [(0, PL EMo (f.moulds)), (1, PL (EP.sl EP.int) (f.worlds)), (2, Pred.top)]) (.e (.g [.q 0, .q 1, .q 2, ai (f.fresh)])) := by simp [SV.res, El.res, At.res, keys]
set_option maxHeartbeats 4000000 in
theorem c12O (f : FSh) (hm : f.Small) : SigO Try.prog 12 [.e (.g [.q 0, .q 1, .q 2, ai (f.fresh)])] [(0, PL EMo (f.moulds)), (1, PL (EP.sl EP.int) (f.worlds)), (2, PL EP.int (f.wants))] (.e (.g [.q 0, .q 1, .q 2, ai (f.fresh)])) [(0, PL EMo (f.moulds)), (1, PL (EP.sl EP.int) (f.worlds)), (2, Pred.top)] [(2, .own 3 EP.int.size ([] ++ f.wants).length (RP EP.int ([] ++ f.wants)))] := by
  have hm1 := hm.m
  have hm2 := hm.w
  have hm3 := hm.p
  have hm4 := hm.l
  refine SigO.intro Try.func12 rfl 3 [(0, .e (.g [.q 0, .q 1, .q 2, ai (f.fresh)]))] rfl w12O rfl rfl fun I w => ?_
  refine WP.seq ?_
  refine WP.region ?_
  refine WPl.l 3 4 rfl rfl rfl (o_boxg rfl) ?_
  refine WPl.l 4 5 rfl rfl rfl (o_alloc Z26) ?_
  refine WPl.nil ?_
  refine EX.then ?_
  refine WP.seq ?_
  refine WP.draw (nf := 10) [⟨[6, 7, 9, 10, 11, 13, 14, 3], [7, 9], [5], [5], []⟩, ⟨[5, 9, 10, 11, 13, 14, 3], [5, 7, 9], [], [], []⟩, ⟨[5, 9, 10, 11, 13, 14, 3], [5, 7, 9], [], [], [1]⟩, ⟨[9, 10, 11, 13, 14, 3], [7, 9], [6], [6, 5], [0, 1, 2]⟩, ⟨[5, 6, 7, 8, 10, 11, 13, 14, 3], [5, 6, 9], [7], [7], []⟩, ⟨[5, 6, 7, 8, 9, 13, 14, 3], [5, 6, 7, 9], [], [], []⟩, ⟨[5, 6, 7, 8, 9, 13, 14, 3], [5, 6, 7, 9], [], [], [5]⟩, ⟨[13, 14, 3], [9], [8], [8, 7], [0, 1, 2, 3, 4, 5, 6]⟩, ⟨[5, 6, 7, 8, 9, 10, 11, 12, 3], [5, 6, 7, 8, 9], [], [], []⟩, ⟨[5, 6, 7, 8, 9, 10, 11, 12, 3], [5, 6, 7, 8, 9], [], [], [8]⟩, ⟨[3], [9], [], [], [0, 1, 2, 3, 4, 5, 6, 7, 8, 9]⟩, ⟨[5, 6, 7, 8, 9, 10, 11, 12, 13, 14, 15], [5, 6, 7, 8], [9], [9], []⟩, ⟨[], [], [], [9], [0, 1, 2, 3, 4, 5, 6, 7, 8, 9, 10, 11]⟩] (by kernel_rfl) (by kernel_rfl) ?_
  refine DRQ.l 5 rfl rfl rfl rfl (o_bsl (E := EMo) (l := []) R22 rfl rfl (.nil) rfl rfl) ?_
  refine DRQ.v rfl rfl rfl (o_fldp F26_0 rfl) ?_
  refine DRQ.v rfl rfl rfl (o_ldp S22 rfl rfl rfl) ?_
  refine DRQ.l2 6 5 rfl rfl rfl rfl (o_apps R22 EP.str_one rfl rfl rfl (lx rfl) (by simp; omega) (by simp; omega)) ?_
  refine DRQ.l 7 rfl rfl rfl rfl (o_bsl (E := EP.int) (l := []) R24 rfl rfl (.nil) rfl rfl) ?_
  refine DRQ.v rfl rfl rfl (o_fldp F26_2 rfl) ?_
  refine DRQ.v rfl rfl rfl (o_ldp S24 rfl rfl rfl) ?_
  refine DRQ.l2 8 7 rfl rfl rfl rfl (o_apps R24 EP.int_one rfl rfl rfl (lx rfl) (by simp; omega) (by simp; omega)) ?_
  refine DRQ.v rfl rfl rfl (o_fldp F26_3 rfl) ?_
  refine DRQ.v rfl rfl rfl (o_ldp S3 rfl rfl rfl) ?_
  refine DRQ.v rfl rfl rfl (o_build B26 rfl ⟨(.inr ⟨_, _, _, _, rfl⟩), (.inr ⟨_, _, _, _, rfl⟩), rfl, trivial⟩ rfl rfl) ?_
  refine DRQ.l 9 rfl rfl rfl rfl (o_alloc Z26) ?_
  refine DRQ.s 9 rfl rfl rfl (o_stag G26 rfl rfl rfl ⟨(.inr ⟨_, _, _, _, rfl⟩), rfl, (.inr ⟨_, _, _, _, rfl⟩), rfl, trivial⟩ rfl rfl) ?_
  refine DRQ.nil' ?_
  refine EX.then ?_
  refine WP.seq ?_
  refine WP.seq ?_
  refine WP.region ?_
  refine WPl.v rfl (o_assign rfl) ?_
  refine WPl.nil ?_
  refine EX.then ?_
  refine WP.block ?_
  refine WP.imp (Imp.namo (EP.sl EP.int) 10 11 24 rfl rfl) ?_
  refine WP.imp (Imp.swL 9 1 10 rfl rfl (lx rfl)) ?_
  refine WP.loop (Gh := Nat) (fun i => ⟨11, [(1, .e (.a (.p 3 (0)))), (2, .e (.a (.p 4 (0)))), (3, .e (.a (.p 9 (0)))), (4, .i ((i : Int)))], [(0, PL EMo (f.moulds)), (1, PL (EP.sl EP.int) (f.worlds)), (2, PL EP.int (f.wants))], [(3, .blk [.q 0, .q 1, .q 2, ai (f.fresh)] 26), (4, .blk [.v (.slice none 0 0), .v (.slice none 0 0), .v (.slice none 0 0), ai (0)] 26), (6, .own 47 EMo.size ([] ++ f.moulds).length (RP EMo ([] ++ f.moulds))), (8, .own 3 EP.int.size ([] ++ f.wants).length (RP EP.int ([] ++ f.wants))), (9, .blk [.q 6, .q 10, .q 8, ai (f.fresh)] 26), (10, .own 24 (EP.sl EP.int).size (f.worlds.take i).length (RP (EP.sl EP.int) (f.worlds.take i)))], [], []⟩) (fun i => i ≤ f.worlds.length) (fun i => f.worlds.length - i) (0) id ?_ (LeR.of ⟨rfl, rfl, rfl, rfl, trivial⟩ ⟨(lx rfl), (lx rfl), (lx rfl), trivial⟩ ⟨rfl, rfl, rfl, rfl, rfl, (congrArg (fun z => some (Ent.own 24 (EP.sl EP.int).size (List.length z) (RP (EP.sl EP.int) z))) (show ([]) = ((fun i => f.worlds.take i) 0) from by simp)), trivial⟩ rfl rfl rfl rfl rfl) ?_
  · first | trivial | omega | (constructor <;> omega) | simp
  intro i hφ
  have hi : i ≤ f.worlds.length := hφ
  refine WP.seq ?_
  refine WP.seq ?_
  refine WP.region ?_
  refine WPl.v rfl (o_move rfl) ?_
  refine WPl.v rfl (o_fldp F26_1 rfl) ?_
  refine WPl.v rfl (o_ldp S23 rfl rfl rfl) ?_
  refine WPl.v rfl (o_lenq L23 rfl (lx rfl)) ?_
  refine WPl.v rfl (o_lss rfl rfl) ?_
  refine WPl.nil ?_
  refine EX.then ?_
  refine WP.cond rfl (fun hc1 => ?_) (fun hc1 => ?_)
  · try simp only [decide_eq_true_eq, decide_eq_false_iff_not, Bool.and_eq_true, Bool.or_eq_true, Bool.and_eq_false_iff, Bool.or_eq_false_iff, Bool.not_eq_true', Bool.not_eq_false', ne_eq, Decidable.not_not] at hc1
    refine WP.skip ?_
    refine EX.then ?_
    refine WP.seq ?_
    refine WP.block ?_
    refine WP.draw (nf := 17) [⟨[25, 26, 27, 28, 29, 30, 31, 32], [11, 12, 13, 14, 15], [], [], []⟩, ⟨[25, 26, 27, 28, 29, 30, 31, 32], [11, 12, 13, 14, 15], [], [], [0]⟩, ⟨[23, 24, 26, 27, 28, 29, 30], [12, 13], [11], [11], []⟩, ⟨[23, 24, 25, 28], [11], [], [], []⟩, ⟨[23, 24, 25, 28], [11], [], [], [3]⟩, ⟨[23, 24, 25, 26, 27], [11], [], [], []⟩, ⟨[23, 24, 25], [11], [12], [12], [3, 4, 5]⟩, ⟨[23, 24, 25], [11], [13], [13], [3, 4, 5, 6]⟩, ⟨[23, 24], [], [14], [14, 11], [2, 3, 4, 5, 6, 7]⟩, ⟨[23, 24], [], [15], [15], [2, 3, 4, 5, 6, 7, 8]⟩, ⟨[], [], [16], [16, 10], [0, 1, 2, 3, 4, 5, 6, 7, 8, 9]⟩, ⟨[], [], [], [], [0, 1, 2, 3, 4, 5, 6, 7, 8, 9, 10]⟩, ⟨[], [], [], [9], [0, 1, 2, 3, 4, 5, 6, 7, 8, 9, 10, 11]⟩] (by kernel_rfl) (by kernel_rfl) ?_
    refine DRQ.v rfl rfl rfl (o_fldp F26_1 rfl) ?_
    refine DRQ.v rfl rfl rfl (o_ldp S23 rfl rfl rfl) ?_
    refine DRQ.l 11 rfl rfl rfl rfl (o_bsl (E := EP.int) (l := []) R24 rfl rfl (.nil) rfl rfl) ?_
    refine DRQ.v rfl rfl rfl (o_fldp F26_1 rfl) ?_
    refine DRQ.v rfl rfl rfl (o_ldp S23 rfl rfl rfl) ?_
    refine DRQ.v rfl rfl rfl (o_move rfl) ?_
    refine DRQ.x 12 rfl rfl rfl rfl (o_idx L23 rfl (lx rfl) rfl (by first | omega | (simp; omega)) (by first | omega | (simp; omega))) ?_
    refine DRQ.x 13 rfl rfl rfl rfl (o_ldqx S24 rfl (lx rfl) slx) ?_
    refine DRQ.u1 14 rfl rfl rfl (OpG.settle1 (.inl rfl) rfl (o_apps R24 EP.int_one rfl rfl rfl (lx rfl) (by have := hm4 i (by omega); simp; omega) (by have := hm4 i (by omega); simp; omega))) rfl ?_
    refine DRQ.l 15 rfl rfl rfl rfl (o_bsl (E := (EP.sl EP.int)) (l := [[] ++ (nth f.worlds (i : Int))]) R23 rfl rfl (.cons ((.inl ⟨_, (lx rfl), PL.one⟩)) rfl (eok_sl (lx rfl)) (.nil)) rfl rfl) ?_
    refine DRQ.l2 16 10 rfl rfl rfl rfl (o_appo R23 EP.sl_one rfl rfl rfl rfl (by simp; omega) (by simp; omega)) ?_
    refine DRQ.v rfl rfl rfl (o_fldp F26_1 rfl) ?_
    refine DRQ.s 9 rfl rfl rfl (o_sta S23 rfl rfl rfl (.inr ⟨_, _, _, _, rfl⟩) rfl) ?_
    refine DRQ.nil' ?_
    refine EX.blk ?_
    refine EX.then ?_
    refine WP.region ?_
    refine WPl.v rfl (o_move rfl) ?_
    refine WPl.v rfl (o_add rfl rfl (by first | omega | (simp; omega)) (by first | omega | (simp; omega))) ?_
    refine WPl.v rfl (o_assign rfl) ?_
    refine WPl.nil ?_
    refine EX.again (i + 1) (ren [(10, 16)]) (by first | omega | (constructor <;> omega)) (by omega) (LeR.of ⟨rfl, rfl, rfl, rfl, trivial⟩ ⟨(lx rfl), (lx rfl), (lx rfl), trivial⟩ ⟨rfl, rfl, rfl, rfl, rfl, (congrArg (fun z => some (Ent.own 24 (EP.sl EP.int).size (List.length z) (RP (EP.sl EP.int) z))) (show ((f.worlds.take i) ++ [[] ++ (nth f.worlds (i : Int))]) = ((fun i => f.worlds.take i) (i + 1)) from by dsimp only; rw [List.nil_append]; exact take_snoc1 (by omega))), trivial⟩ rfl rfl rfl rfl rfl)
  · try simp only [decide_eq_true_eq, decide_eq_false_iff_not, Bool.and_eq_true, Bool.or_eq_true, Bool.and_eq_false_iff, Bool.or_eq_false_iff, Bool.not_eq_true', Bool.not_eq_false', ne_eq, Decidable.not_not] at hc1
    refine WP.exit ?_
    refine EX.exit_then ?_
    refine EX.exit_then ?_
    refine EX.exit_blk ?_
    refine EX.then ?_
    refine WP.seq ?_
    refine WP.region ?_
    refine WPl.v rfl (o_ldpa G26 rfl rfl rfl) ?_
    refine WPl.s1 (o_stag G26 rfl rfl rfl ⟨(.inr ⟨_, _, _, _, rfl⟩), (.inr ⟨_, _, _, _, rfl⟩), (.inr ⟨_, _, _, _, rfl⟩), rfl, trivial⟩ rfl rfl) ?_
    refine WPl.nil ?_
    refine EX.then ?_
    refine WP.ret ?_
    refine EX.imp (Imp.frz (E := EMo) (l := [] ++ f.moulds) 6 rfl rfl) ?_
    refine EX.imp (Imp.frz (E := (EP.sl EP.int)) (l := f.worlds.take i) 10 rfl rfl) ?_
    refine EX.imp (Imp.topX 8 rfl) ?_
    have hie : i = f.worlds.length := by omega
    rw [hie, List.take_length]
    exact EX.finO (ren [(0, 6), (1, 10), (2, 8)]) rfl (.inl rfl) rfl (.cellg G26 rfl rfl rfl (.nil)) rfl (by simp [SV.res, El.res, At.res, keys]) ⟨(lx rfl), (lx rfl), lx rfl, trivial⟩ ⟨rfl, trivial⟩ rfl rfl (by simp) (by simp)
theorem w16  : ∀ x ∈ ([] : List SV), x.res (keys (α := Pred) []) := by simp [SV.res, El.res, At.res, keys]
theorem r16  : SV.res (keys (α := Pred) [(0, PL EMo (exFs.moulds)), (1, PL (EP.sl EP.int) (exFs.worlds)), (2, PL EP.int (exFs.wants)), (3, PL EMo (exFt.moulds)), (4, PL (EP.sl EP.int) (exFt.worlds)), (5, PL EP.int (exFt.wants))]) (.t [.g [.q 0, .q 1, .q 2, ai (exFs.fresh)], .g [.q 3, .q 4, .q 5, ai (exFt.fresh)]]) := by simp [SV.res, El.res, At.res, keys]
set_option maxHeartbeats 4000000 in
theorem c16   : Sig Try.prog 16 [] [] (.t [.g [.q 0, .q 1, .q 2, ai (exFs.fresh)], .g [.q 3, .q 4, .q 5, ai (exFt.fresh)]]) [(0, PL EMo (exFs.moulds)), (1, PL (EP.sl EP.int) (exFs.worlds)), (2, PL EP.int (exFs.wants)), (3, PL EMo (exFt.moulds)), (4, PL (EP.sl EP.int) (exFt.worlds)), (5, PL EP.int (exFt.wants))] := by
  refine Sig.intro Try.func16 rfl 0 [] rfl w16 rfl rfl fun I w => ?_
  refine WP.seq ?_
  refine WP.region ?_
  refine WPl.l 0 1 rfl rfl rfl (o_alloc Z26) ?_
  refine WPl.l 1 2 rfl rfl rfl (o_alloc Z26) ?_
  refine WPl.nil ?_
  refine EX.then ?_
  refine WP.seq ?_
  refine WP.region ?_
  refine WPl.cs 2 rfl rfl rfl rfl (o_sig 2 id (c25 0 3 0) e25 rfl rfl rfl w25 trivial r25) ?_
  refine WPl.cs 2 rfl rfl rfl rfl (o_sig 2 id (c25 0 5 0) e25 rfl rfl rfl w25 trivial r25) ?_
  refine WPl.cs 2 rfl rfl rfl rfl (o_sig 2 id (c25 1 2 1) e25 rfl rfl rfl w25 trivial r25) ?_
  refine WPl.cs 2 rfl rfl rfl rfl (o_sig 2 id (c25 1 0 0) e25 rfl rfl rfl w25 trivial r25) ?_
  refine WPl.x 2 3 rfl rfl rfl (OpG.settle0 (o_bsl (E := EMo) (l := [(⟨0, 3, 0⟩ : Mou), (⟨0, 5, 0⟩ : Mou), (⟨1, 2, 1⟩ : Mou), (⟨1, 0, 0⟩ : Mou)]) R22 rfl rfl (.cons (⟨rfl, rfl, rfl, trivial⟩) rfl (eok_str ⟨rfl, rfl, rfl, trivial⟩) (.cons (⟨rfl, rfl, rfl, trivial⟩) rfl (eok_str ⟨rfl, rfl, rfl, trivial⟩) (.cons (⟨rfl, rfl, rfl, trivial⟩) rfl (eok_str ⟨rfl, rfl, rfl, trivial⟩) (.cons (⟨rfl, rfl, rfl, trivial⟩) rfl (eok_str ⟨rfl, rfl, rfl, trivial⟩) (.nil))))) rfl rfl)) ?_
  refine WPl.x 3 4 rfl rfl rfl (OpG.settle0 (o_bsl (E := EP.int) (l := [8, 9, 2, 4]) R24 rfl rfl (.cons (rfl) rfl (eok_int) (.cons (rfl) rfl (eok_int) (.cons (rfl) rfl (eok_int) (.cons (rfl) rfl (eok_int) (.nil))))) rfl rfl)) ?_
  refine WPl.x 4 5 rfl rfl rfl (OpG.settle0 (o_bsl (E := EP.int) (l := [6, 9, 2, 6]) R24 rfl rfl (.cons (rfl) rfl (eok_int) (.cons (rfl) rfl (eok_int) (.cons (rfl) rfl (eok_int) (.cons (rfl) rfl (eok_int) (.nil))))) rfl rfl)) ?_
  refine WPl.x 5 6 rfl rfl rfl (OpG.settle0 (o_bsl (E := EP.int) (l := [12, 7, 2, 3]) R24 rfl rfl (.cons (rfl) rfl (eok_int) (.cons (rfl) rfl (eok_int) (.cons (rfl) rfl (eok_int) (.cons (rfl) rfl (eok_int) (.nil))))) rfl rfl)) ?_
  refine WPl.x 6 7 rfl rfl rfl (OpG.settle0 (o_bsl (E := EP.int) (l := [9, 9, 4, 9]) R24 rfl rfl (.cons (rfl) rfl (eok_int) (.cons (rfl) rfl (eok_int) (.cons (rfl) rfl (eok_int) (.cons (rfl) rfl (eok_int) (.nil))))) rfl rfl)) ?_
  refine WPl.x 7 8 rfl rfl rfl (OpG.settle0 (o_bsl (E := (EP.sl EP.int)) (l := [[8, 9, 2, 4], [6, 9, 2, 6], [12, 7, 2, 3], [9, 9, 4, 9]]) R23 rfl rfl (.cons ((.inl ⟨_, (lx rfl), PL.one⟩)) rfl (eok_sl (lx rfl)) (.cons ((.inl ⟨_, (lx rfl), PL.one⟩)) rfl (eok_sl (lx rfl)) (.cons ((.inl ⟨_, (lx rfl), PL.one⟩)) rfl (eok_sl (lx rfl)) (.cons ((.inl ⟨_, (lx rfl), PL.one⟩)) rfl (eok_sl (lx rfl)) (.nil))))) rfl rfl)) ?_
  refine WPl.x 8 9 rfl rfl rfl (OpG.settle0 (o_bsl (E := EP.int) (l := [5, 3]) R24 rfl rfl (.cons (rfl) rfl (eok_int) (.cons (rfl) rfl (eok_int) (.nil))) rfl rfl)) ?_
  refine WPl.v rfl (o_build B26 rfl ⟨(.inl ⟨_, (lx rfl), PL.one⟩), (.inl ⟨_, (lx rfl), PL.one⟩), (.inl ⟨_, (lx rfl), PL.one⟩), rfl, trivial⟩ rfl rfl) ?_
  refine WPl.s1 (o_stag G26 rfl rfl rfl ⟨(.inl ⟨_, (lx rfl), PL.one⟩), (.inl ⟨_, (lx rfl), PL.one⟩), (.inl ⟨_, (lx rfl), PL.one⟩), rfl, trivial⟩ rfl rfl) ?_
  refine WPl.nil ?_
  refine EX.then ?_
  refine WP.seq ?_
  refine WP.region ?_
  refine WPl.v rfl (o_ldpa G26 rfl rfl rfl) ?_
  refine WPl.cL 12 rfl rfl rfl rfl rfl (o_sigo 9 (ren [(0, 2), (1, 7), (2, 8)]) (c12O exFs exFs_small) e12 rfl rfl SvsOK.rf w12O ⟨(lx rfl), (lx rfl), (lx rfl), trivial⟩ r12O rfl rfl) ?_
  refine WPl.s1 (o_stag G26 rfl rfl rfl ⟨(.inl ⟨_, (lx rfl), PL.one⟩), (.inl ⟨_, (lx rfl), PL.one⟩), (.inr ⟨_, _, _, _, rfl⟩), rfl, trivial⟩ rfl rfl) ?_
  refine WPl.nil ?_
  refine EX.then ?_
  refine WP.seq ?_
  refine WP.region ?_
  refine WPl.v rfl (o_fldp F26_2 rfl) ?_
  refine WPl.v rfl (o_ldp S24 rfl rfl rfl) ?_
  refine WPl.v rfl (o_idxo L24 rfl rfl rfl (by decide) (by decide)) ?_
  refine WPl.s1 (o_steE2 Try.sizeOf3 rfl rfl rfl rfl eok_int rfl rfl rfl (by decide) (by decide)) ?_
  refine WPl.nil ?_
  refine EX.then ?_
  refine WP.seq ?_
  refine WP.draw (nf := 12) [⟨[20], [], [], [], []⟩, ⟨[19], [0], [], [], []⟩, ⟨[20], [], [], [0], [0]⟩, ⟨[], [], [], [1], [0, 1, 2]⟩] (by kernel_rfl) (by kernel_rfl) ?_
  refine DRQ.v rfl rfl rfl (o_ldpa G26 rfl rfl rfl) ?_
  refine DRQ.v rfl rfl rfl (o_ldpa G26 rfl rfl rfl) ?_
  refine DRQ.s 0 rfl rfl rfl (o_stag G26 rfl rfl rfl ⟨(.inl ⟨_, (lx rfl), PL.one⟩), (.inl ⟨_, (lx rfl), PL.one⟩), (.inl ⟨_, (lx rfl), PL.one⟩), rfl, trivial⟩ rfl rfl) ?_
  refine DRQ.s 1 rfl rfl rfl (o_stag G26 rfl rfl rfl ⟨(.inl ⟨_, (lx rfl), PL.one⟩), (.inl ⟨_, (lx rfl), PL.one⟩), (.inr ⟨_, _, _, _, rfl⟩), rfl, trivial⟩ rfl rfl) ?_
  refine DRQ.nil' ?_
  refine EX.then ?_
  refine WP.ret ?_
  refine EX.imp (Imp.frz (E := EP.int) (l := lset ([] ++ exFs.wants) 0 6) 11 rfl rfl) ?_
  exact EX.fin (ren [(0, 2), (1, 7), (2, 8), (3, 9), (4, 10), (5, 11)]) (.inl rfl) rfl (.cellg G26 rfl rfl rfl (.cellg G26 rfl rfl rfl (.nil))) rfl r16 ⟨(lx rfl), (lx rfl), (lx rfl), (lx rfl), (lx rfl), (lx rfl), trivial⟩ (by simp) (by simp)
theorem w17  : ∀ x ∈ ([] : List SV), x.res (keys (α := Pred) []) := by simp [SV.res, El.res, At.res, keys]
theorem r17  : SV.res (keys (α := Pred) [(0, PL EJo (exJ))]) (.e (.g [.q 0])) := by simp [SV.res, El.res, At.res, keys]
set_option maxHeartbeats 4000000 in
theorem c17   : Sig Try.prog 17 [] [] (.e (.g [.q 0])) [(0, PL EJo (exJ))] := by
  refine Sig.intro Try.func17 rfl 0 [] rfl w17 rfl rfl fun I w => ?_
  refine WP.seq ?_
  refine WP.region ?_
  refine WPl.l 0 1 rfl rfl rfl (o_alloc Z37) ?_
  refine WPl.nil ?_
  refine EX.then ?_
  refine WP.seq ?_
  refine WP.region ?_
  refine WPl.v rfl (o_build B28 rfl ⟨rfl, rfl, trivial⟩ rfl rfl) ?_
  refine WPl.v rfl (o_build B30 rfl ⟨rfl, rfl, rfl, rfl, trivial⟩ rfl rfl) ?_
  refine WPl.v rfl (o_build B28 rfl ⟨rfl, rfl, trivial⟩ rfl rfl) ?_
  refine WPl.v rfl (o_build B30 rfl ⟨rfl, rfl, rfl, rfl, trivial⟩ rfl rfl) ?_
  refine WPl.v rfl (o_build B28 rfl ⟨rfl, rfl, trivial⟩ rfl rfl) ?_
  refine WPl.v rfl (o_build B30 rfl ⟨rfl, rfl, rfl, rfl, trivial⟩ rfl rfl) ?_
  refine WPl.x 1 2 rfl rfl rfl (OpG.settle0 (o_bsl (E := EJo) (l := [(⟨3, 2, 4, 2, 9, 10⟩ : Job), (⟨1, 1, 1, 4, 7, 6⟩ : Job), (⟨2, 0, 3, 3, 14, 8⟩ : Job)]) R35 rfl rfl (.cons (⟨rfl, rfl, rfl, rfl, rfl, rfl, trivial⟩) rfl (eok_str ⟨rfl, rfl, rfl, rfl, rfl, rfl, trivial⟩) (.cons (⟨rfl, rfl, rfl, rfl, rfl, rfl, trivial⟩) rfl (eok_str ⟨rfl, rfl, rfl, rfl, rfl, rfl, trivial⟩) (.cons (⟨rfl, rfl, rfl, rfl, rfl, rfl, trivial⟩) rfl (eok_str ⟨rfl, rfl, rfl, rfl, rfl, rfl, trivial⟩) (.nil)))) rfl rfl)) ?_
  refine WPl.v rfl (o_build B37 rfl ⟨(.inl ⟨_, (lx rfl), PL.one⟩), trivial⟩ rfl rfl) ?_
  refine WPl.s1 (o_stag G37 rfl rfl rfl ⟨(.inl ⟨_, (lx rfl), PL.one⟩), trivial⟩ rfl rfl) ?_
  refine WPl.nil ?_
  refine EX.then ?_
  refine WP.ret ?_
  exact EX.fin (ren [(0, 1)]) (.inl rfl) rfl (.cellg G37 rfl rfl rfl (.nil)) rfl r17 ⟨(lx rfl), trivial⟩ (by simp) (by simp)
end Go.Flong
namespace Go.Flong
open Go Go.Eng Go.Proofs
theorem e16 : Enters' Try.prog 16 := Try.call16
theorem e8 : Enters' Try.prog 8 := Try.call8
theorem e17 : Enters' Try.prog 17 := Try.call17
theorem e9 : Enters' Try.prog 9 := Try.call9
theorem e4 : Enters' Try.prog 4 := Try.call4
theorem e5 : Enters' Try.prog 5 := Try.call5
theorem e6 : Enters' Try.prog 6 := Try.call6
theorem e7 : Enters' Try.prog 7 := Try.call7
theorem e10 : Enters' Try.prog 10 := Try.call10
theorem w7  : ∀ x ∈ ([] : List SV), x.res (keys (α := Pred) []) := by simp [SV.res, El.res, At.res, keys]
theorem r7  : SV.res (keys (α := Pred) []) (.b (true)) := by simp [SV.res, El.res, At.res, keys]
set_option maxHeartbeats 4000000 in
set_option maxRecDepth 10000 in
theorem c7   : Sig Try.prog 7 [] [] (.b (true)) [] := by
  refine Sig.intro Try.func7 rfl 0 [] rfl w7 rfl rfl fun I w => ?_
  refine WP.seq ?_
  refine WP.region ?_
  refine WPl.v rfl (o_assign rfl) ?_
  refine WPl.nil ?_
  refine EX.then ?_
  refine WP.seq ?_
  refine WP.region ?_
  refine WPl.cs 6 rfl rfl rfl rfl (o_sig 0 id c16 e16 rfl rfl rfl w16 trivial r16) ?_
  refine WPl.v rfl (o_move rfl) ?_
  refine WPl.v rfl (o_extract rfl rfl) ?_
  refine WPl.v rfl (o_extract rfl rfl) ?_
  refine WPl.l 6 7 rfl rfl rfl (o_alloc Z26) ?_
  refine WPl.l 7 8 rfl rfl rfl (o_alloc Z26) ?_
  refine WPl.s1 (o_stag G26 rfl rfl rfl ⟨(.inl ⟨_, (lx rfl), PL.one⟩), (.inl ⟨_, (lx rfl), PL.one⟩), (.inl ⟨_, (lx rfl), PL.one⟩), rfl, trivial⟩ rfl rfl) ?_
  refine WPl.s1 (o_stag G26 rfl rfl rfl ⟨(.inl ⟨_, (lx rfl), PL.one⟩), (.inl ⟨_, (lx rfl), PL.one⟩), (.inl ⟨_, (lx rfl), PL.one⟩), rfl, trivial⟩ rfl rfl) ?_
  refine WPl.nil ?_
  refine EX.then ?_
  refine WP.seq ?_
  refine WP.region ?_
  refine WPl.v rfl (o_ldpa G26 rfl rfl rfl) ?_
  refine WPl.cs 8 rfl rfl rfl rfl (o_sig 8 (ren [(0, 3), (1, 4), (2, 5)]) (c8 exFt exFt_small) e8 rfl rfl rfl w8 ⟨(lx rfl), (lx rfl), (lx rfl), trivial⟩ r8) ?_
  refine WPl.v rfl (o_move rfl) ?_
  refine WPl.v rfl (o_extract rfl rfl) ?_
  refine WPl.v rfl (o_extract rfl rfl) ?_
  refine WPl.v rfl (o_assign rfl) ?_
  refine WPl.v rfl (o_assign rfl) ?_
  refine WPl.nil ?_
  refine EX.then ?_
  refine WP.seq ?_
  refine WP.region ?_
  refine WPl.cs 9 rfl rfl rfl rfl (o_sig 8 id c17 e17 rfl rfl rfl w17 trivial r17) ?_
  refine WPl.cs 9 rfl rfl rfl rfl (o_sig 9 (ren [(0, 8)]) (c9 exJ exJ_ok) e9 rfl rfl rfl w9 ⟨(lx rfl), trivial⟩ r9) ?_
  refine WPl.v rfl (o_move rfl) ?_
  refine WPl.v rfl (o_extract rfl rfl) ?_
  refine WPl.v rfl (o_extract rfl rfl) ?_
  refine WPl.v rfl (o_assign rfl) ?_
  refine WPl.v rfl (o_assign rfl) ?_
  refine WPl.nil ?_
  refine EX.then ?_
  refine WP.seq ?_
  refine WP.region ?_
  refine WPl.v rfl (o_move rfl) ?_
  refine WPl.v rfl (o_eql rfl rfl) ?_
  refine WPl.imp (Imp.bitF 22 (b' := true) rfl (decide_eq_true exF_new.1)) ?_
  refine WPl.v rfl (o_move rfl) ?_
  refine WPl.on rfl ⟨_, _, rfl, rfl, rfl⟩ (o_move rfl) ?_
  refine WPl.on rfl ⟨_, _, rfl, rfl, rfl⟩ (o_eql rfl rfl) ?_
  refine WPl.imp (Imp.bitF 25 (b' := true) rfl (by simp)) ?_
  refine WPl.v rfl (o_pickT rfl rfl) ?_
  refine WPl.v rfl (o_move rfl) ?_
  refine WPl.on rfl ⟨_, _, rfl, rfl, rfl⟩ (o_move rfl) ?_
  refine WPl.on rfl ⟨_, _, rfl, rfl, rfl⟩ (o_eql rfl rfl) ?_
  refine WPl.imp (Imp.bitF 29 (b' := true) rfl (decide_eq_true exF_new.2)) ?_
  refine WPl.v rfl (o_pickT rfl rfl) ?_
  refine WPl.v rfl (o_move rfl) ?_
  refine WPl.on rfl ⟨_, _, rfl, rfl, rfl⟩ (o_move rfl) ?_
  refine WPl.on rfl ⟨_, _, rfl, rfl, rfl⟩ (o_eql rfl rfl) ?_
  refine WPl.imp (Imp.bitF 33 (b' := true) rfl (decide_eq_true exJ_quick)) ?_
  refine WPl.v rfl (o_pickT rfl rfl) ?_
  refine WPl.v rfl (o_assign rfl) ?_
  refine WPl.nil ?_
  refine EX.then ?_
  refine WP.ret ?_
  exact EX.fin id (.inl rfl) rfl (.tmp rfl .nil) rfl r7 trivial (by simp) (by simp)
theorem w3 {f : FSh} {j : Job} {p : Int} : ∀ x ∈ ([.e (.g [.q 0, .q 1, .q 2, ai (f.fresh)]), .e (.g [ai (j.beat), ai (j.lo), ai (j.hi), ai (j.pour), ai (j.due), ai (j.worth)]), .i (p)] : List SV), x.res (keys (α := Pred) [(0, PL EMo (f.moulds)), (1, PL (EP.sl EP.int) (f.worlds)), (2, PL EP.int (f.wants))]) := by simp [SV.res, El.res, At.res, keys]
theorem r3  : SV.res (keys (α := Pred) []) (.b (true)) := by simp [SV.res, El.res, At.res, keys]
set_option maxHeartbeats 4000000 in
set_option maxRecDepth 10000 in
theorem c3 (f : FSh) (j : Job) (p : Int)  : Sig Try.prog 3 [.e (.g [.q 0, .q 1, .q 2, ai (f.fresh)]), .e (.g [ai (j.beat), ai (j.lo), ai (j.hi), ai (j.pour), ai (j.due), ai (j.worth)]), .i (p)] [(0, PL EMo (f.moulds)), (1, PL (EP.sl EP.int) (f.worlds)), (2, PL EP.int (f.wants))] (.b (true)) [] := by
  refine Sig.intro Try.func3 rfl 3 [(0, .e (.g [.q 0, .q 1, .q 2, ai (f.fresh)])), (1, .e (.g [ai (j.beat), ai (j.lo), ai (j.hi), ai (j.pour), ai (j.due), ai (j.worth)])), (2, .i (p))] rfl w3 rfl rfl fun I w => ?_
  refine WP.seq ?_
  refine WP.region ?_
  refine WPl.l 3 4 rfl rfl rfl (o_boxg rfl) ?_
  refine WPl.l 4 5 rfl rfl rfl (o_boxg rfl) ?_
  refine WPl.v rfl (o_assign rfl) ?_
  refine WPl.nil ?_
  refine EX.then ?_
  refine WP.seq ?_
  refine WP.seq ?_
  refine WP.region ?_
  refine WPl.v rfl (o_ldpa G26 rfl rfl rfl) ?_
  refine WPl.cs 5 rfl rfl rfl rfl (o_sig 5 (ren [(0, 0), (1, 1), (2, 2)]) (c4 f) e4 rfl rfl rfl w4 ⟨(lx rfl), (lx rfl), (lx rfl), trivial⟩ r4) ?_
  refine WPl.v rfl (o_move rfl) ?_
  refine WPl.bit 5 6 (!f.huge) rfl rfl ?_
  refine WPl.gv 5 rfl rfl (.plain rfl (by first | (simp; done) | simp only [Bool.not_eq_true']) rfl) (fun hb => o_ldpa G26 rfl rfl rfl) ?_
  refine WPl.gc0 5 rfl rfl (.plain rfl (by first | (simp; done) | simp only [Bool.not_eq_true']) rfl) (fun hb => o_sig 6 (ren [(0, 0), (1, 1), (2, 2)]) (c5 f (huge_small (by simpa using hb))) e5 rfl rfl rfl w5 ⟨(lx rfl), (lx rfl), (lx rfl), trivial⟩ r5) ?_
  refine WPl.gv 5 rfl rfl (.plain rfl (by first | (simp; done) | simp only [Bool.not_eq_true']) rfl) (fun hb => o_neq rfl rfl) ?_
  refine WPl.v rfl (o_or rfl rfl rfl (by first | (simp; done) | exact fun h => by rw [h]; rfl | exact fun h => Bool.and_eq_true_iff.2 ⟨hb, by rw [h]; rfl⟩ | simp_all)) ?_
  refine WPl.v rfl (o_move rfl) ?_
  refine WPl.bit 6 7 (!(f.huge || (decide ((errF f.chk) ≠ 0)))) rfl rfl ?_
  refine WPl.gv 6 rfl rfl (.plain rfl (by first | (simp; done) | simp only [Bool.not_eq_true']) rfl) (fun hb => o_ldpa G30 rfl rfl rfl) ?_
  refine WPl.gx 6 7 8 rfl rfl rfl rfl (.plain rfl (by first | (simp; done) | simp only [Bool.not_eq_true']) rfl) (fun hb => OpG.settle0 (o_bsl (E := EJo) (l := [j]) R35 rfl rfl (.cons (⟨rfl, rfl, rfl, rfl, rfl, rfl, trivial⟩) rfl (eok_str ⟨rfl, rfl, rfl, rfl, rfl, rfl, trivial⟩) (.nil)) rfl rfl)) ?_
  refine WPl.gv 6 rfl rfl (.plain rfl (by first | (simp; done) | simp only [Bool.not_eq_true']) rfl) (fun hb => o_build B37 rfl ⟨(.inl ⟨_, (lxi hb rfl), PL.one⟩), trivial⟩ rfl rfl) ?_
  refine WPl.gc0 6 rfl rfl (.plain rfl (by first | (simp; done) | simp only [Bool.not_eq_true']) rfl) (fun hb => o_sig 8 (ren [(0, 7)]) (c6 [j] (by simp)) e6 rfl rfl rfl w6 ⟨(lxi hb rfl), trivial⟩ r6) ?_
  refine WPl.gv 6 rfl rfl (.plain rfl (by first | (simp; done) | simp only [Bool.not_eq_true']) rfl) (fun hb => o_neq rfl rfl) ?_
  refine WPl.v rfl (o_or rfl rfl rfl (by first | (simp; done) | exact fun h => by rw [h]; rfl | exact fun h => Bool.and_eq_true_iff.2 ⟨hb, by rw [h]; rfl⟩ | simp_all)) ?_
  refine WPl.nil ?_
  refine EX.then ?_
  refine WP.cond rfl (fun hc1 => ?_) (fun hc1 => ?_)
  · try simp only [decide_eq_true_eq, decide_eq_false_iff_not, Bool.and_eq_true, Bool.or_eq_true, Bool.and_eq_false_iff, Bool.or_eq_false_iff, Bool.not_eq_true', Bool.not_eq_false', ne_eq, Decidable.not_not] at hc1
    refine WP.seq ?_
    refine WP.region ?_
    refine WPl.cs 8 rfl rfl rfl rfl (o_sig 8 id c7 e7 rfl rfl rfl w7 trivial r7) ?_
    refine WPl.v rfl (o_assign rfl) ?_
    refine WPl.nil ?_
    refine EX.then ?_
    refine WP.ret ?_
    refine EX.ret_then ?_
    exact EX.fin id (.inl rfl) rfl (.tmp rfl .nil) rfl r3 trivial (by simp) (by simp)
  · try simp only [decide_eq_true_eq, decide_eq_false_iff_not, Bool.and_eq_true, Bool.or_eq_true, Bool.and_eq_false_iff, Bool.or_eq_false_iff, Bool.not_eq_true', Bool.not_eq_false', ne_eq, Decidable.not_not] at hc1
    obtain ⟨⟨hr1, hr2⟩, hr3⟩ := hc1
    have hm := huge_small hr1
    have hm3 := hm.p
    have hfc : f.chk = true := errF_eq.1 hr2
    have hjc := oneJ (errP_eq.1 hr3)
    have hj := Job.bnds hjc
    refine WP.skip ?_
    refine EX.then ?_
    refine WP.seq ?_
    refine WP.region ?_
    refine WPl.v rfl (o_ldpa G26 rfl rfl rfl) ?_
    refine WPl.cs 8 rfl rfl rfl rfl (o_sig 8 (ren [(0, 0), (1, 1), (2, 2)]) (c8 f hm) e8 rfl rfl rfl w8 ⟨(lx rfl), (lx rfl), (lx rfl), trivial⟩ r8) ?_
    refine WPl.v rfl (o_move rfl) ?_
    refine WPl.v rfl (o_extract rfl rfl) ?_
    refine WPl.v rfl (o_extract rfl rfl) ?_
    refine WPl.v rfl (o_assign rfl) ?_
    refine WPl.v rfl (o_assign rfl) ?_
    refine WPl.nil ?_
    refine EX.then ?_
    refine WP.seq ?_
    refine WP.seq ?_
    refine WP.region ?_
    refine WPl.v rfl (o_move rfl) ?_
    refine WPl.v rfl (o_neq rfl rfl) ?_
    refine WPl.v rfl (o_move rfl) ?_
    refine WPl.bit 8 9 (!(decide (f.newE ≠ 0))) rfl rfl ?_
    refine WPl.gv 8 rfl rfl (.plain rfl (by first | (simp; done) | simp only [Bool.not_eq_true']) rfl) (fun hb => o_move rfl) ?_
    refine WPl.gv 8 rfl rfl (.plain rfl (by first | (simp; done) | simp only [Bool.not_eq_true']) rfl) (fun hb => o_gtr rfl rfl) ?_
    refine WPl.v rfl (o_or rfl rfl rfl (by first | (simp; done) | exact fun h => by rw [h]; rfl | exact fun h => Bool.and_eq_true_iff.2 ⟨hb, by rw [h]; rfl⟩ | simp_all)) ?_
    refine WPl.nil ?_
    refine EX.then ?_
    refine WP.cond rfl (fun hc2 => ?_) (fun hc2 => ?_)
    · try simp only [decide_eq_true_eq, decide_eq_false_iff_not, Bool.and_eq_true, Bool.or_eq_true, Bool.and_eq_false_iff, Bool.or_eq_false_iff, Bool.not_eq_true', Bool.not_eq_false', ne_eq, Decidable.not_not] at hc2
      refine WP.seq ?_
      refine WP.region ?_
      refine WPl.v rfl (o_move rfl) ?_
      refine WPl.v rfl (o_eql rfl rfl) ?_
      refine WPl.v rfl (o_move rfl) ?_
      refine WPl.bit 9 10 (!(decide (f.newE = 0))) rfl rfl ?_
      refine WPl.gv 9 rfl rfl (.plain rfl (by first | (simp; done) | simp only [Bool.not_eq_true']) rfl) (fun hb => o_move rfl) ?_
      refine WPl.gv 9 rfl rfl (.plain rfl (by first | (simp; done) | simp only [Bool.not_eq_true']) rfl) (fun hb => o_eql rfl rfl) ?_
      refine WPl.v rfl (o_or rfl rfl rfl (by first | (simp; done) | exact fun h => by rw [h]; rfl | exact fun h => Bool.and_eq_true_iff.2 ⟨hb, by rw [h]; rfl⟩ | simp_all)) ?_
      refine WPl.imp (Imp.bitF 51 (b' := true) rfl (bor_new hfc)) ?_
      refine WPl.v rfl (o_move rfl) ?_
      refine WPl.ung ⟨_, _, rfl, rfl, rfl⟩ ?_
      refine WPl.cs 10 rfl rfl rfl rfl (o_sig 10 id c7 e7 rfl rfl rfl w7 trivial r7) ?_
      refine WPl.v rfl (o_pickT rfl rfl) ?_
      refine WPl.v rfl (o_assign rfl) ?_
      refine WPl.nil ?_
      refine EX.then ?_
      refine WP.ret ?_
      refine EX.ret_then ?_
      exact EX.fin id (.inl rfl) rfl (.tmp rfl .nil) rfl r3 trivial (by simp) (by simp)
    · try simp only [decide_eq_true_eq, decide_eq_false_iff_not, Bool.and_eq_true, Bool.or_eq_true, Bool.and_eq_false_iff, Bool.or_eq_false_iff, Bool.not_eq_true', Bool.not_eq_false', ne_eq, Decidable.not_not] at hc2
      obtain ⟨hne, hn5⟩ := hc2
      have hnv := newV_b hne
      obtain ⟨n, hn⟩ : ∃ n : Nat, f.newV = n := ⟨f.newV.toNat, by omega⟩
      refine WP.skip ?_
      refine EX.then ?_
      refine WP.seq ?_
      refine WP.seq ?_
      refine WP.region ?_
      refine WPl.v rfl (o_move rfl) ?_
      refine WPl.v rfl (o_lss rfl rfl) ?_
      refine WPl.nil ?_
      refine EX.then ?_
      refine WP.cond rfl (fun hc3 => ?_) (fun hc3 => ?_)
      · try simp only [decide_eq_true_eq, decide_eq_false_iff_not, Bool.and_eq_true, Bool.or_eq_true, Bool.and_eq_false_iff, Bool.or_eq_false_iff, Bool.not_eq_true', Bool.not_eq_false', ne_eq, Decidable.not_not] at hc3
        omega
      · try simp only [decide_eq_true_eq, decide_eq_false_iff_not, Bool.and_eq_true, Bool.or_eq_true, Bool.and_eq_false_iff, Bool.or_eq_false_iff, Bool.not_eq_true', Bool.not_eq_false', ne_eq, Decidable.not_not] at hc3
        refine WP.skip ?_
        refine EX.then ?_
        refine WP.seq ?_
        refine WP.region ?_
        refine WPl.l 9 10 rfl rfl rfl (o_alloc Z37) ?_
        refine WPl.nil ?_
        refine EX.then ?_
        refine WP.seq ?_
        refine WP.region ?_
        refine WPl.v rfl (o_assign rfl) ?_
        refine WPl.v rfl (o_assign rfl) ?_
        refine WPl.nil ?_
        refine EX.then ?_
        refine WP.seq ?_
        refine WP.seq ?_
        refine WP.region ?_
        refine WPl.v rfl (o_assign rfl) ?_
        refine WPl.nil ?_
        refine EX.then ?_
        refine WP.block ?_
        refine WP.imp (Imp.namo EJo 10 11 30 rfl rfl) ?_
        refine WP.imp (Imp.swL 9 0 10 rfl rfl (lx rfl)) ?_
        refine WP.loop (Gh := Nat) (fun i => ⟨11, [(2, .i (p)), (3, .e (.a (.p 3 (0)))), (4, .e (.a (.p 4 (0)))), (6, .b (false)), (7, .i (f.newV)), (9, .e (.a (.p 9 (0)))), (10, .i (lastJ j i)), (11, .i (mostJ j i)), (12, .i ((i : Int)))], [(0, PL EMo (f.moulds)), (1, PL (EP.sl EP.int) (f.worlds)), (2, PL EP.int (f.wants))], [(3, .blk [.q 0, .q 1, .q 2, ai (f.fresh)] 26), (4, .blk [ai (j.beat), ai (j.lo), ai (j.hi), ai (j.pour), ai (j.due), ai (j.worth)] 30), (9, .blk [.q 10] 37), (10, .own 30 EJo.size (List.replicate i j).length (RP EJo (List.replicate i j)))], [], []⟩) (fun i => i ≤ n) (fun i => n - i) (0) id ?_ (LeR.of ⟨rfl, rfl, rfl, rfl, rfl, rfl, rfl, rfl, rfl, trivial⟩ ⟨(lx rfl), (lx rfl), (lx rfl), trivial⟩ ⟨rfl, rfl, rfl, (congrArg (fun z => some (Ent.own 30 EJo.size (List.length z) (RP EJo z))) (show ([]) = ((fun i => List.replicate i j) 0) from rfl)), trivial⟩ rfl rfl rfl rfl rfl) ?_
        · first | trivial | omega | (constructor <;> omega) | simp
        intro i hφ
        have hi : i ≤ n := hφ
        refine WP.seq ?_
        refine WP.seq ?_
        refine WP.region ?_
        refine WPl.v rfl (o_move rfl) ?_
        refine WPl.v rfl (o_move rfl) ?_
        refine WPl.v rfl (o_lss rfl rfl) ?_
        refine WPl.nil ?_
        refine EX.then ?_
        refine WP.cond rfl (fun hc4 => ?_) (fun hc4 => ?_)
        · try simp only [decide_eq_true_eq, decide_eq_false_iff_not, Bool.and_eq_true, Bool.or_eq_true, Bool.and_eq_false_iff, Bool.or_eq_false_iff, Bool.not_eq_true', Bool.not_eq_false', ne_eq, Decidable.not_not] at hc4
          have hmx := mulN (i := i) (x := max j.beat j.pour) (by omega) (by have := hj.b; omega) (by have := hj.b; have := hj.p; omega)
          have hj1 := hj.b
          have hj2 := hj.p
          have hj3 := hj.h
          have hmj := mostJ_b j i
          refine WP.skip ?_
          refine EX.then ?_
          refine WP.seq ?_
          refine WP.block ?_
          refine WP.seq ?_
          refine WP.region ?_
          refine WPl.v rfl (o_fldp F37_0 rfl) ?_
          refine WPl.v rfl (o_ldp S35 rfl rfl rfl) ?_
          refine WPl.v rfl (o_ldpa G30 rfl rfl rfl) ?_
          refine WPl.l 11 12 rfl rfl rfl (o_bsl (E := EJo) (l := [j]) R35 rfl rfl (.cons (⟨rfl, rfl, rfl, rfl, rfl, rfl, trivial⟩) rfl (eok_str ⟨rfl, rfl, rfl, rfl, rfl, rfl, trivial⟩) (.nil)) rfl rfl) ?_
          refine WPl.u1 (k := 12) (m := 13) rfl rfl rfl (o_appo R35 EP.str_one rfl rfl rfl rfl (by simp; omega) (by simp; omega)) ?_
          refine WPl.v rfl (o_fldp F37_0 rfl) ?_
          refine WPl.s1 (o_sta S35 rfl rfl rfl (.inr ⟨_, _, _, _, rfl⟩) rfl) ?_
          refine WPl.nil ?_
          refine EX.then ?_
          refine WP.seq ?_
          refine WP.region ?_
          refine WPl.v rfl (o_fldp F30_0 rfl) ?_
          refine WPl.v rfl (o_ldp S3 rfl rfl rfl) ?_
          refine WPl.v rfl (o_fldp F30_1 rfl) ?_
          refine WPl.v rfl (o_fldp F28_1 rfl) ?_
          refine WPl.v rfl (o_ldp S3 rfl rfl rfl) ?_
          refine WPl.v rfl (o_add rfl rfl (by first | omega | (simp; omega)) (by first | omega | (simp; omega))) ?_
          refine WPl.v rfl (o_fldp F30_2 rfl) ?_
          refine WPl.v rfl (o_ldp S3 rfl rfl rfl) ?_
          refine WPl.v rfl (o_add rfl rfl (by first | omega | (simp; omega)) (by first | omega | (simp; omega))) ?_
          refine WPl.v rfl (o_move rfl) ?_
          refine WPl.v rfl (o_fldp F30_0 rfl) ?_
          refine WPl.v rfl (o_ldp S3 rfl rfl rfl) ?_
          refine WPl.v rfl (o_fldp F30_2 rfl) ?_
          refine WPl.v rfl (o_ldp S3 rfl rfl rfl) ?_
          refine WPl.v rfl (o_max rfl rfl) ?_
          refine WPl.v rfl (o_mul rfl rfl (by first | omega | (simp; omega)) (by first | omega | (simp; omega))) ?_
          refine WPl.v rfl (o_add rfl rfl (by first | omega | (simp; omega)) (by first | omega | (simp; omega))) ?_
          refine WPl.v rfl (o_assign rfl) ?_
          refine WPl.nil ?_
          refine EX.then ?_
          refine WP.seq ?_
          refine WP.region ?_
          refine WPl.v rfl (o_move rfl) ?_
          refine WPl.v rfl (o_fldp F30_3 rfl) ?_
          refine WPl.v rfl (o_ldp S3 rfl rfl rfl) ?_
          refine WPl.v rfl (o_leq rfl rfl) ?_
          refine WPl.nil ?_
          refine EX.then ?_
          refine WP.cond rfl (fun hc5 => ?_) (fun hc5 => ?_)
          · try simp only [decide_eq_true_eq, decide_eq_false_iff_not, Bool.and_eq_true, Bool.or_eq_true, Bool.and_eq_false_iff, Bool.or_eq_false_iff, Bool.not_eq_true', Bool.not_eq_false', ne_eq, Decidable.not_not] at hc5
            refine WP.region ?_
            refine WPl.v rfl (o_move rfl) ?_
            refine WPl.v rfl (o_add rfl rfl (by first | omega | (simp; omega)) (by first | omega | (simp; omega))) ?_
            refine WPl.v rfl (o_assign rfl) ?_
            refine WPl.nil ?_
            refine EX.blk ?_
            refine EX.then ?_
            refine WP.region ?_
            refine WPl.v rfl (o_move rfl) ?_
            refine WPl.v rfl (o_add rfl rfl (by first | omega | (simp; omega)) (by first | omega | (simp; omega))) ?_
            refine WPl.v rfl (o_assign rfl) ?_
            refine WPl.nil ?_
            refine EX.again (i + 1) (ren [(10, 12)]) (by first | omega | (constructor <;> omega)) (by omega) (LeR.of ⟨rfl, rfl, rfl, rfl, rfl, rfl, rfl, (congrArg (fun z => some (SV.i z)) (show ((mostJ j i) + 1) = ((fun i => mostJ j i) (i + 1)) from by dsimp only; rw [mostJ, if_pos (show lastJ j (i + 1) ≤ j.due from hc5)])), rfl, trivial⟩ ⟨(lx rfl), (lx rfl), (lx rfl), trivial⟩ ⟨rfl, rfl, rfl, (congrArg (fun z => some (Ent.own 30 EJo.size (List.length z) (RP EJo z))) (show ((List.replicate i j) ++ [j]) = ((fun i => List.replicate i j) (i + 1)) from by dsimp only; rw [List.replicate_succ'])), trivial⟩ rfl rfl rfl rfl rfl)
          · try simp only [decide_eq_true_eq, decide_eq_false_iff_not, Bool.and_eq_true, Bool.or_eq_true, Bool.and_eq_false_iff, Bool.or_eq_false_iff, Bool.not_eq_true', Bool.not_eq_false', ne_eq, Decidable.not_not] at hc5
            refine WP.skip ?_
            refine EX.blk ?_
            refine EX.then ?_
            refine WP.region ?_
            refine WPl.v rfl (o_move rfl) ?_
            refine WPl.v rfl (o_add rfl rfl (by first | omega | (simp; omega)) (by first | omega | (simp; omega))) ?_
            refine WPl.v rfl (o_assign rfl) ?_
            refine WPl.nil ?_
            refine EX.again (i + 1) (ren [(10, 12)]) (by first | omega | (constructor <;> omega)) (by omega) (LeR.of ⟨rfl, rfl, rfl, rfl, rfl, rfl, rfl, (congrArg (fun z => some (SV.i z)) (show (mostJ j i) = ((fun i => mostJ j i) (i + 1)) from by dsimp only; rw [mostJ, if_neg (show ¬ lastJ j (i + 1) ≤ j.due from hc5)])), rfl, trivial⟩ ⟨(lx rfl), (lx rfl), (lx rfl), trivial⟩ ⟨rfl, rfl, rfl, (congrArg (fun z => some (Ent.own 30 EJo.size (List.length z) (RP EJo z))) (show ((List.replicate i j) ++ [j]) = ((fun i => List.replicate i j) (i + 1)) from by dsimp only; rw [List.replicate_succ'])), trivial⟩ rfl rfl rfl rfl rfl)
        · try simp only [decide_eq_true_eq, decide_eq_false_iff_not, Bool.and_eq_true, Bool.or_eq_true, Bool.and_eq_false_iff, Bool.or_eq_false_iff, Bool.not_eq_true', Bool.not_eq_false', ne_eq, Decidable.not_not] at hc4
          have hin : i = n := by omega
          have hrok : jobsOK (List.replicate i j) = true := repJ_OK (by omega) hjc
          have hq := quick_rep (n := i) hj
          have hmo := most_rep (n := i) hj
          refine WP.exit ?_
          refine EX.exit_then ?_
          refine EX.exit_then ?_
          refine EX.exit_blk ?_
          refine EX.then ?_
          refine WP.seq ?_
          refine WP.region ?_
          refine WPl.imp (Imp.frz (E := EJo) (l := List.replicate i j) 10 rfl rfl) ?_
          refine WPl.v rfl (o_ldpa G37 rfl rfl rfl) ?_
          refine WPl.cs 11 rfl rfl rfl rfl (o_sig 11 (ren [(0, 10)]) (c9 (List.replicate i j) hrok) e9 rfl rfl rfl w9 ⟨(lx rfl), trivial⟩ r9) ?_
          refine WPl.v rfl (o_move rfl) ?_
          refine WPl.v rfl (o_extract rfl rfl) ?_
          refine WPl.v rfl (o_extract rfl rfl) ?_
          refine WPl.v rfl (o_assign rfl) ?_
          refine WPl.v rfl (o_assign rfl) ?_
          refine WPl.nil ?_
          refine EX.then ?_
          refine WP.seq ?_
          refine WP.region ?_
          refine WPl.v rfl (o_ldpa G37 rfl rfl rfl) ?_
          refine WPl.cs 11 rfl rfl rfl rfl (o_sig 11 (ren [(0, 10)]) (c10 (List.replicate i j) hrok) e10 rfl rfl rfl w10 ⟨(lx rfl), trivial⟩ r10) ?_
          refine WPl.v rfl (o_move rfl) ?_
          refine WPl.v rfl (o_extract rfl rfl) ?_
          refine WPl.v rfl (o_extract rfl rfl) ?_
          refine WPl.v rfl (o_assign rfl) ?_
          refine WPl.v rfl (o_assign rfl) ?_
          refine WPl.nil ?_
          refine EX.then ?_
          refine WP.seq ?_
          refine WP.seq ?_
          refine WP.region ?_
          refine WPl.v rfl (o_move rfl) ?_
          refine WPl.v rfl (o_neq rfl rfl) ?_
          refine WPl.imp (Imp.bitF 102 (b' := false) rfl (by simp)) ?_
          refine WPl.v rfl (o_move rfl) ?_
          refine WPl.on rfl ⟨_, _, rfl, rfl, rfl⟩ (o_move rfl) ?_
          refine WPl.on rfl ⟨_, _, rfl, rfl, rfl⟩ (o_neq rfl rfl) ?_
          refine WPl.imp (Imp.bitF 105 (b' := false) rfl (by simp)) ?_
          refine WPl.v rfl (o_pickF rfl rfl) ?_
          refine WPl.v rfl (o_move rfl) ?_
          refine WPl.on rfl ⟨_, _, rfl, rfl, rfl⟩ (o_move rfl) ?_
          refine WPl.on rfl ⟨_, _, rfl, rfl, rfl⟩ (o_move rfl) ?_
          refine WPl.on rfl ⟨_, _, rfl, rfl, rfl⟩ (o_neq rfl rfl) ?_
          refine WPl.imp (Imp.bitF 110 (b' := false) rfl (decide_eq_false (fun h => h hq))) ?_
          refine WPl.v rfl (o_pickF rfl rfl) ?_
          refine WPl.v rfl (o_move rfl) ?_
          refine WPl.on rfl ⟨_, _, rfl, rfl, rfl⟩ (o_move rfl) ?_
          refine WPl.on rfl ⟨_, _, rfl, rfl, rfl⟩ (o_move rfl) ?_
          refine WPl.on rfl ⟨_, _, rfl, rfl, rfl⟩ (o_neq rfl rfl) ?_
          refine WPl.imp (Imp.bitF 115 (b' := false) rfl (decide_eq_false (fun h => h hmo))) ?_
          refine WPl.v rfl (o_pickF rfl rfl) ?_
          refine WPl.nil ?_
          refine EX.then ?_
          refine WP.cond rfl (fun h => by cases h) (fun _ => ?_)
          refine WP.skip ?_
          refine EX.then ?_
          refine WP.seq ?_
          refine WP.seq ?_
          refine WP.region ?_
          refine WPl.v rfl (o_ldpa G26 rfl rfl rfl) ?_
          refine WPl.v rfl (o_move rfl) ?_
          refine WPl.cs 11 rfl rfl rfl rfl (o_sig 11 (ren [(0, 0), (1, 1), (2, 2)]) (c11 f p (by omega)) e11 rfl rfl rfl w11 ⟨(lx rfl), (lx rfl), (lx rfl), trivial⟩ r11) ?_
          refine WPl.v rfl (o_not rfl) ?_
          refine WPl.nil ?_
          refine EX.then ?_
          refine WP.cond rfl (fun hc7 => ?_) (fun hc7 => ?_)
          · try simp only [decide_eq_true_eq, decide_eq_false_iff_not, Bool.and_eq_true, Bool.or_eq_true, Bool.and_eq_false_iff, Bool.or_eq_false_iff, Bool.not_eq_true', Bool.not_eq_false', ne_eq, Decidable.not_not] at hc7
            refine WP.seq ?_
            refine WP.region ?_
            refine WPl.cs 11 rfl rfl rfl rfl (o_sig 11 id c7 e7 rfl rfl rfl w7 trivial r7) ?_
            refine WPl.v rfl (o_assign rfl) ?_
            refine WPl.nil ?_
            refine EX.then ?_
            refine WP.ret ?_
            refine EX.ret_then ?_
            exact EX.fin id (.inl rfl) rfl (.tmp rfl .nil) rfl r3 trivial (by simp) (by simp)
          · try simp only [decide_eq_true_eq, decide_eq_false_iff_not, Bool.and_eq_true, Bool.or_eq_true, Bool.and_eq_false_iff, Bool.or_eq_false_iff, Bool.not_eq_true', Bool.not_eq_false', ne_eq, Decidable.not_not] at hc7
            have hpg : 0 ≤ p ∧ p < f.wants.length := by simp only [within, Bool.and_eq_true, decide_eq_true_eq] at hc7; omega
            have hwp := (FSh.chkB hfc).ps p.toNat (by omega)
            rw [show ((p.toNat : Nat) : Int) = p by omega] at hwp
            refine WP.skip ?_
            refine EX.then ?_
            refine WP.seq ?_
            refine WP.region ?_
            refine WPl.v rfl (o_ldpa G26 rfl rfl rfl) ?_
            refine WPl.cL 14 rfl rfl rfl rfl rfl (o_sigo 11 (ren [(0, 0), (1, 1), (2, 2)]) (c12O f hm) e12 rfl rfl SvsOK.rf w12O ⟨(lx rfl), (lx rfl), (lx rfl), trivial⟩ r12O rfl rfl) ?_
            refine WPl.l 14 15 rfl rfl rfl (o_alloc Z26) ?_
            refine WPl.s1 (o_stag G26 rfl rfl rfl ⟨(.inl ⟨_, (lx rfl), PL.one⟩), (.inl ⟨_, (lx rfl), PL.one⟩), (.inr ⟨_, _, _, _, rfl⟩), rfl, trivial⟩ rfl rfl) ?_
            refine WPl.nil ?_
            refine EX.then ?_
            refine WP.seq ?_
            refine WP.region ?_
            refine WPl.v rfl (o_fldp F26_2 rfl) ?_
            refine WPl.v rfl (o_ldp S24 rfl rfl rfl) ?_
            refine WPl.v rfl (o_move rfl) ?_
            refine WPl.v rfl (o_idxo L24 rfl rfl rfl (by first | omega | (simp; omega)) (by first | omega | (simp; omega))) ?_
            refine WPl.v rfl (o_ldoi S3 rfl rfl rfl rfl (by first | omega | (simp; omega)) (by first | omega | (simp; omega))) ?_
            refine WPl.v rfl (o_add rfl rfl (by first | omega | (simp; omega)) (by first | omega | (simp; omega))) ?_
            refine WPl.v rfl (o_idxo L24 rfl rfl rfl (by first | omega | (simp; omega)) (by first | omega | (simp; omega))) ?_
            refine WPl.s1 (o_steE2 Try.sizeOf3 rfl rfl rfl rfl eok_int rfl rfl rfl (by first | omega | (simp; omega)) (by first | omega | (simp; omega))) ?_
            refine WPl.nil ?_
            refine EX.then ?_
            refine WP.seq ?_
            refine WP.seq ?_
            refine WP.region ?_
            refine WPl.imp (Imp.frz (E := EP.int) (l := lset ([] ++ f.wants) p ((nth ([] ++ f.wants) p) + 1)) 13 rfl rfl) ?_
            refine WPl.v rfl (o_ldpa G26 rfl rfl rfl) ?_
            refine WPl.cs 15 rfl rfl rfl rfl (o_sig 15 (ren [(0, 11), (1, 12), (2, 13)]) (c5 (f.more p) (more_small hm p)) e5 rfl rfl rfl w5 ⟨(lx rfl), (lx rfl), (lx rfl), trivial⟩ r5) ?_
            refine WPl.v rfl (o_neq rfl rfl) ?_
            refine WPl.nil ?_
            refine EX.then ?_
            refine WP.cond rfl (fun hc8 => ?_) (fun hc8 => ?_)
            · try simp only [decide_eq_true_eq, decide_eq_false_iff_not, Bool.and_eq_true, Bool.or_eq_true, Bool.and_eq_false_iff, Bool.or_eq_false_iff, Bool.not_eq_true', Bool.not_eq_false', ne_eq, Decidable.not_not] at hc8
              refine WP.seq ?_
              refine WP.region ?_
              refine WPl.cs 15 rfl rfl rfl rfl (o_sig 15 id c7 e7 rfl rfl rfl w7 trivial r7) ?_
              refine WPl.v rfl (o_assign rfl) ?_
              refine WPl.nil ?_
              refine EX.then ?_
              refine WP.ret ?_
              refine EX.ret_then ?_
              exact EX.fin id (.inl rfl) rfl (.tmp rfl .nil) rfl r3 trivial (by simp) (by simp)
            · try simp only [decide_eq_true_eq, decide_eq_false_iff_not, Bool.and_eq_true, Bool.or_eq_true, Bool.and_eq_false_iff, Bool.or_eq_false_iff, Bool.not_eq_true', Bool.not_eq_false', ne_eq, Decidable.not_not] at hc8
              have hmc : (f.more p).chk = true := errF_eq.1 hc8
              have hme := more_newE hne hmc
              have hmv := more_newV hne hmc hpg.1 hpg.2
              refine WP.skip ?_
              refine EX.then ?_
              refine WP.seq ?_
              refine WP.region ?_
              refine WPl.v rfl (o_ldpa G26 rfl rfl rfl) ?_
              refine WPl.cs 15 rfl rfl rfl rfl (o_sig 15 (ren [(0, 11), (1, 12), (2, 13)]) (c8 (f.more p) (more_small hm p)) e8 rfl rfl rfl w8 ⟨(lx rfl), (lx rfl), (lx rfl), trivial⟩ r8) ?_
              refine WPl.v rfl (o_move rfl) ?_
              refine WPl.v rfl (o_extract rfl rfl) ?_
              refine WPl.v rfl (o_extract rfl rfl) ?_
              refine WPl.v rfl (o_assign rfl) ?_
              refine WPl.v rfl (o_assign rfl) ?_
              refine WPl.nil ?_
              refine EX.then ?_
              refine WP.seq ?_
              refine WP.region ?_
              refine WPl.v rfl (o_move rfl) ?_
              refine WPl.v rfl (o_eql rfl rfl) ?_
              refine WPl.imp (Imp.bitF 141 (b' := true) rfl (decide_eq_true hme)) ?_
              refine WPl.v rfl (o_move rfl) ?_
              refine WPl.on rfl ⟨_, _, rfl, rfl, rfl⟩ (o_move rfl) ?_
              refine WPl.on rfl ⟨_, _, rfl, rfl, rfl⟩ (o_move rfl) ?_
              refine WPl.on rfl ⟨_, _, rfl, rfl, rfl⟩ (o_eql rfl rfl) ?_
              refine WPl.on rfl ⟨_, _, rfl, rfl, rfl⟩ (o_move rfl) ?_
              refine WPl.bit 15 16 (!(decide (((f.more p).newV) = f.newV))) rfl rfl ?_
              refine WPl.gv 15 rfl rfl (.plain rfl (by first | (simp; done) | simp only [Bool.not_eq_true']) rfl) (fun hb => o_move rfl) ?_
              refine WPl.gv 15 rfl rfl (.plain rfl (by first | (simp; done) | simp only [Bool.not_eq_true']) rfl) (fun hb => o_move rfl) ?_
              refine WPl.gv 15 rfl rfl (.plain rfl (by first | (simp; done) | simp only [Bool.not_eq_true']) rfl) (fun hb => o_add rfl rfl (by first | omega | (simp; omega)) (by first | omega | (simp; omega))) ?_
              refine WPl.gv 15 rfl rfl (.plain rfl (by first | (simp; done) | simp only [Bool.not_eq_true']) rfl) (fun hb => o_eql rfl rfl) ?_
              refine WPl.on rfl ⟨_, _, rfl, rfl, rfl⟩ (o_or rfl rfl rfl (by first | (simp; done) | exact fun h => by rw [h]; rfl | exact fun h => Bool.and_eq_true_iff.2 ⟨hb, by rw [h]; rfl⟩ | simp_all)) ?_
              refine WPl.imp (Imp.bitF 151 (b' := true) rfl (bor_or hmv)) ?_
              refine WPl.v rfl (o_pickT rfl rfl) ?_
              refine WPl.v rfl (o_move rfl) ?_
              refine WPl.ung ⟨_, _, rfl, rfl, rfl⟩ ?_
              refine WPl.cs 16 rfl rfl rfl rfl (o_sig 16 id c7 e7 rfl rfl rfl w7 trivial r7) ?_
              refine WPl.v rfl (o_pickT rfl rfl) ?_
              refine WPl.v rfl (o_assign rfl) ?_
              refine WPl.nil ?_
              refine EX.then ?_
              refine WP.ret ?_
              exact EX.fin id (.inl rfl) rfl (.tmp rfl .nil) rfl r3 trivial (by simp) (by simp)
end Go.Flong
namespace Go.Proofs.Ytodeaohjdioppaa
open Go Go.Eng Go.Flong Go.ChangeShapes Go.WideShapes
set_option maxRecDepth 100000 in
theorem topBeaten_lifted (os : Os) (started : os.Started) (H : Type) (enc : TypeId × Value → H) : ReturnsInHanded {} Try.checked os 3 .any (Rows.topBeatenSpec.pre6 enc Try.prog Try.f3 Rows.topBeatenRow.domain false) (Rows.topBeatenSpec.post enc Try.prog Try.f3 false true false false) := by
  refine lawLifted (C := Try.checked) own started (by kernel_rfl) Try.func3
    (ChangeSpec.witness6 (enc := enc) (C := Try.checked) false ⟨#[], #[.agg #[.slice none 0 0, .slice none 0 0, .slice none 0 0, .int .i64 0], .agg #[.int .i64 0, .int .i64 0, .int .i64 0, .int .i64 0, .int .i64 0, .int .i64 0], .int .i64 0], []⟩ 8 (by kernel_rfl) (by kernel_rfl) (by kernel_rfl) (by kernel_rfl))
    laidOut rfl Try.underlying4 (by intro t ht; revert ht; revert t; exact of_decide_eq_true (by kernel_rfl)) rfl (fun ds hd => ?_) fun W base args ds p hval hA => ?_
  · match ds, hd with
    | [_, _, _], _ => rfl
  · obtain ⟨v0, vs, d0, ds0, p0, q0, ha, rfl, rfl, h0, hA⟩ := trodAll_cons hA
    obtain ⟨v1, vs, d1, ds1, p1, q1, rfl, rfl, rfl, h1, hA⟩ := trodAll_cons hA
    obtain ⟨v2, vs, d2, ds2, p2, q2, rfl, rfl, rfl, h2, hA⟩ := trodAll_cons hA
    obtain ⟨rfl, rfl, rfl⟩ := trodAll_nil hA
    obtain rfl : args = #[v0, v1, v2] := by cases args; simp_all
    obtain ⟨a0, x0, y0, z0, rfl, hx0, hy0, hz0⟩ := argFsh (hval 0 26 v0 rfl rfl) h0
    obtain ⟨a1, rfl⟩ := argJob (hval 1 30 v1 rfl rfl) h1
    obtain ⟨a2, rfl⟩ := okWide_int Try.underlying3 (hval 2 3 v2 rfl rfl)
    exact Sig.kept (c3 a0 a1 a2) (ν := nuL [x0, y0, z0]) ⟨hx0, hy0, hz0, trivial⟩
theorem topBeaten_holds : Rows.TopBeatenSaid :=
  OpenClaim.holds_of_wide 3 Try.f3 rfl rfl rfl rfl rfl rfl rfl ⟨rfl, rfl, rfl, rfl, rfl⟩ rfl rfl rfl rfl rfl (by kernel_rfl) Try.func3 (by kernel_rfl)
    (of_decide_eq_true (by kernel_rfl)) (by unfold Func.isWrapper; rw [if_neg (by decide +kernel)]; exact ⟨rfl, rfl⟩)
    (fun os started H enc _ => topBeaten_lifted os started H enc)
end Go.Proofs.Ytodeaohjdioppaa
