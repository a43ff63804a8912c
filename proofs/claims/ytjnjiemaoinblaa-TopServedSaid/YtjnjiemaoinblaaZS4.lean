/- Part 4 of the texts behind the claim: S1. -/
import Derived.Test.YtjnjiemaoinblaaZS3
set_option linter.unusedSimpArgs false
set_option linter.unusedVariables false
namespace Go.Flong
open Go Go.Eng Go.Proofs
theorem e49 : Enters' Try.prog 49 := Try.call49
theorem L24 : IsSl Try.prog 24 3 1 := ⟨Try.underlying24,Try.sizeOf3⟩
theorem S3 : TyS Try.prog 3 := ⟨Try.isAgg3,Try.sizeOf3⟩
theorem F26_2 : Fld Try.prog 26 2 2 := .mk Try.underlying26 rfl rfl rfl Try.sizeOf24 rfl
theorem S24 : TyS Try.prog 24 := ⟨Try.isAgg24,Try.sizeOf24⟩
theorem e32 : Enters' Try.prog 32 := Try.call32
theorem e52 : Enters' Try.prog 52 := Try.call52
theorem F26_0 : Fld Try.prog 26 0 0 := .mk Try.underlying26 rfl rfl rfl Try.sizeOf22 rfl
theorem S22 : TyS Try.prog 22 := ⟨Try.isAgg22,Try.sizeOf22⟩
theorem L22 : IsSl Try.prog 22 68 3 := ⟨Try.underlying22,Try.sizeOf68⟩
theorem F26_1 : Fld Try.prog 26 1 1 := .mk Try.underlying26 rfl rfl rfl Try.sizeOf23 rfl
theorem S23 : TyS Try.prog 23 := ⟨Try.isAgg23,Try.sizeOf23⟩
theorem L23 : IsSl Try.prog 23 58 3 := ⟨Try.underlying23,Try.sizeOf58⟩
theorem F26_3 : Fld Try.prog 26 3 3 := .mk Try.underlying26 rfl rfl rfl Try.sizeOf3 rfl
theorem G68 : TyG Try.prog 68 3 := ⟨Try.isAgg68,Try.sizeOf68⟩
theorem Z68 : Zero Try.prog 68 [ai (0),ai (0),ai (0)] := .mk Try.zeroValue68 rfl rfl
theorem F68_0 : Fld Try.prog 68 0 0 := .mk Try.underlying68 rfl rfl rfl Try.sizeOf3 rfl
theorem F68_1 : Fld Try.prog 68 1 1 := .mk Try.underlying68 rfl rfl rfl Try.sizeOf3 rfl
theorem F68_2 : Fld Try.prog 68 2 2 := .mk Try.underlying68 rfl rfl rfl Try.sizeOf3 rfl
theorem G58 : TyG Try.prog 58 3 := ⟨Try.isAgg58,Try.sizeOf58⟩
theorem Z58 : Zero Try.prog 58 [ai (0),ai (0),ai (0)] := .mk Try.zeroValue58 rfl rfl
theorem G26 : TyG Try.prog 26 4 := ⟨Try.isAgg26,Try.sizeOf26⟩
theorem F58_0 : Fld Try.prog 58 0 0 := .mk Try.underlying58 rfl rfl rfl Try.sizeOf3 rfl
theorem e48 : Enters' Try.prog 48 := Try.call48
theorem F58_1 : Fld Try.prog 58 1 1 := .mk Try.underlying58 rfl rfl rfl Try.sizeOf3 rfl
theorem F58_2 : Fld Try.prog 58 2 2 := .mk Try.underlying58 rfl rfl rfl Try.sizeOf3 rfl
theorem L44 : IsSl Try.prog 44 66 3 := ⟨Try.underlying44,Try.sizeOf66⟩
theorem G66 : TyG Try.prog 66 3 := ⟨Try.isAgg66,Try.sizeOf66⟩
theorem Z66 : Zero Try.prog 66 [ai (0),ai (0),ai (0)] := .mk Try.zeroValue66 rfl rfl
theorem F66_0 : Fld Try.prog 66 0 0 := .mk Try.underlying66 rfl rfl rfl Try.sizeOf3 rfl
theorem e23 : Enters' Try.prog 23 := Try.call23
theorem F66_1 : Fld Try.prog 66 1 1 := .mk Try.underlying66 rfl rfl rfl Try.sizeOf3 rfl
theorem F66_2 : Fld Try.prog 66 2 2 := .mk Try.underlying66 rfl rfl rfl Try.sizeOf3 rfl
theorem e28 : Enters' Try.prog 28 := Try.call28
theorem F29_0 : Fld Try.prog 29 0 0 := .mk Try.underlying29 rfl rfl rfl Try.sizeOf26 rfl
theorem e22 : Enters' Try.prog 22 := Try.call22
theorem F29_1 : Fld Try.prog 29 1 4 := .mk Try.underlying29 rfl rfl rfl Try.sizeOf24 rfl
theorem F29_2 : Fld Try.prog 29 2 5 := .mk Try.underlying29 rfl rfl rfl Try.sizeOf27 rfl
theorem S27 : TyS Try.prog 27 := ⟨Try.isAgg27,Try.sizeOf27⟩
theorem L27 : IsSl Try.prog 27 24 1 := ⟨Try.underlying27,Try.sizeOf24⟩
theorem e24 : Enters' Try.prog 24 := Try.call24
abbrev HitI (d : Dom) (h : Int → Bool) : Pred := Pred.fall fun (o : d.T) => FvP Try.prog [.i (o.1)] [] (.b (h o.1)) []
theorem e79 : Enters' Try.prog 79 := Try.call79
abbrev HitM (h : TM → Bool) : Pred := Pred.fall fun (o : TM) => FvP Try.prog [.e (.g [ai (o.ready),ai (o.pace),ai (o.stops)])] [] (.b (h o)) []
theorem e80 : Enters' Try.prog 80 := Try.call80
abbrev HitB (h : TBd → Bool) : Pred := Pred.fall fun (o : TBd) => FvP Try.prog [.e (.g [ai (o.train),ai (o.hundreds),ai (o.edition)])] [] (.b (h o)) []
theorem e81 : Enters' Try.prog 81 := Try.call81
theorem e91 : Enters' Try.prog 91 := Try.call91
theorem e71 : Enters' Try.prog 71 := Try.call71
theorem S97 : TyS Try.prog 97 := ⟨Try.isAgg97,Try.sizeOf97⟩
theorem e59 : Enters' Try.prog 59 := Try.call59
theorem Z97 : Zero Try.prog 97 [.v (.nilFunc)] := .mk Try.zeroValue97 rfl rfl
theorem e51 : Enters' Try.prog 51 := Try.call51
theorem e54 : Enters' Try.prog 54 := Try.call54
theorem e53 : Enters' Try.prog 53 := Try.call53
theorem e56 : Enters' Try.prog 56 := Try.call56
theorem e55 : Enters' Try.prog 55 := Try.call55
theorem e58 : Enters' Try.prog 58 := Try.call58
theorem e57 : Enters' Try.prog 57 := Try.call57
theorem e69 : Enters' Try.prog 69 := Try.call69
theorem e26 : Enters' Try.prog 26 := Try.call26
theorem e89 : Enters' Try.prog 89 := Try.call89
theorem e90 : Enters' Try.prog 90 := Try.call90
theorem R24 : RowT Try.prog 24 3 1 8 [.int .i64 0] := ⟨Try.underlying24,⟨Try.t3,_,by kernel_rfl,rfl,rfl,rfl,rfl⟩,rfl,by decide⟩
theorem e70 : Enters' Try.prog 70 := Try.call70
theorem Z75 : Zero Try.prog 75 [.v (.slice none 0 0),.v (.slice none 0 0),.v (.slice none 0 0),ai (0),.v (.slice none 0 0),.v (.slice none 0 0)] := .mk Try.zeroValue75 rfl rfl
theorem G29 : TyG Try.prog 29 6 := ⟨Try.isAgg29,Try.sizeOf29⟩
theorem e65 : Enters' Try.prog 65 := Try.call65
theorem B75 : BldT Try.prog 75 [(0,6)] [.slice none 0 0,.slice none 0 0,.slice none 0 0,.int .i64 0,.slice none 0 0,.slice none 0 0] := BldT.mk (ns := [6]) Try.underlying75 ⟨Try.sizeOf29,trivial⟩ rfl Try.zeroValue75 rfl
theorem G75 : TyG Try.prog 75 6 := ⟨Try.isAgg75,Try.sizeOf75⟩
theorem Z81 : Zero Try.prog 81 [ai (0),ai (0),ai (0),ai (0),ai (0),ai (0),ai (0),ai (0),ai (0),ai (0),ai (0),ai (0)] := .mk Try.zeroValue81 rfl rfl
theorem A81 : IsArrG Try.prog 81 79 4 3 := ⟨Try.underlying81,Try.sizeOf79⟩
theorem A79 : IsArr Try.prog 79 3 3 := ⟨Try.underlying79,Try.sizeOf3⟩
theorem G81 : TyG Try.prog 81 12 := ⟨Try.isAgg81,Try.sizeOf81⟩
theorem e88 : Enters' Try.prog 88 := Try.call88
theorem w49 {n lo hi : Int} : ∀ x ∈ ([.i (n),.i (lo),.i (hi)] : List SV),x.res (keys (α := Pred) []) := by simp [SV.res,El.res,At.res,keys]
theorem r49 {n lo hi : Int} : SV.res (keys (α := Pred) []) (.b (within n lo hi)) := by simp [SV.res,El.res,At.res,keys]
set_option maxHeartbeats 4000000 in
theorem c49 (n lo hi : Int)  : Sig Try.prog 49 [.i (n),.i (lo),.i (hi)] [] (.b (within n lo hi)) [] := by
  refine Sig.intro Try.func49 rfl 0 [(0,.i (n)),(1,.i (lo)),(2,.i (hi))] rfl w49 rfl rfl fun I w => ?_
  refine WP.seq (WP.region ?_)
  refine WPl.v rfl (o_assign rfl) ?_
  refine WPl.nil (EX.then (WP.seq (WP.region ?_)))
  refine WPl.v rfl (o_move rfl) ?_
  refine WPl.v rfl (o_move rfl) ?_
  refine WPl.v rfl (o_leq rfl rfl) ?_
  refine WPl.v rfl (o_move rfl) ?_
  refine WPl.bit 0 1 (decide (lo ≤ n)) rfl rfl ?_
  refine WPl.gv 0 rfl rfl (.plain rfl Iff.rfl rfl) (fun hb => o_move rfl) ?_
  refine WPl.gv 0 rfl rfl (.plain rfl Iff.rfl rfl) (fun hb => o_move rfl) ?_
  refine WPl.gv 0 rfl rfl (.plain rfl Iff.rfl rfl) (fun hb => o_leq rfl rfl) ?_
  refine WPl.v rfl (o_and rfl rfl rfl id) ?_
  refine WPl.v rfl (o_assign rfl) ?_
  refine WPl.nil (EX.then (WP.ret ?_))
  exact EX.fin id (.inl rfl) rfl (.tmp rfl .nil) rfl r49 trivial (by simp) (by simp)
theorem w32 {n lo hi : Int} : ∀ x ∈ ([.i (n),.i (lo),.i (hi)] : List SV),x.res (keys (α := Pred) []) := by simp [SV.res,El.res,At.res,keys]
theorem r32 {n lo hi : Int} : SV.res (keys (α := Pred) []) (.b (within n lo hi)) := by simp [SV.res,El.res,At.res,keys]
set_option maxHeartbeats 4000000 in
theorem c32 (n lo hi : Int)  : Sig Try.prog 32 [.i (n),.i (lo),.i (hi)] [] (.b (within n lo hi)) [] := by
  refine Sig.intro Try.func32 rfl 0 [(0,.i (n)),(1,.i (lo)),(2,.i (hi))] rfl w32 rfl rfl fun I w => ?_
  refine WP.seq (WP.region ?_)
  refine WPl.v rfl (o_assign rfl) ?_
  refine WPl.nil (EX.then (WP.seq (WP.region ?_)))
  refine WPl.v rfl (o_move rfl) ?_
  refine WPl.v rfl (o_move rfl) ?_
  refine WPl.v rfl (o_move rfl) ?_
  refine WPl.cs 0 rfl rfl rfl rfl (o_sig 0 id (c49 n lo hi) e49 rfl rfl rfl w49 trivial r49) ?_
  refine WPl.v rfl (o_assign rfl) ?_
  refine WPl.nil (EX.then (WP.ret ?_))
  exact EX.fin id (.inl rfl) rfl (.tmp rfl .nil) rfl r32 trivial (by simp) (by simp)
theorem w23 {n lo hi : Int} : ∀ x ∈ ([.i (n),.i (lo),.i (hi)] : List SV),x.res (keys (α := Pred) []) := by simp [SV.res,El.res,At.res,keys]
theorem r23 {n lo hi : Int} : SV.res (keys (α := Pred) []) (.b (within n lo hi)) := by simp [SV.res,El.res,At.res,keys]
set_option maxHeartbeats 4000000 in
theorem c23 (n lo hi : Int)  : Sig Try.prog 23 [.i (n),.i (lo),.i (hi)] [] (.b (within n lo hi)) [] := by
  refine Sig.intro Try.func23 rfl 0 [(0,.i (n)),(1,.i (lo)),(2,.i (hi))] rfl w23 rfl rfl fun I w => ?_
  refine WP.seq (WP.region ?_)
  refine WPl.v rfl (o_assign rfl) ?_
  refine WPl.nil (EX.then (WP.seq (WP.region ?_)))
  refine WPl.v rfl (o_move rfl) ?_
  refine WPl.v rfl (o_move rfl) ?_
  refine WPl.v rfl (o_move rfl) ?_
  refine WPl.cs 0 rfl rfl rfl rfl (o_sig 0 id (c49 n lo hi) e49 rfl rfl rfl w49 trivial r49) ?_
  refine WPl.v rfl (o_assign rfl) ?_
  refine WPl.nil (EX.then (WP.ret ?_))
  exact EX.fin id (.inl rfl) rfl (.tmp rfl .nil) rfl r23 trivial (by simp) (by simp)
theorem w69 {n lo hi : Int} : ∀ x ∈ ([.i (n),.i (lo),.i (hi)] : List SV),x.res (keys (α := Pred) []) := by simp [SV.res,El.res,At.res,keys]
theorem r69 {n lo hi : Int} : SV.res (keys (α := Pred) []) (.b (within n lo hi)) := by simp [SV.res,El.res,At.res,keys]
set_option maxHeartbeats 4000000 in
theorem c69 (n lo hi : Int)  : Sig Try.prog 69 [.i (n),.i (lo),.i (hi)] [] (.b (within n lo hi)) [] := by
  refine Sig.intro Try.func69 rfl 0 [(0,.i (n)),(1,.i (lo)),(2,.i (hi))] rfl w69 rfl rfl fun I w => ?_
  refine WP.seq (WP.region ?_)
  refine WPl.v rfl (o_assign rfl) ?_
  refine WPl.nil (EX.then (WP.seq (WP.region ?_)))
  refine WPl.v rfl (o_move rfl) ?_
  refine WPl.v rfl (o_move rfl) ?_
  refine WPl.v rfl (o_geq rfl rfl) ?_
  refine WPl.v rfl (o_move rfl) ?_
  refine WPl.bit 0 1 (decide (lo ≤ n)) rfl rfl ?_
  refine WPl.gv 0 rfl rfl (.plain rfl Iff.rfl rfl) (fun hb => o_move rfl) ?_
  refine WPl.gv 0 rfl rfl (.plain rfl Iff.rfl rfl) (fun hb => o_move rfl) ?_
  refine WPl.gv 0 rfl rfl (.plain rfl Iff.rfl rfl) (fun hb => o_leq rfl rfl) ?_
  refine WPl.v rfl (o_and rfl rfl rfl id) ?_
  refine WPl.v rfl (o_assign rfl) ?_
  refine WPl.nil (EX.then (WP.ret ?_))
  exact EX.fin id (.inl rfl) rfl (.tmp rfl .nil) rfl r69 trivial (by simp) (by simp)
theorem w52 {n lo hi : Int} : ∀ x ∈ ([.i (n),.i (lo),.i (hi)] : List SV),x.res (keys (α := Pred) []) := by simp [SV.res,El.res,At.res,keys]
theorem r52 {n lo hi : Int} : SV.res (keys (α := Pred) []) (.b (within n lo hi)) := by simp [SV.res,El.res,At.res,keys]
set_option maxHeartbeats 4000000 in
theorem c52 (n lo hi : Int)  : Sig Try.prog 52 [.i (n),.i (lo),.i (hi)] [] (.b (within n lo hi)) [] := by
  refine Sig.intro Try.func52 rfl 0 [(0,.i (n)),(1,.i (lo)),(2,.i (hi))] rfl w52 rfl rfl fun I w => ?_
  refine WP.seq (WP.region ?_)
  refine WPl.v rfl (o_assign rfl) ?_
  refine WPl.nil (EX.then (WP.seq (WP.region ?_)))
  refine WPl.v rfl (o_move rfl) ?_
  refine WPl.v rfl (o_move rfl) ?_
  refine WPl.v rfl (o_geq rfl rfl) ?_
  refine WPl.v rfl (o_move rfl) ?_
  refine WPl.bit 0 1 (decide (lo ≤ n)) rfl rfl ?_
  refine WPl.gv 0 rfl rfl (.plain rfl Iff.rfl rfl) (fun hb => o_move rfl) ?_
  refine WPl.gv 0 rfl rfl (.plain rfl Iff.rfl rfl) (fun hb => o_move rfl) ?_
  refine WPl.gv 0 rfl rfl (.plain rfl Iff.rfl rfl) (fun hb => o_leq rfl rfl) ?_
  refine WPl.v rfl (o_and rfl rfl rfl id) ?_
  refine WPl.v rfl (o_assign rfl) ?_
  refine WPl.nil (EX.then (WP.ret ?_))
  exact EX.fin id (.inl rfl) rfl (.tmp rfl .nil) rfl r52 trivial (by simp) (by simp)
theorem w33 {l : List Int} {n : Int} : ∀ x ∈ ([.e (.a (.q 0)),.i (n)] : List SV),x.res (keys (α := Pred) [(0,PL EP.int (l))]) := by simp [SV.res,El.res,At.res,keys]
theorem r33 {l : List Int} {n : Int} : SV.res (keys (α := Pred) []) (.b (inL l n)) := by simp [SV.res,El.res,At.res,keys]
set_option maxHeartbeats 4000000 in
theorem c33 (l : List Int) (n : Int) (hl : l.length ≤ 1000000) : Sig Try.prog 33 [.e (.a (.q 0)),.i (n)] [(0,PL EP.int (l))] (.b (inL l n)) [] := by
  refine Sig.intro Try.func33 rfl 1 [(0,.e (.a (.q 0))),(1,.i (n))] rfl w33 rfl rfl fun I w => ?_
  refine WP.seq (WP.region ?_)
  refine WPl.v rfl (o_assign rfl) ?_
  refine WPl.nil (EX.then (WP.seq (WP.seq (WP.region ?_))))
  refine WPl.v rfl (o_assign rfl) ?_
  refine WPl.nil (EX.then (WP.block ?_))
  refine WP.loop (Gh := Nat) (fun i => ⟨1,[(0,.e (.a (.q 0))),(1,.i (n)),(4,.b (false)),(5,.i ((i : Int)))],[(0,PL EP.int (l))],[],[],[]⟩) (fun i => i ≤ l.length ∧ allI (fun j => !decide (nth l j = n)) i = true) (fun i => l.length - i) (0) id ?_ (LeR.of ⟨rfl,rfl,rfl,rfl,trivial⟩ ⟨(lx rfl),trivial⟩ trivial rfl rfl rfl rfl rfl) ?_
  · exact ⟨by omega,rfl⟩
  intro i hφ
  have hi : i ≤ l.length := hφ.1
  have hall := hφ.2
  refine WP.seq (WP.seq (WP.region ?_))
  refine WPl.v rfl (o_move rfl) ?_
  refine WPl.v rfl (o_move rfl) ?_
  refine WPl.v rfl (o_lenq L24 rfl (lx rfl)) ?_
  refine WPl.v rfl (o_lss rfl rfl) ?_
  refine WPl.nil (EX.then ?_)
  refine WP.cond rfl (fun hc1 => ?_) (fun hc1 => ?_)
  · try simp only [cnd] at hc1
    refine WP.skip (EX.then (WP.seq (WP.block (WP.seq (WP.region ?_)))))
    refine WPl.v rfl (o_move rfl) ?_
    refine WPl.v rfl (o_move rfl) ?_
    refine WPl.x 1 2 rfl rfl rfl (o_idx L24 rfl (lx rfl) rfl (by first | omega | (simp; omega)) (by first | omega | (simp; omega))) ?_
    refine WPl.v rfl (o_ldq S3 rfl (lx rfl) intc) ?_
    refine WPl.v rfl (o_move rfl) ?_
    refine WPl.v rfl (o_eql rfl rfl) ?_
    refine WPl.nil (EX.then ?_)
    refine WP.cond rfl (fun hc2 => ?_) (fun hc2 => ?_)
    · try simp only [cnd] at hc2
      refine WP.seq (WP.region ?_)
      refine WPl.v rfl (o_assign rfl) ?_
      refine WPl.nil (EX.then (WP.ret (EX.ret_blk (EX.ret_then (EX.ret_then (EX.ret_blk (EX.ret_then ?_)))))))
      rw [show inL l n = true from by simp only [inL,Bool.not_eq_true']; exact not_allI (show i < l.length by omega) (by simpa using hc2)]
      exact EX.fin id (.inl rfl) rfl (.tmp rfl .nil) rfl (by simp [SV.res,El.res,At.res,keys]) trivial (by simp) (by simp)
    · try simp only [cnd] at hc2
      refine WP.skip (EX.blk (EX.then (WP.region ?_)))
      refine WPl.v rfl (o_move rfl) ?_
      refine WPl.v rfl (o_add rfl rfl (by first | omega | (simp; omega)) (by first | omega | (simp; omega))) ?_
      refine WPl.v rfl (o_assign rfl) ?_
      refine WPl.nil ?_
      refine EX.again (i + 1) id (by exact ⟨by omega,by simp only [allI,hall,Bool.true_and]; simpa using hc2⟩) (by omega) (LeR.of ⟨rfl,rfl,rfl,rfl,trivial⟩ ⟨(lx rfl),trivial⟩ trivial rfl rfl rfl rfl rfl)
  · try simp only [cnd] at hc1
    refine WP.exit (EX.exit_then (EX.exit_then (EX.exit_blk (EX.then (WP.seq (WP.region ?_))))))
    refine WPl.v rfl (o_assign rfl) ?_
    refine WPl.nil (EX.then (WP.ret ?_))
    have he : i = l.length := by omega
    subst he
    rw [show inL l n = false from by simp only [inL,hall]; rfl]
    exact EX.fin id (.inl rfl) rfl (.tmp rfl .nil) rfl (by simp [SV.res,El.res,At.res,keys]) trivial (by simp) (by simp)
theorem w24 {l : List Int} {a b : Int} : ∀ x ∈ ([.e (.a (.q 0)),.i (a),.i (b)] : List SV),x.res (keys (α := Pred) [(0,PL EP.int (l))]) := by simp [SV.res,El.res,At.res,keys]
theorem r24 {l : List Int} {a b : Int} : SV.res (keys (α := Pred) []) (.b (rising l a b)) := by simp [SV.res,El.res,At.res,keys]
set_option maxHeartbeats 4000000 in
theorem c24 (l : List Int) (a b : Int) (hl : l.length ≤ 1000000) : Sig Try.prog 24 [.e (.a (.q 0)),.i (a),.i (b)] [(0,PL EP.int (l))] (.b (rising l a b)) [] := by
  refine Sig.intro Try.func24 rfl 1 [(0,.e (.a (.q 0))),(1,.i (a)),(2,.i (b))] rfl w24 rfl rfl fun I w => ?_
  refine WP.seq (WP.region ?_)
  refine WPl.v rfl (o_assign rfl) ?_
  refine WPl.nil (EX.then (WP.seq (WP.seq (WP.region ?_))))
  refine WPl.v rfl (o_assign rfl) ?_
  refine WPl.nil (EX.then (WP.block ?_))
  refine WP.loop (Gh := Nat) (fun i => ⟨1,[(0,.e (.a (.q 0))),(1,.i (a)),(2,.i (b)),(6,.b (false)),(7,.i ((i : Int)))],[(0,PL EP.int (l))],[],[],[]⟩) (fun i => i ≤ l.length ∧ allI (risingAt l a b) i = true) (fun i => l.length - i) (0) id ?_ (LeR.of ⟨rfl,rfl,rfl,rfl,rfl,trivial⟩ ⟨(lx rfl),trivial⟩ trivial rfl rfl rfl rfl rfl) ?_
  · exact ⟨by omega,rfl⟩
  intro i hφ
  have hi : i ≤ l.length := hφ.1
  have hall := hφ.2
  refine WP.seq (WP.seq (WP.region ?_))
  refine WPl.v rfl (o_move rfl) ?_
  refine WPl.v rfl (o_move rfl) ?_
  refine WPl.v rfl (o_lenq L24 rfl (lx rfl)) ?_
  refine WPl.v rfl (o_lss rfl rfl) ?_
  refine WPl.nil (EX.then ?_)
  refine WP.cond rfl (fun hc1 => ?_) (fun hc1 => ?_)
  · try simp only [cnd] at hc1
    refine WP.skip (EX.then (WP.seq (WP.block (WP.seq ?_))))
    refine WP.imp (Imp.bit 1 2 (!(!(within (nth l (i : Int)) a b))) rfl rfl) ?_
    refine WP.imp (Imp.bit 2 3 ((!(!(within (nth l (i : Int)) a b))) && (decide (0 < (i : Int)))) rfl rfl) ?_
    refine WP.draw (nf := 6) [⟨[15,18,19],[],[],[],[]⟩,⟨[14,18,19],[],[],[],[]⟩,⟨[18,19],[],[3],[3],[0,1]⟩,⟨[18,19],[],[],[],[0,1,2]⟩,⟨[14,15,16,17,19],[3],[],[],[]⟩,⟨[14,15,16,17,18],[3],[],[],[]⟩,⟨[],[],[],[],[0,1,2,3,4,5]⟩,⟨[],[],[],[],[0,1,2,3,4,5,6]⟩,⟨[],[],[],[],[0,1,2,3,4,5,6,7]⟩,⟨[],[],[],[],[0,1,2,3,4,5,6,7,8]⟩,⟨[],[],[],[],[0,1,2,3,4,5,6,7,8,9]⟩,⟨[],[],[],[],[0,1,2,3,4,5,6,7,8,9,10]⟩,⟨[27,30,31,32,33,34],[5],[],[],[0,1,2,3,4,5,6,7,8,9,10,11]⟩,⟨[26,30,31,32,33,34],[5],[],[],[0,1,2,3,4,5,6,7,8,9,10,11]⟩,⟨[30,31,32,33,34],[5],[4],[4],[0,1,2,3,4,5,6,7,8,9,10,11,12,13]⟩,⟨[30,31,32,33,34],[5],[],[],[0,1,2,3,4,5,6,7,8,9,10,11,12,13,14]⟩,⟨[26,27,28,29,31,32],[4],[],[],[0,1,2,3,4,5,6,7,8,9,10,11]⟩,⟨[26,27,28,29,30],[4],[],[],[0,1,2,3,4,5,6,7,8,9,10,11]⟩,⟨[26,27,28,29,30],[4],[],[],[0,1,2,3,4,5,6,7,8,9,10,11,17]⟩,⟨[26,27,28,29],[4],[5],[5],[0,1,2,3,4,5,6,7,8,9,10,11,16,17,18]⟩,⟨[26,27,28,29],[4],[],[],[0,1,2,3,4,5,6,7,8,9,10,11,16,17,18,19]⟩,⟨[],[],[],[],[0,1,2,3,4,5,6,7,8,9,10,11,12,13,14,15,16,17,18,19,20]⟩,⟨[],[],[],[],[0,1,2,3,4,5,6,7,8,9,10,11,12,13,14,15,16,17,18,19,20,21]⟩,⟨[],[],[],[],[0,1,2,3,4,5,6,7,8,9,10,11,12,13,14,15,16,17,18,19,20,21,22]⟩] (by kernel_rfl) (by kernel_rfl) ?_
    refine DRQ.v rfl rfl rfl (o_move rfl) ?_
    refine DRQ.v rfl rfl rfl (o_move rfl) ?_
    refine DRQ.x 3 rfl rfl rfl rfl (o_idx L24 rfl (lx rfl) rfl (by first | omega | (simp; omega)) (by first | omega | (simp; omega))) ?_
    refine DRQ.v rfl rfl rfl (o_ldq S3 rfl (lx rfl) intc) ?_
    refine DRQ.v rfl rfl rfl (o_move rfl) ?_
    refine DRQ.v rfl rfl rfl (o_move rfl) ?_
    refine DRQ.cs rfl rfl rfl rfl (o_sig 4 id (c49 (nth l (i : Int)) a b) e49 rfl rfl rfl w49 trivial r49) ?_
    refine DRQ.v rfl rfl rfl (o_not rfl) ?_
    refine DRQ.v rfl rfl rfl (o_move rfl) ?_
    refine DRQ.gv 1 rfl rfl (.plain rfl (by simp) rfl) rfl (fun hb => o_move rfl) ?_
    refine DRQ.gv 1 rfl rfl (.plain rfl (by simp) rfl) rfl (fun hb => o_gtr rfl rfl) ?_
    refine DRQ.gv 1 rfl rfl (.plain rfl (by simp) rfl) rfl (fun hb => o_move rfl) ?_
    refine DRQ.gv 2 rfl rfl (.nest rfl rfl (by simp) rfl) rfl (fun hb => o_move rfl) ?_
    refine DRQ.gv 2 rfl rfl (.nest rfl rfl (by simp) rfl) rfl (fun hb => o_move rfl) ?_
    refine DRQ.gx 2 4 rfl rfl (.nest rfl rfl (by simp) rfl) rfl rfl (fun hb => o_idx L24 rfl (lx rfl) rfl (by simp at hb; omega) (by simp at hb; omega)) ?_
    refine DRQ.gv 2 rfl rfl (.nest rfl rfl (by simp) rfl) rfl (fun hb => o_ldq S3 rfl (lxi hb rfl) intc) ?_
    refine DRQ.gv 2 rfl rfl (.nest rfl rfl (by simp) rfl) rfl (fun hb => o_move rfl) ?_
    refine DRQ.gv 2 rfl rfl (.nest rfl rfl (by simp) rfl) rfl (fun hb => o_move rfl) ?_
    refine DRQ.gv 2 rfl rfl (.nest rfl rfl (by simp) rfl) rfl (fun hb => o_sub rfl rfl (by simp at hb; omega) (by simp at hb; omega)) ?_
    refine DRQ.gx 2 5 rfl rfl (.nest rfl rfl (by simp) rfl) rfl rfl (fun hb => o_idx L24 rfl (lx rfl) rfl (by simp at hb; omega) (by simp at hb; omega)) ?_
    refine DRQ.gv 2 rfl rfl (.nest rfl rfl (by simp) rfl) rfl (fun hb => o_ldq S3 rfl (lxi hb rfl) intc) ?_
    refine DRQ.gv 2 rfl rfl (.nest rfl rfl (by simp) rfl) rfl (fun hb => o_leq rfl rfl) ?_
    refine DRQ.gv 1 rfl rfl (.plain rfl (by simp) rfl) rfl (fun hb => o_and rfl rfl rfl (by first | (simp; done) | exact fun h => Bool.and_eq_true_iff.2 ⟨hb,h⟩ | simp_all)) ?_
    refine DRQ.v rfl rfl rfl (o_or rfl rfl rfl (by first | (simp; done) | simp_all)) ?_
    refine DRQ.nil' ?_
    refine EX.then ?_
    refine WP.cond rfl (fun hc2 => ?_) (fun hc2 => ?_)
    · try simp only [cnd] at hc2
      refine WP.seq (WP.region ?_)
      refine WPl.v rfl (o_assign rfl) ?_
      refine WPl.nil (EX.then (WP.ret (EX.ret_blk (EX.ret_then (EX.ret_then (EX.ret_blk (EX.ret_then ?_)))))))
      rw [show rising l a b = false from by refine not_allI (show i < l.length by omega) ?_; simp only [risingAt,Bool.and_eq_false_iff,Bool.not_eq_false',Bool.and_eq_true,decide_eq_true_eq]; exact hc2]
      exact EX.fin id (.inl rfl) rfl (.tmp rfl .nil) rfl (by simp [SV.res,El.res,At.res,keys]) trivial (by simp) (by simp)
    · try simp only [cnd] at hc2
      refine WP.skip (EX.blk (EX.then (WP.region ?_)))
      refine WPl.v rfl (o_move rfl) ?_
      refine WPl.v rfl (o_add rfl rfl (by first | omega | (simp; omega)) (by first | omega | (simp; omega))) ?_
      refine WPl.v rfl (o_assign rfl) ?_
      refine WPl.nil ?_
      refine EX.again (i + 1) id (by exact ⟨by omega,by simp only [allI,hall,Bool.true_and,risingAt,Bool.and_eq_true,Bool.not_eq_true',Bool.and_eq_false_iff,decide_eq_false_iff_not]; exact hc2⟩) (by omega) (LeR.of ⟨rfl,rfl,rfl,rfl,rfl,trivial⟩ ⟨(lx rfl),trivial⟩ trivial rfl rfl rfl rfl rfl)
  · try simp only [cnd] at hc1
    refine WP.exit (EX.exit_then (EX.exit_then (EX.exit_blk (EX.then (WP.seq (WP.region ?_))))))
    refine WPl.v rfl (o_assign rfl) ?_
    refine WPl.nil (EX.then (WP.ret ?_))
    have he : i = l.length := by omega
    subst he
    rw [show rising l a b = true from hall]
    exact EX.fin id (.inl rfl) rfl (.tmp rfl .nil) rfl (by simp [SV.res,El.res,At.res,keys]) trivial (by simp) (by simp)
theorem w48 {h : Hall} {n : Int} : ∀ x ∈ ([.e (.g [.q 0,.q 1,.q 2,ai (h.change)]),.i (n)] : List SV),x.res (keys (α := Pred) [(0,PL ETm (h.machs)),(1,PL EBd (h.buns)),(2,PL EP.int (h.trains))]) := by simp [SV.res,El.res,At.res,keys]
theorem r48 {h : Hall} {n : Int} : SV.res (keys (α := Pred) []) (.b (within n 0 ((h.trains.length : Int) - 1))) := by simp [SV.res,El.res,At.res,keys]
set_option maxHeartbeats 4000000 in
theorem c48 (h : Hall) (n : Int) (hl : h.trains.length ≤ 1000) : Sig Try.prog 48 [.e (.g [.q 0,.q 1,.q 2,ai (h.change)]),.i (n)] [(0,PL ETm (h.machs)),(1,PL EBd (h.buns)),(2,PL EP.int (h.trains))] (.b (within n 0 ((h.trains.length : Int) - 1))) [] := by
  refine Sig.intro Try.func48 rfl 3 [(0,.e (.g [.q 0,.q 1,.q 2,ai (h.change)])),(1,.i (n))] rfl w48 rfl rfl fun I w => ?_
  refine WP.seq (WP.region ?_)
  refine WPl.l 3 4 rfl rfl rfl (o_boxg rfl) ?_
  refine WPl.v rfl (o_assign rfl) ?_
  refine WPl.nil (EX.then (WP.seq (WP.region ?_)))
  refine WPl.v rfl (o_move rfl) ?_
  refine WPl.v rfl (o_fldp F26_2 rfl) ?_
  refine WPl.v rfl (o_ldp S24 rfl rfl rfl) ?_
  refine WPl.v rfl (o_lenq L24 rfl (lx rfl)) ?_
  refine WPl.v rfl (o_sub rfl rfl (by first | omega | (simp; omega)) (by first | omega | (simp; omega))) ?_
  refine WPl.cs 4 rfl rfl rfl rfl (o_sig 4 id (c32 n 0 ((h.trains.length : Int) - 1)) e32 rfl rfl rfl w32 trivial r32) ?_
  refine WPl.v rfl (o_assign rfl) ?_
  refine WPl.nil (EX.then (WP.ret ?_))
  exact EX.fin id (.inl rfl) rfl (.tmp rfl .nil) rfl r48 trivial (by simp) (by simp)
theorem w59 {h : Hall} {n : Int} : ∀ x ∈ ([.e (.g [.q 0,.q 1,.q 2,ai (h.change)]),.i (n)] : List SV),x.res (keys (α := Pred) [(0,PL ETm (h.machs)),(1,PL EBd (h.buns)),(2,PL EP.int (h.trains))]) := by simp [SV.res,El.res,At.res,keys]
theorem r59 {h : Hall} {n : Int} : SV.res (keys (α := Pred) []) (.b (within n 0 ((h.trains.length : Int) - 1))) := by simp [SV.res,El.res,At.res,keys]
set_option maxHeartbeats 4000000 in
theorem c59 (h : Hall) (n : Int) (hl : h.trains.length ≤ 1000) : Sig Try.prog 59 [.e (.g [.q 0,.q 1,.q 2,ai (h.change)]),.i (n)] [(0,PL ETm (h.machs)),(1,PL EBd (h.buns)),(2,PL EP.int (h.trains))] (.b (within n 0 ((h.trains.length : Int) - 1))) [] := by
  refine Sig.intro Try.func59 rfl 3 [(0,.e (.g [.q 0,.q 1,.q 2,ai (h.change)])),(1,.i (n))] rfl w59 rfl rfl fun I w => ?_
  refine WP.seq (WP.region ?_)
  refine WPl.l 3 4 rfl rfl rfl (o_boxg rfl) ?_
  refine WPl.v rfl (o_assign rfl) ?_
  refine WPl.nil (EX.then (WP.seq (WP.region ?_)))
  refine WPl.v rfl (o_move rfl) ?_
  refine WPl.v rfl (o_fldp F26_2 rfl) ?_
  refine WPl.v rfl (o_ldp S24 rfl rfl rfl) ?_
  refine WPl.v rfl (o_lenq L24 rfl (lx rfl)) ?_
  refine WPl.v rfl (o_sub rfl rfl (by first | omega | (simp; omega)) (by first | omega | (simp; omega))) ?_
  refine WPl.cs 4 rfl rfl rfl rfl (o_sig 4 id (c52 n 0 ((h.trains.length : Int) - 1)) e52 rfl rfl rfl w52 trivial r52) ?_
  refine WPl.v rfl (o_assign rfl) ?_
  refine WPl.nil (EX.then (WP.ret ?_))
  exact EX.fin id (.inl rfl) rfl (.tmp rfl .nil) rfl r59 trivial (by simp) (by simp)
theorem w28 {p q : Int} : ∀ x ∈ ([.i (p),.i (q)] : List SV),x.res (keys (α := Pred) []) := by simp [SV.res,El.res,At.res,keys]
theorem r28 {p q : Int} : SV.res (keys (α := Pred) []) (.i (plc p q)) := by simp [SV.res,El.res,At.res,keys]
set_option maxHeartbeats 4000000 in
theorem c28 (p q : Int) (hp : -1000000 ≤ p ∧ p ≤ 1000000) (hq : -1000000 ≤ q ∧ q ≤ 1000000) : Sig Try.prog 28 [.i (p),.i (q)] [] (.i (plc p q)) [] := by
  refine Sig.intro Try.func28 rfl 0 [(0,.i (p)),(1,.i (q))] rfl w28 rfl rfl fun I w => ?_
  refine WP.seq (WP.region ?_)
  refine WPl.v rfl (o_assign rfl) ?_
  refine WPl.nil (EX.then (WP.seq (WP.region ?_)))
  refine WPl.v rfl (o_move rfl) ?_
  refine WPl.v rfl (o_mul rfl rfl (by first | omega | (simp; omega)) (by first | omega | (simp; omega))) ?_
  refine WPl.v rfl (o_move rfl) ?_
  refine WPl.v rfl (o_add rfl rfl (by first | omega | (simp; omega)) (by first | omega | (simp; omega))) ?_
  refine WPl.v rfl (o_assign rfl) ?_
  refine WPl.nil (EX.then (WP.ret ?_))
  exact EX.fin id (.inl rfl) rfl (.tmp rfl .nil) rfl r28 trivial (by simp) (by simp)
theorem w22 {h : Hall} : ∀ x ∈ ([.e (.g [.q 0,.q 1,.q 2,ai (h.change)])] : List SV),x.res (keys (α := Pred) [(0,PL ETm (h.machs)),(1,PL EBd (h.buns)),(2,PL EP.int (h.trains))]) := by simp [SV.res,El.res,At.res,keys]
theorem r22 {h : Hall} : SV.res (keys (α := Pred) []) (.i (errH h.house)) := by simp [SV.res,El.res,At.res,keys]
set_option maxHeartbeats 4000000 in
theorem c22 (h : Hall) (hm : h.Small) : Sig Try.prog 22 [.e (.g [.q 0,.q 1,.q 2,ai (h.change)])] [(0,PL ETm (h.machs)),(1,PL EBd (h.buns)),(2,PL EP.int (h.trains))] (.i (errH h.house)) [] := by
  have hm1 := hm.m
  have hm2 := hm.b
  have hm3 := hm.t
  refine Sig.intro Try.func22 rfl 3 [(0,.e (.g [.q 0,.q 1,.q 2,ai (h.change)]))] rfl w22 rfl rfl fun I w => ?_
  refine WP.seq (WP.region ?_)
  refine WPl.l 3 4 rfl rfl rfl (o_boxg rfl) ?_
  refine WPl.v rfl (o_assign rfl) ?_
  refine WPl.nil (EX.then (WP.seq (WP.seq (WP.region ?_))))
  refine WPl.v rfl (o_fldp F26_0 rfl) ?_
  refine WPl.v rfl (o_ldp S22 rfl rfl rfl) ?_
  refine WPl.v rfl (o_lenq L22 rfl (lx rfl)) ?_
  refine WPl.cs 4 rfl rfl rfl rfl (o_sig 4 id (c32 (h.machs.length : Int) 1 3) e32 rfl rfl rfl w32 trivial r32) ?_
  refine WPl.v rfl (o_not rfl) ?_
  refine WPl.v rfl (o_move rfl) ?_
  refine WPl.bit 4 5 (!(!(within (h.machs.length : Int) 1 3))) rfl rfl ?_
  refine WPl.gv 4 rfl rfl (.plain rfl (by first | (simp; done) | simp only [Bool.not_eq_true']) rfl) (fun hb => o_fldp F26_2 rfl) ?_
  refine WPl.gv 4 rfl rfl (.plain rfl (by first | (simp; done) | simp only [Bool.not_eq_true']) rfl) (fun hb => o_ldp S24 rfl rfl rfl) ?_
  refine WPl.gv 4 rfl rfl (.plain rfl (by first | (simp; done) | simp only [Bool.not_eq_true']) rfl) (fun hb => o_lenq L24 rfl (lx rfl)) ?_
  refine WPl.gv 4 rfl rfl (.plain rfl (by first | (simp; done) | simp only [Bool.not_eq_true']) rfl) (fun hb => o_gtr rfl rfl) ?_
  refine WPl.v rfl (o_or rfl rfl rfl (by first | (simp; done) | exact fun h => by rw [h]; rfl | exact fun h => Bool.and_eq_true_iff.2 ⟨hb,by rw [h]; rfl⟩ | simp_all)) ?_
  refine WPl.v rfl (o_move rfl) ?_
  refine WPl.bit 5 6 (!((!(within (h.machs.length : Int) 1 3)) || (decide (4 < (h.trains.length : Int))))) rfl rfl ?_
  refine WPl.gv 5 rfl rfl (.plain rfl (by first | (simp; done) | simp only [Bool.not_eq_true']) rfl) (fun hb => o_fldp F26_1 rfl) ?_
  refine WPl.gv 5 rfl rfl (.plain rfl (by first | (simp; done) | simp only [Bool.not_eq_true']) rfl) (fun hb => o_ldp S23 rfl rfl rfl) ?_
  refine WPl.gv 5 rfl rfl (.plain rfl (by first | (simp; done) | simp only [Bool.not_eq_true']) rfl) (fun hb => o_lenq L23 rfl (lx rfl)) ?_
  refine WPl.gv 5 rfl rfl (.plain rfl (by first | (simp; done) | simp only [Bool.not_eq_true']) rfl) (fun hb => o_gtr rfl rfl) ?_
  refine WPl.v rfl (o_or rfl rfl rfl (by first | (simp; done) | exact fun h => by rw [h]; rfl | exact fun h => Bool.and_eq_true_iff.2 ⟨hb,by rw [h]; rfl⟩ | simp_all)) ?_
  refine WPl.v rfl (o_move rfl) ?_
  refine WPl.bit 6 7 (!(((!(within (h.machs.length : Int) 1 3)) || (decide (4 < (h.trains.length : Int)))) || (decide (5 < (h.buns.length : Int))))) rfl rfl ?_
  refine WPl.gv 6 rfl rfl (.plain rfl (by first | (simp; done) | simp only [Bool.not_eq_true']) rfl) (fun hb => o_fldp F26_3 rfl) ?_
  refine WPl.gv 6 rfl rfl (.plain rfl (by first | (simp; done) | simp only [Bool.not_eq_true']) rfl) (fun hb => o_ldp S3 rfl rfl rfl) ?_
  refine WPl.gc0 6 rfl rfl (.plain rfl (by first | (simp; done) | simp only [Bool.not_eq_true']) rfl) (fun hb => o_sig 7 id (c32 h.change 0 9) e32 rfl rfl rfl w32 trivial r32) ?_
  refine WPl.gv 6 rfl rfl (.plain rfl (by first | (simp; done) | simp only [Bool.not_eq_true']) rfl) (fun hb => o_not rfl) ?_
  refine WPl.v rfl (o_or rfl rfl rfl (by first | (simp; done) | exact fun h => by rw [h]; rfl | exact fun h => Bool.and_eq_true_iff.2 ⟨hb,by rw [h]; rfl⟩ | simp_all)) ?_
  refine WPl.nil (EX.then ?_)
  refine WP.cond rfl (fun hc1 => ?_) (fun hc1 => ?_)
  · try simp only [cnd] at hc1
    refine WP.seq (WP.region ?_)
    refine WPl.v rfl (o_assign rfl) ?_
    refine WPl.nil (EX.then (WP.ret (EX.ret_then ?_)))
    rw [show errH h.house = 40 from by rw [show h.house = false from by unfold Hall.house; rw [show h.houseHd = false from by simp [Hall.houseHd,within] at hc1 ⊢; omega]; simp]; rfl]
    exact EX.fin id (.inl rfl) rfl (.tmp rfl .nil) rfl (by simp [SV.res,El.res,At.res,keys]) trivial (by simp) (by simp)
  · try simp only [cnd] at hc1
    have hhd : h.houseHd = true := by simp [Hall.houseHd,within] at hc1 ⊢; omega
    refine WP.skip (EX.then (WP.seq (WP.seq (WP.region ?_))))
    refine WPl.v rfl (o_assign rfl) ?_
    refine WPl.nil (EX.then (WP.block ?_))
    refine WP.loop (Gh := Nat) (fun i => ⟨7,[(1,.e (.a (.p 3 (0)))),(2,.i (0)),(3,.i ((i : Int)))],[(0,PL ETm (h.machs)),(1,PL EBd (h.buns)),(2,PL EP.int (h.trains))],[(3,.blk [.q 0,.q 1,.q 2,ai (h.change)] 26)],[],[]⟩) (fun i => i ≤ h.machs.length ∧ allI h.macOK i = true) (fun i => h.machs.length - i) (0) id ?_ (LeR.of ⟨rfl,rfl,rfl,trivial⟩ ⟨(lx rfl),(lx rfl),(lx rfl),trivial⟩ ⟨rfl,trivial⟩ rfl rfl rfl rfl rfl) ?_
    · exact ⟨by omega,rfl⟩
    intro i hφ
    have hi : i ≤ h.machs.length := hφ.1
    have hall := hφ.2
    refine WP.seq (WP.seq (WP.region ?_))
    refine WPl.v rfl (o_move rfl) ?_
    refine WPl.v rfl (o_fldp F26_0 rfl) ?_
    refine WPl.v rfl (o_ldp S22 rfl rfl rfl) ?_
    refine WPl.v rfl (o_lenq L22 rfl (lx rfl)) ?_
    refine WPl.v rfl (o_lss rfl rfl) ?_
    refine WPl.nil (EX.then ?_)
    refine WP.cond rfl (fun hc2 => ?_) (fun hc2 => ?_)
    · try simp only [cnd] at hc2
      refine WP.skip (EX.then (WP.seq (WP.block (WP.seq (WP.region ?_)))))
      refine WPl.v rfl (o_fldp F26_0 rfl) ?_
      refine WPl.v rfl (o_ldp S22 rfl rfl rfl) ?_
      refine WPl.v rfl (o_move rfl) ?_
      refine WPl.x 7 8 rfl rfl rfl (o_idx L22 rfl (lx rfl) rfl (by first | omega | (simp; omega)) (by first | omega | (simp; omega))) ?_
      refine WPl.v rfl (o_ldqg G68 rfl (lx rfl) (strG rfl) rfl rfl) ?_
      refine WPl.l 8 9 rfl rfl rfl (o_alloc Z68) ?_
      refine WPl.s1 (o_stag G68 rfl rfl rfl ⟨rfl,rfl,rfl,trivial⟩ rfl rfl) ?_
      refine WPl.nil (EX.then (WP.seq (WP.region ?_)))
      refine WPl.v rfl (o_fldp F68_0 rfl) ?_
      refine WPl.v rfl (o_ldp S3 rfl rfl rfl) ?_
      refine WPl.cs 9 rfl rfl rfl rfl (o_sig 9 id (c32 ((nth h.machs (i : Int)).ready) 0 99) e32 rfl rfl rfl w32 trivial r32) ?_
      refine WPl.v rfl (o_not rfl) ?_
      refine WPl.v rfl (o_move rfl) ?_
      refine WPl.bit 9 10 (!(!(within ((nth h.machs (i : Int)).ready) 0 99))) rfl rfl ?_
      refine WPl.gv 9 rfl rfl (.plain rfl (by first | (simp; done) | simp only [Bool.not_eq_true']) rfl) (fun hb => o_fldp F68_1 rfl) ?_
      refine WPl.gv 9 rfl rfl (.plain rfl (by first | (simp; done) | simp only [Bool.not_eq_true']) rfl) (fun hb => o_ldp S3 rfl rfl rfl) ?_
      refine WPl.gc0 9 rfl rfl (.plain rfl (by first | (simp; done) | simp only [Bool.not_eq_true']) rfl) (fun hb => o_sig 10 id (c32 ((nth h.machs (i : Int)).pace) 1 9) e32 rfl rfl rfl w32 trivial r32) ?_
      refine WPl.gv 9 rfl rfl (.plain rfl (by first | (simp; done) | simp only [Bool.not_eq_true']) rfl) (fun hb => o_not rfl) ?_
      refine WPl.v rfl (o_or rfl rfl rfl (by first | (simp; done) | exact fun h => by rw [h]; rfl | exact fun h => Bool.and_eq_true_iff.2 ⟨hb,by rw [h]; rfl⟩ | simp_all)) ?_
      refine WPl.v rfl (o_move rfl) ?_
      refine WPl.bit 10 11 (!((!(within ((nth h.machs (i : Int)).ready) 0 99)) || (!(within ((nth h.machs (i : Int)).pace) 1 9)))) rfl rfl ?_
      refine WPl.gv 10 rfl rfl (.plain rfl (by first | (simp; done) | simp only [Bool.not_eq_true']) rfl) (fun hb => o_fldp F68_2 rfl) ?_
      refine WPl.gv 10 rfl rfl (.plain rfl (by first | (simp; done) | simp only [Bool.not_eq_true']) rfl) (fun hb => o_ldp S3 rfl rfl rfl) ?_
      refine WPl.gc0 10 rfl rfl (.plain rfl (by first | (simp; done) | simp only [Bool.not_eq_true']) rfl) (fun hb => o_sig 11 id (c32 ((nth h.machs (i : Int)).stops) 0 1) e32 rfl rfl rfl w32 trivial r32) ?_
      refine WPl.gv 10 rfl rfl (.plain rfl (by first | (simp; done) | simp only [Bool.not_eq_true']) rfl) (fun hb => o_not rfl) ?_
      refine WPl.v rfl (o_or rfl rfl rfl (by first | (simp; done) | exact fun h => by rw [h]; rfl | exact fun h => Bool.and_eq_true_iff.2 ⟨hb,by rw [h]; rfl⟩ | simp_all)) ?_
      refine WPl.nil (EX.then ?_)
      refine WP.cond rfl (fun hc3 => ?_) (fun hc3 => ?_)
      · try simp only [cnd] at hc3
        refine WP.seq (WP.region ?_)
        refine WPl.v rfl (o_assign rfl) ?_
        refine WPl.nil (EX.then (WP.ret (EX.ret_blk (EX.ret_then (EX.ret_then (EX.ret_blk (EX.ret_then ?_)))))))
        rw [show errH h.house = 40 from by rw [show h.house = false from by unfold Hall.house; rw [show allI h.macOK h.machs.length = false from not_allI (show i < h.machs.length by omega) (by unfold Hall.macOK TM.chk; simp only [Bool.and_eq_false_iff]; exact hc3)]; simp]; rfl]
        exact EX.fin id (.inl rfl) rfl (.tmp rfl .nil) rfl (by simp [SV.res,El.res,At.res,keys]) trivial (by simp) (by simp)
      · try simp only [cnd] at hc3
        refine WP.skip (EX.blk (EX.then (WP.region ?_)))
        refine WPl.v rfl (o_move rfl) ?_
        refine WPl.v rfl (o_add rfl rfl (by first | omega | (simp; omega)) (by first | omega | (simp; omega))) ?_
        refine WPl.v rfl (o_assign rfl) ?_
        refine WPl.nil ?_
        refine EX.again (i + 1) id (by exact ⟨by omega,by simp only [allI,hall,Bool.true_and]; simpa [Hall.macOK,TM.chk,and_assoc] using hc3⟩) (by omega) (LeR.of ⟨rfl,rfl,rfl,trivial⟩ ⟨(lx rfl),(lx rfl),(lx rfl),trivial⟩ ⟨rfl,trivial⟩ rfl rfl rfl rfl rfl)
    · try simp only [cnd] at hc2
      have ha1 : allI h.macOK h.machs.length = true := by rw [show h.machs.length = i by omega]; exact hall
      refine WP.exit (EX.exit_then (EX.exit_then (EX.exit_blk (EX.then (WP.seq (WP.seq (WP.region ?_)))))))
      refine WPl.v rfl (o_assign rfl) ?_
      refine WPl.nil (EX.then (WP.block ?_))
      refine WP.loop (Gh := Nat) (fun i => ⟨7,[(1,.e (.a (.p 3 (0)))),(2,.i (0)),(5,.i ((i : Int)))],[(0,PL ETm (h.machs)),(1,PL EBd (h.buns)),(2,PL EP.int (h.trains))],[(3,.blk [.q 0,.q 1,.q 2,ai (h.change)] 26)],[],[]⟩) (fun i => i ≤ h.trains.length ∧ allI h.minOK i = true) (fun i => h.trains.length - i) (0) id ?_ (LeR.of ⟨rfl,rfl,rfl,trivial⟩ ⟨(lx rfl),(lx rfl),(lx rfl),trivial⟩ ⟨rfl,trivial⟩ rfl rfl rfl rfl rfl) ?_
      · exact ⟨by omega,rfl⟩
      intro i hφ
      have hi : i ≤ h.trains.length := hφ.1
      have hall := hφ.2
      refine WP.seq (WP.seq (WP.region ?_))
      refine WPl.v rfl (o_move rfl) ?_
      refine WPl.v rfl (o_fldp F26_2 rfl) ?_
      refine WPl.v rfl (o_ldp S24 rfl rfl rfl) ?_
      refine WPl.v rfl (o_lenq L24 rfl (lx rfl)) ?_
      refine WPl.v rfl (o_lss rfl rfl) ?_
      refine WPl.nil (EX.then ?_)
      refine WP.cond rfl (fun hc4 => ?_) (fun hc4 => ?_)
      · try simp only [cnd] at hc4
        refine WP.skip (EX.then (WP.seq (WP.block (WP.seq (WP.region ?_)))))
        refine WPl.v rfl (o_fldp F26_2 rfl) ?_
        refine WPl.v rfl (o_ldp S24 rfl rfl rfl) ?_
        refine WPl.v rfl (o_move rfl) ?_
        refine WPl.x 7 8 rfl rfl rfl (o_idx L24 rfl (lx rfl) rfl (by first | omega | (simp; omega)) (by first | omega | (simp; omega))) ?_
        refine WPl.v rfl (o_ldq S3 rfl (lx rfl) intc) ?_
        refine WPl.cs 8 rfl rfl rfl rfl (o_sig 8 id (c32 (nth h.trains (i : Int)) 0 99) e32 rfl rfl rfl w32 trivial r32) ?_
        refine WPl.v rfl (o_not rfl) ?_
        refine WPl.nil (EX.then ?_)
        refine WP.cond rfl (fun hc5 => ?_) (fun hc5 => ?_)
        · try simp only [cnd] at hc5
          refine WP.seq (WP.region ?_)
          refine WPl.v rfl (o_assign rfl) ?_
          refine WPl.nil (EX.then (WP.ret (EX.ret_blk (EX.ret_then (EX.ret_then (EX.ret_blk (EX.ret_then ?_)))))))
          rw [show errH h.house = 40 from by rw [show h.house = false from by unfold Hall.house; rw [show allI h.minOK h.trains.length = false from not_allI (show i < h.trains.length by omega) (by unfold Hall.minOK; exact hc5)]; simp]; rfl]
          exact EX.fin id (.inl rfl) rfl (.tmp rfl .nil) rfl (by simp [SV.res,El.res,At.res,keys]) trivial (by simp) (by simp)
        · try simp only [cnd] at hc5
          refine WP.skip (EX.blk (EX.then (WP.region ?_)))
          refine WPl.v rfl (o_move rfl) ?_
          refine WPl.v rfl (o_add rfl rfl (by first | omega | (simp; omega)) (by first | omega | (simp; omega))) ?_
          refine WPl.v rfl (o_assign rfl) ?_
          refine WPl.nil ?_
          refine EX.again (i + 1) id (by exact ⟨by omega,by simp only [allI,hall,Bool.true_and]; simpa [Hall.minOK] using hc5⟩) (by omega) (LeR.of ⟨rfl,rfl,rfl,trivial⟩ ⟨(lx rfl),(lx rfl),(lx rfl),trivial⟩ ⟨rfl,trivial⟩ rfl rfl rfl rfl rfl)
      · try simp only [cnd] at hc4
        have ha2 : allI h.minOK h.trains.length = true := by rw [show h.trains.length = i by omega]; exact hall
        refine WP.exit (EX.exit_then (EX.exit_then (EX.exit_blk (EX.then (WP.seq (WP.seq (WP.region ?_)))))))
        refine WPl.v rfl (o_assign rfl) ?_
        refine WPl.nil (EX.then (WP.block ?_))
        refine WP.loop (Gh := Nat) (fun i => ⟨7,[(1,.e (.a (.p 3 (0)))),(2,.i (0)),(6,.i ((i : Int)))],[(0,PL ETm (h.machs)),(1,PL EBd (h.buns)),(2,PL EP.int (h.trains))],[(3,.blk [.q 0,.q 1,.q 2,ai (h.change)] 26)],[],[]⟩) (fun i => i ≤ h.buns.length ∧ allI h.bunOK i = true) (fun i => h.buns.length - i) (0) id ?_ (LeR.of ⟨rfl,rfl,rfl,trivial⟩ ⟨(lx rfl),(lx rfl),(lx rfl),trivial⟩ ⟨rfl,trivial⟩ rfl rfl rfl rfl rfl) ?_
        · exact ⟨by omega,rfl⟩
        intro i hφ
        have hi : i ≤ h.buns.length := hφ.1
        have hall := hφ.2
        refine WP.seq (WP.seq (WP.region ?_))
        refine WPl.v rfl (o_move rfl) ?_
        refine WPl.v rfl (o_fldp F26_1 rfl) ?_
        refine WPl.v rfl (o_ldp S23 rfl rfl rfl) ?_
        refine WPl.v rfl (o_lenq L23 rfl (lx rfl)) ?_
        refine WPl.v rfl (o_lss rfl rfl) ?_
        refine WPl.nil (EX.then ?_)
        refine WP.cond rfl (fun hc6 => ?_) (fun hc6 => ?_)
        · try simp only [cnd] at hc6
          refine WP.skip (EX.then (WP.seq (WP.block (WP.seq (WP.region ?_)))))
          refine WPl.v rfl (o_fldp F26_1 rfl) ?_
          refine WPl.v rfl (o_ldp S23 rfl rfl rfl) ?_
          refine WPl.v rfl (o_move rfl) ?_
          refine WPl.x 7 8 rfl rfl rfl (o_idx L23 rfl (lx rfl) rfl (by first | omega | (simp; omega)) (by first | omega | (simp; omega))) ?_
          refine WPl.v rfl (o_ldqg G58 rfl (lx rfl) (strG rfl) rfl rfl) ?_
          refine WPl.l 8 9 rfl rfl rfl (o_alloc Z58) ?_
          refine WPl.s1 (o_stag G58 rfl rfl rfl ⟨rfl,rfl,rfl,trivial⟩ rfl rfl) ?_
          refine WPl.nil (EX.then (WP.seq (WP.region ?_)))
          refine WPl.v rfl (o_ldpa G26 rfl rfl rfl) ?_
          refine WPl.v rfl (o_fldp F58_0 rfl) ?_
          refine WPl.v rfl (o_ldp S3 rfl rfl rfl) ?_
          refine WPl.cs 9 rfl rfl rfl rfl (o_sig 9 (ren [(0,0),(1,1),(2,2)]) (c48 h ((nth h.buns (i : Int)).train) (by omega)) e48 rfl rfl rfl w48 ⟨(lx rfl),(lx rfl),(lx rfl),trivial⟩ r48) ?_
          refine WPl.v rfl (o_not rfl) ?_
          refine WPl.v rfl (o_move rfl) ?_
          refine WPl.bit 9 10 (!(!(within ((nth h.buns (i : Int)).train) 0 ((h.trains.length : Int) - 1)))) rfl rfl ?_
          refine WPl.gv 9 rfl rfl (.plain rfl (by first | (simp; done) | simp only [Bool.not_eq_true']) rfl) (fun hb => o_fldp F58_1 rfl) ?_
          refine WPl.gv 9 rfl rfl (.plain rfl (by first | (simp; done) | simp only [Bool.not_eq_true']) rfl) (fun hb => o_ldp S3 rfl rfl rfl) ?_
          refine WPl.gc0 9 rfl rfl (.plain rfl (by first | (simp; done) | simp only [Bool.not_eq_true']) rfl) (fun hb => o_sig 10 id (c32 ((nth h.buns (i : Int)).hundreds) 1 9) e32 rfl rfl rfl w32 trivial r32) ?_
          refine WPl.gv 9 rfl rfl (.plain rfl (by first | (simp; done) | simp only [Bool.not_eq_true']) rfl) (fun hb => o_not rfl) ?_
          refine WPl.v rfl (o_or rfl rfl rfl (by first | (simp; done) | exact fun h => by rw [h]; rfl | exact fun h => Bool.and_eq_true_iff.2 ⟨hb,by rw [h]; rfl⟩ | simp_all)) ?_
          refine WPl.v rfl (o_move rfl) ?_
          refine WPl.bit 10 11 (!((!(within ((nth h.buns (i : Int)).train) 0 ((h.trains.length : Int) - 1))) || (!(within ((nth h.buns (i : Int)).hundreds) 1 9)))) rfl rfl ?_
          refine WPl.gv 10 rfl rfl (.plain rfl (by first | (simp; done) | simp only [Bool.not_eq_true']) rfl) (fun hb => o_fldp F58_2 rfl) ?_
          refine WPl.gv 10 rfl rfl (.plain rfl (by first | (simp; done) | simp only [Bool.not_eq_true']) rfl) (fun hb => o_ldp S3 rfl rfl rfl) ?_
          refine WPl.gc0 10 rfl rfl (.plain rfl (by first | (simp; done) | simp only [Bool.not_eq_true']) rfl) (fun hb => o_sig 11 id (c32 ((nth h.buns (i : Int)).edition) 0 3) e32 rfl rfl rfl w32 trivial r32) ?_
          refine WPl.gv 10 rfl rfl (.plain rfl (by first | (simp; done) | simp only [Bool.not_eq_true']) rfl) (fun hb => o_not rfl) ?_
          refine WPl.v rfl (o_or rfl rfl rfl (by first | (simp; done) | exact fun h => by rw [h]; rfl | exact fun h => Bool.and_eq_true_iff.2 ⟨hb,by rw [h]; rfl⟩ | simp_all)) ?_
          refine WPl.nil (EX.then ?_)
          refine WP.cond rfl (fun hc7 => ?_) (fun hc7 => ?_)
          · try simp only [cnd] at hc7
            refine WP.seq (WP.region ?_)
            refine WPl.v rfl (o_assign rfl) ?_
            refine WPl.nil (EX.then (WP.ret (EX.ret_blk (EX.ret_then (EX.ret_then (EX.ret_blk (EX.ret_then ?_)))))))
            rw [show errH h.house = 40 from by rw [show h.house = false from by unfold Hall.house; rw [show allI h.bunOK h.buns.length = false from not_allI (show i < h.buns.length by omega) (by unfold Hall.bunOK TBd.chk; simp only [Bool.and_eq_false_iff]; exact hc7)]; simp]; rfl]
            exact EX.fin id (.inl rfl) rfl (.tmp rfl .nil) rfl (by simp [SV.res,El.res,At.res,keys]) trivial (by simp) (by simp)
          · try simp only [cnd] at hc7
            refine WP.skip (EX.blk (EX.then (WP.region ?_)))
            refine WPl.v rfl (o_move rfl) ?_
            refine WPl.v rfl (o_add rfl rfl (by first | omega | (simp; omega)) (by first | omega | (simp; omega))) ?_
            refine WPl.v rfl (o_assign rfl) ?_
            refine WPl.nil ?_
            refine EX.again (i + 1) id (by exact ⟨by omega,by simp only [allI,hall,Bool.true_and]; simpa [Hall.bunOK,TBd.chk,and_assoc] using hc7⟩) (by omega) (LeR.of ⟨rfl,rfl,rfl,trivial⟩ ⟨(lx rfl),(lx rfl),(lx rfl),trivial⟩ ⟨rfl,trivial⟩ rfl rfl rfl rfl rfl)
        · try simp only [cnd] at hc6
          refine WP.exit (EX.exit_then (EX.exit_then (EX.exit_blk (EX.then (WP.seq (WP.region ?_))))))
          refine WPl.v rfl (o_assign rfl) ?_
          refine WPl.nil (EX.then (WP.ret ?_))
          rw [show errH h.house = 0 from errH_eq.2 (by unfold Hall.house; rw [hhd,ha1,ha2,show allI h.bunOK h.buns.length = true from by rw [show h.buns.length = i by omega]; exact hall]; rfl)]
          exact EX.fin id (.inl rfl) rfl (.tmp rfl .nil) rfl (by simp [SV.res,El.res,At.res,keys]) trivial (by simp) (by simp)
theorem w15 {l : List Plate} : ∀ x ∈ ([.e (.a (.q 0))] : List SV),x.res (keys (α := Pred) [(0,PL EPl (l))]) := by simp [SV.res,El.res,At.res,keys]
theorem r15 {l : List Plate} : SV.res (keys (α := Pred) []) (.b (isSet l)) := by simp [SV.res,El.res,At.res,keys]
set_option maxHeartbeats 4000000 in
theorem c15 (l : List Plate) (hl : l.length ≤ 1000) : Sig Try.prog 15 [.e (.a (.q 0))] [(0,PL EPl (l))] (.b (isSet l)) [] := by
  refine Sig.intro Try.func15 rfl 1 [(0,.e (.a (.q 0)))] rfl w15 rfl rfl fun I w => ?_
  refine WP.seq (WP.region ?_)
  refine WPl.v rfl (o_assign rfl) ?_
  refine WPl.nil (EX.then (WP.seq (WP.seq (WP.region ?_))))
  refine WPl.v rfl (o_assign rfl) ?_
  refine WPl.nil (EX.then (WP.block ?_))
  refine WP.loop (Gh := Nat) (fun i => ⟨1,[(0,.e (.a (.q 0))),(2,.b (false)),(3,.i ((i : Int)))],[(0,PL EPl (l))],[],[],[]⟩) (fun i => i ≤ l.length ∧ allI (setAt l) i = true) (fun i => l.length - i) (0) id ?_ (LeR.of ⟨rfl,rfl,rfl,trivial⟩ ⟨(lx rfl),trivial⟩ trivial rfl rfl rfl rfl rfl) ?_
  · exact ⟨by omega,rfl⟩
  intro i hφ
  have hi : i ≤ l.length := hφ.1
  have hall := hφ.2
  refine WP.seq (WP.seq (WP.region ?_))
  refine WPl.v rfl (o_move rfl) ?_
  refine WPl.v rfl (o_move rfl) ?_
  refine WPl.v rfl (o_lenq L44 rfl (lx rfl)) ?_
  refine WPl.v rfl (o_lss rfl rfl) ?_
  refine WPl.nil (EX.then ?_)
  refine WP.cond rfl (fun hc1 => ?_) (fun hc1 => ?_)
  · try simp only [cnd] at hc1
    refine WP.skip (EX.then (WP.seq (WP.block (WP.seq (WP.region ?_)))))
    refine WPl.v rfl (o_move rfl) ?_
    refine WPl.v rfl (o_move rfl) ?_
    refine WPl.x 1 2 rfl rfl rfl (o_idx L44 rfl (lx rfl) rfl (by first | omega | (simp; omega)) (by first | omega | (simp; omega))) ?_
    refine WPl.v rfl (o_ldqg G66 rfl (lx rfl) (strG rfl) rfl rfl) ?_
    refine WPl.l 2 3 rfl rfl rfl (o_alloc Z66) ?_
    refine WPl.s1 (o_stag G66 rfl rfl rfl ⟨rfl,rfl,rfl,trivial⟩ rfl rfl) ?_
    refine WPl.nil (EX.then (WP.seq (WP.seq (WP.region ?_))))
    refine WPl.v rfl (o_fldp F66_0 rfl) ?_
    refine WPl.v rfl (o_ldp S3 rfl rfl rfl) ?_
    refine WPl.cs 3 rfl rfl rfl rfl (o_sig 3 id (c23 ((nth l (i : Int)).page) 0 3) e23 rfl rfl rfl w23 trivial r23) ?_
    refine WPl.v rfl (o_not rfl) ?_
    refine WPl.v rfl (o_move rfl) ?_
    refine WPl.bit 3 4 (!(!(within ((nth l (i : Int)).page) 0 3))) rfl rfl ?_
    refine WPl.gv 3 rfl rfl (.plain rfl (by first | (simp; done) | simp only [Bool.not_eq_true']) rfl) (fun hb => o_fldp F66_1 rfl) ?_
    refine WPl.gv 3 rfl rfl (.plain rfl (by first | (simp; done) | simp only [Bool.not_eq_true']) rfl) (fun hb => o_ldp S3 rfl rfl rfl) ?_
    refine WPl.gc0 3 rfl rfl (.plain rfl (by first | (simp; done) | simp only [Bool.not_eq_true']) rfl) (fun hb => o_sig 4 id (c23 ((nth l (i : Int)).bore) 0 2) e23 rfl rfl rfl w23 trivial r23) ?_
    refine WPl.gv 3 rfl rfl (.plain rfl (by first | (simp; done) | simp only [Bool.not_eq_true']) rfl) (fun hb => o_not rfl) ?_
    refine WPl.v rfl (o_or rfl rfl rfl (by first | (simp; done) | exact fun h => by rw [h]; rfl | exact fun h => Bool.and_eq_true_iff.2 ⟨hb,by rw [h]; rfl⟩ | simp_all)) ?_
    refine WPl.v rfl (o_move rfl) ?_
    refine WPl.bit 4 5 (!((!(within ((nth l (i : Int)).page) 0 3)) || (!(within ((nth l (i : Int)).bore) 0 2)))) rfl rfl ?_
    refine WPl.gv 4 rfl rfl (.plain rfl (by first | (simp; done) | simp only [Bool.not_eq_true']) rfl) (fun hb => o_fldp F66_2 rfl) ?_
    refine WPl.gv 4 rfl rfl (.plain rfl (by first | (simp; done) | simp only [Bool.not_eq_true']) rfl) (fun hb => o_ldp S3 rfl rfl rfl) ?_
    refine WPl.gc0 4 rfl rfl (.plain rfl (by first | (simp; done) | simp only [Bool.not_eq_true']) rfl) (fun hb => o_sig 5 id (c23 ((nth l (i : Int)).many) 1 9) e23 rfl rfl rfl w23 trivial r23) ?_
    refine WPl.gv 4 rfl rfl (.plain rfl (by first | (simp; done) | simp only [Bool.not_eq_true']) rfl) (fun hb => o_not rfl) ?_
    refine WPl.v rfl (o_or rfl rfl rfl (by first | (simp; done) | exact fun h => by rw [h]; rfl | exact fun h => Bool.and_eq_true_iff.2 ⟨hb,by rw [h]; rfl⟩ | simp_all)) ?_
    refine WPl.nil (EX.then ?_)
    refine WP.cond rfl (fun hc2 => ?_) (fun hc2 => ?_)
    · try simp only [cnd] at hc2
      refine WP.seq (WP.region ?_)
      refine WPl.v rfl (o_assign rfl) ?_
      refine WPl.nil (EX.then (WP.ret (EX.ret_then (EX.ret_blk (EX.ret_then (EX.ret_then (EX.ret_blk (EX.ret_then ?_))))))))
      rw [show isSet l = false from not_allI (show i < l.length by omega) (by unfold setAt; rw [show (nth l (i : Int)).chk = false from by unfold Plate.chk; simp only [Bool.and_eq_false_iff]; exact hc2]; rfl)]
      exact EX.fin id (.inl rfl) rfl (.tmp rfl .nil) rfl (by simp [SV.res,El.res,At.res,keys]) trivial (by simp) (by simp)
    · try simp only [cnd] at hc2
      have hpk : (nth l (i : Int)).chk = true := by simp only [Plate.chk,Bool.and_eq_true]; exact hc2
      have hpb := Plate.bnds hpk
      refine WP.skip (EX.then (WP.seq ?_))
      refine WP.imp (Imp.bit 5 6 (decide (0 < (i : Int))) rfl rfl) ?_
      refine WP.draw (nf := 8) [⟨[],[],[],[],[]⟩,⟨[],[],[],[],[0]⟩,⟨[],[],[],[],[0,1]⟩,⟨[36,37,39,40,41,42,43,44,45,46,47,48,49,50],[6,7],[],[],[0,1,2]⟩,⟨[36,37,39,40,41,42,43,44,45,46,47,48,49,50],[6,7],[],[],[0,1,2,3]⟩,⟨[34,35,39,40,41,42,43,44,45,46,47,48,49,50],[6,7],[],[],[0,1,2]⟩,⟨[34,35,39,40,41,42,43,44,45,46,47,48,49,50],[6,7],[],[],[0,1,2,5]⟩,⟨[39,40,41,42,43,44,45,46,47,48,49,50],[6,7],[],[],[0,1,2,3,4,5,6]⟩,⟨[34,35,36,37,38,40,41,45,46,47,48,49,50],[7],[],[],[0,1,2]⟩,⟨[34,35,36,37,38,39,45,46,47,48,49,50],[7],[],[],[0,1,2]⟩,⟨[34,35,36,37,38,39,45,46,47,48,49,50],[7],[],[],[0,1,2,9]⟩,⟨[34,35,36,37,38,45,46,47,48,49,50],[7],[6],[6],[0,1,2,8,9,10]⟩,⟨[34,35,36,37,38,45,46,47,48,49,50],[7],[],[],[0,1,2,8,9,10,11]⟩,⟨[34,35,36,37,38,45,46,47,48,49,50],[7],[],[],[0,1,2,8,9,10,11,12]⟩,⟨[34,35,36,37,38,39,40,41,42,43,44,46,47],[6],[],[],[0,1,2]⟩,⟨[34,35,36,37,38,39,40,41,42,43,44,45],[6],[],[],[0,1,2]⟩,⟨[34,35,36,37,38,39,40,41,42,43,44,45],[6],[],[],[0,1,2,15]⟩,⟨[34,35,36,37,38,39,40,41,42,43,44],[6],[7],[7],[0,1,2,14,15,16]⟩,⟨[34,35,36,37,38,39,40,41,42,43,44],[6],[],[],[0,1,2,14,15,16,17]⟩,⟨[34,35,36,37,38,39,40,41,42,43,44],[6],[],[],[0,1,2,14,15,16,17,18]⟩,⟨[],[],[],[],[0,1,2,3,4,5,6,7,8,9,10,11,12,13,14,15,16,17,18,19]⟩,⟨[],[],[],[],[0,1,2,3,4,5,6,7,8,9,10,11,12,13,14,15,16,17,18,19,20]⟩,⟨[],[],[],[],[0,1,2,3,4,5,6,7,8,9,10,11,12,13,14,15,16,17,18,19,20,21]⟩] (by kernel_rfl) (by kernel_rfl) ?_
      have hprev : 0 < (i : Int) → -1000000 ≤ (nth l ((i : Int) - 1)).page ∧ (nth l ((i : Int) - 1)).page ≤ 1000000 ∧ -1000000 ≤ (nth l ((i : Int) - 1)).bore ∧ (nth l ((i : Int) - 1)).bore ≤ 1000000 := fun h0 => by
        have := setAt_chk hall (show i - 1 < i by omega)
        rw [show ((i - 1 : Nat) : Int) = (i : Int) - 1 by omega] at this
        have := Plate.bnds this
        omega
      refine DRQ.v rfl rfl rfl (o_move rfl) ?_
      refine DRQ.v rfl rfl rfl (o_gtr rfl rfl) ?_
      refine DRQ.v rfl rfl rfl (o_move rfl) ?_
      refine DRQ.gv 5 rfl rfl (.plain rfl Iff.rfl rfl) rfl (fun hb => o_fldp F66_0 rfl) ?_
      refine DRQ.gv 5 rfl rfl (.plain rfl Iff.rfl rfl) rfl (fun hb => o_ldp S3 rfl rfl rfl) ?_
      refine DRQ.gv 5 rfl rfl (.plain rfl Iff.rfl rfl) rfl (fun hb => o_fldp F66_1 rfl) ?_
      refine DRQ.gv 5 rfl rfl (.plain rfl Iff.rfl rfl) rfl (fun hb => o_ldp S3 rfl rfl rfl) ?_
      refine DRQ.gv 5 rfl rfl (.plain rfl Iff.rfl rfl) rfl (fun hb => o_sig 6 id (c28 ((nth l (i : Int)).page) ((nth l (i : Int)).bore) (by omega) (by omega)) e28 rfl rfl rfl w28 trivial r28) ?_
      refine DRQ.gv 5 rfl rfl (.plain rfl Iff.rfl rfl) rfl (fun hb => o_move rfl) ?_
      refine DRQ.gv 5 rfl rfl (.plain rfl Iff.rfl rfl) rfl (fun hb => o_move rfl) ?_
      refine DRQ.gv 5 rfl rfl (.plain rfl Iff.rfl rfl) rfl (fun hb => o_sub rfl rfl (by simp at hb; omega) (by simp at hb; omega)) ?_
      refine DRQ.gx 5 6 rfl rfl (.plain rfl Iff.rfl rfl) rfl rfl (fun hb => o_idx L44 rfl (lx rfl) rfl (by simp at hb; omega) (by simp at hb; omega)) ?_
      refine DRQ.gv 5 rfl rfl (.plain rfl Iff.rfl rfl) rfl (fun hb => o_fldq F66_0 rfl (lxi hb rfl)) ?_
      refine DRQ.gv 5 rfl rfl (.plain rfl Iff.rfl rfl) rfl (fun hb => o_lde S3 rfl (lxi hb rfl) (strI rfl)) ?_
      refine DRQ.gv 5 rfl rfl (.plain rfl Iff.rfl rfl) rfl (fun hb => o_move rfl) ?_
      refine DRQ.gv 5 rfl rfl (.plain rfl Iff.rfl rfl) rfl (fun hb => o_move rfl) ?_
      refine DRQ.gv 5 rfl rfl (.plain rfl Iff.rfl rfl) rfl (fun hb => o_sub rfl rfl (by simp at hb; omega) (by simp at hb; omega)) ?_
      refine DRQ.gx 5 7 rfl rfl (.plain rfl Iff.rfl rfl) rfl rfl (fun hb => o_idx L44 rfl (lx rfl) rfl (by simp at hb; omega) (by simp at hb; omega)) ?_
      refine DRQ.gv 5 rfl rfl (.plain rfl Iff.rfl rfl) rfl (fun hb => o_fldq F66_1 rfl (lxi hb rfl)) ?_
      refine DRQ.gv 5 rfl rfl (.plain rfl Iff.rfl rfl) rfl (fun hb => o_lde S3 rfl (lxi hb rfl) (strI rfl)) ?_
      refine DRQ.gv 5 rfl rfl (.plain rfl Iff.rfl rfl) rfl (fun hb => o_sig 8 id (c28 ((nth l ((i : Int) - 1)).page) ((nth l ((i : Int) - 1)).bore) (by have := hprev (by simpa using hb); omega) (by have := hprev (by simpa using hb); omega)) e28 rfl rfl rfl w28 trivial r28) ?_
      refine DRQ.gv 5 rfl rfl (.plain rfl Iff.rfl rfl) rfl (fun hb => o_leq rfl rfl) ?_
      refine DRQ.v rfl rfl rfl (o_and rfl rfl rfl id) ?_
      refine DRQ.nil' ?_
      refine EX.then ?_
      refine WP.cond rfl (fun hc3 => ?_) (fun hc3 => ?_)
      · try simp only [cnd] at hc3
        refine WP.seq (WP.region ?_)
        refine WPl.v rfl (o_assign rfl) ?_
        refine WPl.nil (EX.then (WP.ret (EX.ret_blk (EX.ret_then (EX.ret_then (EX.ret_blk (EX.ret_then ?_)))))))
        rw [show isSet l = false from not_allI (show i < l.length by omega) (by unfold setAt; rw [hpk,Bool.true_and]; simp only [Bool.not_eq_false',Bool.and_eq_true,decide_eq_true_eq]; exact hc3)]
        exact EX.fin id (.inl rfl) rfl (.tmp rfl .nil) rfl (by simp [SV.res,El.res,At.res,keys]) trivial (by simp) (by simp)
      · try simp only [cnd] at hc3
        refine WP.skip (EX.blk (EX.then (WP.region ?_)))
        refine WPl.v rfl (o_move rfl) ?_
        refine WPl.v rfl (o_add rfl rfl (by first | omega | (simp; omega)) (by first | omega | (simp; omega))) ?_
        refine WPl.v rfl (o_assign rfl) ?_
        refine WPl.nil ?_
        refine EX.again (i + 1) id (by exact ⟨by omega,by simp only [allI,hall,Bool.true_and]; unfold setAt; rw [hpk,Bool.true_and]; simp only [Bool.not_eq_true',Bool.and_eq_false_iff,decide_eq_false_iff_not]; exact hc3⟩) (by omega) (LeR.of ⟨rfl,rfl,rfl,trivial⟩ ⟨(lx rfl),trivial⟩ trivial rfl rfl rfl rfl rfl)
  · try simp only [cnd] at hc1
    refine WP.exit (EX.exit_then (EX.exit_then (EX.exit_blk (EX.then (WP.seq (WP.region ?_))))))
    refine WPl.v rfl (o_assign rfl) ?_
    refine WPl.nil (EX.then (WP.ret ?_))
    have he : i = l.length := by omega
    subst he
    rw [show isSet l = true from hall]
    exact EX.fin id (.inl rfl) rfl (.tmp rfl .nil) rfl (by simp [SV.res,El.res,At.res,keys]) trivial (by simp) (by simp)
theorem w5 {h : Hall} : ∀ x ∈ ([.e (.g [.q 0,.q 1,.q 2,ai (h.change),.q 3,.q 4])] : List SV),x.res (keys (α := Pred) [(0,PL ETm (h.machs)),(1,PL EBd (h.buns)),(2,PL EP.int (h.trains)),(3,PL EP.int (h.bores)),(4,PL (EP.sl EP.int) (h.eds))]) := by simp [SV.res,El.res,At.res,keys]
theorem r5 {h : Hall} : SV.res (keys (α := Pred) []) (.i (errL h.chk)) := by simp [SV.res,El.res,At.res,keys]
set_option maxHeartbeats 4000000 in
theorem c5 (h : Hall) (hm : h.Small) : Sig Try.prog 5 [.e (.g [.q 0,.q 1,.q 2,ai (h.change),.q 3,.q 4])] [(0,PL ETm (h.machs)),(1,PL EBd (h.buns)),(2,PL EP.int (h.trains)),(3,PL EP.int (h.bores)),(4,PL (EP.sl EP.int) (h.eds))] (.i (errL h.chk)) [] := by
  have hm1 := hm.m
  have hm2 := hm.b
  have hm3 := hm.t
  have hm4 := hm.o
  have hm5 := hm.e
  have hm6 := hm.p
  refine Sig.intro Try.func5 rfl 5 [(0,.e (.g [.q 0,.q 1,.q 2,ai (h.change),.q 3,.q 4]))] rfl w5 rfl rfl fun I w => ?_
  refine WP.seq (WP.region ?_)
  refine WPl.l 5 6 rfl rfl rfl (o_boxg rfl) ?_
  refine WPl.v rfl (o_assign rfl) ?_
  refine WPl.nil (EX.then (WP.seq (WP.seq (WP.region ?_))))
  refine WPl.v rfl (o_fldp F29_0 rfl) ?_
  refine WPl.v rfl (o_ldpg G26 rfl rfl rfl) ?_
  refine WPl.cs 6 rfl rfl rfl rfl (o_sig 6 (ren [(0,0),(1,1),(2,2)]) (c22 h hm) e22 rfl rfl rfl w22 ⟨(lx rfl),(lx rfl),(lx rfl),trivial⟩ r22) ?_
  refine WPl.v rfl (o_neq rfl rfl) ?_
  refine WPl.v rfl (o_move rfl) ?_
  refine WPl.bit 6 7 (!(decide ((errH h.house) ≠ 0))) rfl rfl ?_
  refine WPl.gv 6 rfl rfl (.plain rfl (by first | (simp; done) | simp only [Bool.not_eq_true']) rfl) (fun hb => o_fldp F29_1 rfl) ?_
  refine WPl.gv 6 rfl rfl (.plain rfl (by first | (simp; done) | simp only [Bool.not_eq_true']) rfl) (fun hb => o_ldp S24 rfl rfl rfl) ?_
  refine WPl.gv 6 rfl rfl (.plain rfl (by first | (simp; done) | simp only [Bool.not_eq_true']) rfl) (fun hb => o_lenq L24 rfl (lx rfl)) ?_
  refine WPl.gv 6 rfl rfl (.plain rfl (by first | (simp; done) | simp only [Bool.not_eq_true']) rfl) (fun hb => o_fldp F29_0 rfl) ?_
  refine WPl.gv 6 rfl rfl (.plain rfl (by first | (simp; done) | simp only [Bool.not_eq_true']) rfl) (fun hb => o_fldp F26_0 rfl) ?_
  refine WPl.gv 6 rfl rfl (.plain rfl (by first | (simp; done) | simp only [Bool.not_eq_true']) rfl) (fun hb => o_ldp S22 rfl rfl rfl) ?_
  refine WPl.gv 6 rfl rfl (.plain rfl (by first | (simp; done) | simp only [Bool.not_eq_true']) rfl) (fun hb => o_lenq L22 rfl (lx rfl)) ?_
  refine WPl.gv 6 rfl rfl (.plain rfl (by first | (simp; done) | simp only [Bool.not_eq_true']) rfl) (fun hb => o_neq rfl rfl) ?_
  refine WPl.v rfl (o_or rfl rfl rfl (by first | (simp; done) | exact fun h => by rw [h]; rfl | exact fun h => Bool.and_eq_true_iff.2 ⟨hb,by rw [h]; rfl⟩ | simp_all)) ?_
  refine WPl.v rfl (o_move rfl) ?_
  refine WPl.bit 7 8 (!((decide ((errH h.house) ≠ 0)) || (decide ((h.bores.length : Int) ≠ (h.machs.length : Int))))) rfl rfl ?_
  refine WPl.gv 7 rfl rfl (.plain rfl (by first | (simp; done) | simp only [Bool.not_eq_true']) rfl) (fun hb => o_fldp F29_2 rfl) ?_
  refine WPl.gv 7 rfl rfl (.plain rfl (by first | (simp; done) | simp only [Bool.not_eq_true']) rfl) (fun hb => o_ldp S27 rfl rfl rfl) ?_
  refine WPl.gv 7 rfl rfl (.plain rfl (by first | (simp; done) | simp only [Bool.not_eq_true']) rfl) (fun hb => o_lenq L27 rfl (lx rfl)) ?_
  refine WPl.gv 7 rfl rfl (.plain rfl (by first | (simp; done) | simp only [Bool.not_eq_true']) rfl) (fun hb => o_gtr rfl rfl) ?_
  refine WPl.v rfl (o_or rfl rfl rfl (by first | (simp; done) | exact fun h => by rw [h]; rfl | exact fun h => Bool.and_eq_true_iff.2 ⟨hb,by rw [h]; rfl⟩ | simp_all)) ?_
  refine WPl.nil (EX.then ?_)
  refine WP.cond rfl (fun hc1 => ?_) (fun hc1 => ?_)
  · try simp only [cnd] at hc1
    refine WP.seq (WP.region ?_)
    refine WPl.v rfl (o_assign rfl) ?_
    refine WPl.nil (EX.then (WP.ret (EX.ret_then ?_)))
    rw [show errL h.chk = 90 from by rw [show h.chk = false from by unfold Hall.chk; rw [show h.hallHd = false from hallHd_false hc1]; simp]; rfl]
    exact EX.fin id (.inl rfl) rfl (.tmp rfl .nil) rfl (by simp [SV.res,El.res,At.res,keys]) trivial (by simp) (by simp)
  · try simp only [cnd] at hc1
    have hhd : h.hallHd = true := by
      unfold Hall.hallHd
      have he := errH_eq.1 hc1.1.1
      rw [he]
      simp
      omega
    refine WP.skip (EX.then (WP.seq (WP.seq (WP.region ?_))))
    refine WPl.v rfl (o_assign rfl) ?_
    refine WPl.nil (EX.then (WP.block ?_))
    refine WP.loop (Gh := Nat) (fun i => ⟨8,[(1,.e (.a (.p 5 (0)))),(2,.i (0)),(3,.i ((i : Int)))],[(0,PL ETm (h.machs)),(1,PL EBd (h.buns)),(2,PL EP.int (h.trains)),(3,PL EP.int (h.bores)),(4,PL (EP.sl EP.int) (h.eds))],[(5,.blk [.q 0,.q 1,.q 2,ai (h.change),.q 3,.q 4] 29)],[],[]⟩) (fun i => i ≤ h.bores.length ∧ allI h.borOK i = true) (fun i => h.bores.length - i) (0) id ?_ (LeR.of ⟨rfl,rfl,rfl,trivial⟩ ⟨(lx rfl),(lx rfl),(lx rfl),(lx rfl),(lx rfl),trivial⟩ ⟨rfl,trivial⟩ rfl rfl rfl rfl rfl) ?_
    · exact ⟨by omega,rfl⟩
    intro i hφ
    have hi : i ≤ h.bores.length := hφ.1
    have hall := hφ.2
    refine WP.seq (WP.seq (WP.region ?_))
    refine WPl.v rfl (o_move rfl) ?_
    refine WPl.v rfl (o_fldp F29_1 rfl) ?_
    refine WPl.v rfl (o_ldp S24 rfl rfl rfl) ?_
    refine WPl.v rfl (o_lenq L24 rfl (lx rfl)) ?_
    refine WPl.v rfl (o_lss rfl rfl) ?_
    refine WPl.nil (EX.then ?_)
    refine WP.cond rfl (fun hc2 => ?_) (fun hc2 => ?_)
    · try simp only [cnd] at hc2
      refine WP.skip (EX.then (WP.seq (WP.block (WP.seq (WP.region ?_)))))
      refine WPl.v rfl (o_fldp F29_1 rfl) ?_
      refine WPl.v rfl (o_ldp S24 rfl rfl rfl) ?_
      refine WPl.v rfl (o_move rfl) ?_
      refine WPl.x 8 9 rfl rfl rfl (o_idx L24 rfl (lx rfl) rfl (by first | omega | (simp; omega)) (by first | omega | (simp; omega))) ?_
      refine WPl.v rfl (o_ldq S3 rfl (lx rfl) intc) ?_
      refine WPl.cs 9 rfl rfl rfl rfl (o_sig 9 id (c23 (nth h.bores (i : Int)) 0 2) e23 rfl rfl rfl w23 trivial r23) ?_
      refine WPl.v rfl (o_not rfl) ?_
      refine WPl.nil (EX.then ?_)
      refine WP.cond rfl (fun hc3 => ?_) (fun hc3 => ?_)
      · try simp only [cnd] at hc3
        refine WP.seq (WP.region ?_)
        refine WPl.v rfl (o_assign rfl) ?_
        refine WPl.nil (EX.then (WP.ret (EX.ret_blk (EX.ret_then (EX.ret_then (EX.ret_blk (EX.ret_then ?_)))))))
        rw [show errL h.chk = 90 from by rw [show h.chk = false from by unfold Hall.chk; rw [show allI h.borOK h.bores.length = false from not_allI (show i < h.bores.length by omega) (by unfold Hall.borOK; exact hc3)]; simp]; rfl]
        exact EX.fin id (.inl rfl) rfl (.tmp rfl .nil) rfl (by simp [SV.res,El.res,At.res,keys]) trivial (by simp) (by simp)
      · try simp only [cnd] at hc3
        refine WP.skip (EX.blk (EX.then (WP.region ?_)))
        refine WPl.v rfl (o_move rfl) ?_
        refine WPl.v rfl (o_add rfl rfl (by first | omega | (simp; omega)) (by first | omega | (simp; omega))) ?_
        refine WPl.v rfl (o_assign rfl) ?_
        refine WPl.nil ?_
        refine EX.again (i + 1) id (by exact ⟨by omega,by simp only [allI,hall,Bool.true_and]; simpa [Hall.borOK] using hc3⟩) (by omega) (LeR.of ⟨rfl,rfl,rfl,trivial⟩ ⟨(lx rfl),(lx rfl),(lx rfl),(lx rfl),(lx rfl),trivial⟩ ⟨rfl,trivial⟩ rfl rfl rfl rfl rfl)
    · try simp only [cnd] at hc2
      have ha1 : allI h.borOK h.bores.length = true := by rw [show h.bores.length = i by omega]; exact hall
      refine WP.exit (EX.exit_then (EX.exit_then (EX.exit_blk (EX.then (WP.seq (WP.seq (WP.region ?_)))))))
      refine WPl.v rfl (o_assign rfl) ?_
      refine WPl.nil (EX.then (WP.block ?_))
      refine WP.loop (Gh := Nat) (fun i => ⟨8,[(1,.e (.a (.p 5 (0)))),(2,.i (0)),(4,.i ((i : Int)))],[(0,PL ETm (h.machs)),(1,PL EBd (h.buns)),(2,PL EP.int (h.trains)),(3,PL EP.int (h.bores)),(4,PL (EP.sl EP.int) (h.eds))],[(5,.blk [.q 0,.q 1,.q 2,ai (h.change),.q 3,.q 4] 29)],[],[]⟩) (fun i => i ≤ h.eds.length ∧ allI h.edOK i = true) (fun i => h.eds.length - i) (0) id ?_ (LeR.of ⟨rfl,rfl,rfl,trivial⟩ ⟨(lx rfl),(lx rfl),(lx rfl),(lx rfl),(lx rfl),trivial⟩ ⟨rfl,trivial⟩ rfl rfl rfl rfl rfl) ?_
      · exact ⟨by omega,rfl⟩
      intro i hφ
      have hi : i ≤ h.eds.length := hφ.1
      have hall := hφ.2
      refine WP.seq (WP.seq (WP.region ?_))
      refine WPl.v rfl (o_move rfl) ?_
      refine WPl.v rfl (o_fldp F29_2 rfl) ?_
      refine WPl.v rfl (o_ldp S27 rfl rfl rfl) ?_
      refine WPl.v rfl (o_lenq L27 rfl (lx rfl)) ?_
      refine WPl.v rfl (o_lss rfl rfl) ?_
      refine WPl.nil (EX.then ?_)
      refine WP.cond rfl (fun hc4 => ?_) (fun hc4 => ?_)
      · try simp only [cnd] at hc4
        refine WP.skip (EX.then (WP.seq (WP.block (WP.seq (WP.region ?_)))))
        refine WPl.v rfl (o_fldp F29_2 rfl) ?_
        refine WPl.v rfl (o_ldp S27 rfl rfl rfl) ?_
        refine WPl.v rfl (o_move rfl) ?_
        refine WPl.x 8 9 rfl rfl rfl (o_idx L27 rfl (lx rfl) rfl (by first | omega | (simp; omega)) (by first | omega | (simp; omega))) ?_
        refine WPl.x 9 10 rfl rfl rfl (o_ldqx S24 rfl (lx rfl) slx) ?_
        refine WPl.cs 10 rfl rfl rfl rfl (o_sig 10 (ren [(0,9)]) (c24 (nth h.eds (i : Int)) 0 3 (by have := hm6 i (by omega); omega)) e24 rfl rfl rfl w24 ⟨(lx rfl),trivial⟩ r24) ?_
        refine WPl.v rfl (o_not rfl) ?_
        refine WPl.nil (EX.then ?_)
        refine WP.cond rfl (fun hc5 => ?_) (fun hc5 => ?_)
        · try simp only [cnd] at hc5
          refine WP.seq (WP.region ?_)
          refine WPl.v rfl (o_assign rfl) ?_
          refine WPl.nil (EX.then (WP.ret (EX.ret_blk (EX.ret_then (EX.ret_then (EX.ret_blk (EX.ret_then ?_)))))))
          rw [show errL h.chk = 90 from by rw [show h.chk = false from by unfold Hall.chk; rw [show allI h.edOK h.eds.length = false from not_allI (show i < h.eds.length by omega) (by unfold Hall.edOK; exact hc5)]; simp]; rfl]
          exact EX.fin id (.inl rfl) rfl (.tmp rfl .nil) rfl (by simp [SV.res,El.res,At.res,keys]) trivial (by simp) (by simp)
        · try simp only [cnd] at hc5
          refine WP.skip (EX.blk (EX.then (WP.region ?_)))
          refine WPl.v rfl (o_move rfl) ?_
          refine WPl.v rfl (o_add rfl rfl (by first | omega | (simp; omega)) (by first | omega | (simp; omega))) ?_
          refine WPl.v rfl (o_assign rfl) ?_
          refine WPl.nil ?_
          refine EX.again (i + 1) id (by exact ⟨by omega,by simp only [allI,hall,Bool.true_and]; simpa [Hall.edOK] using hc5⟩) (by omega) (LeR.of ⟨rfl,rfl,rfl,trivial⟩ ⟨(lx rfl),(lx rfl),(lx rfl),(lx rfl),(lx rfl),trivial⟩ ⟨rfl,trivial⟩ rfl rfl rfl rfl rfl)
      · try simp only [cnd] at hc4
        have ha2 : allI h.edOK h.eds.length = true := by rw [show h.eds.length = i by omega]; exact hall
        refine WP.exit (EX.exit_then (EX.exit_then (EX.exit_blk (EX.then (WP.seq (WP.seq (WP.region ?_)))))))
        refine WPl.v rfl (o_assign rfl) ?_
        refine WPl.nil (EX.then (WP.block ?_))
        refine WP.loop (Gh := Nat) (fun i => ⟨8,[(1,.e (.a (.p 5 (0)))),(2,.i (0)),(5,.i ((i : Int)))],[(0,PL ETm (h.machs)),(1,PL EBd (h.buns)),(2,PL EP.int (h.trains)),(3,PL EP.int (h.bores)),(4,PL (EP.sl EP.int) (h.eds))],[(5,.blk [.q 0,.q 1,.q 2,ai (h.change),.q 3,.q 4] 29)],[],[]⟩) (fun i => i ≤ h.buns.length ∧ allI h.beOK i = true) (fun i => h.buns.length - i) (0) id ?_ (LeR.of ⟨rfl,rfl,rfl,trivial⟩ ⟨(lx rfl),(lx rfl),(lx rfl),(lx rfl),(lx rfl),trivial⟩ ⟨rfl,trivial⟩ rfl rfl rfl rfl rfl) ?_
        · exact ⟨by omega,rfl⟩
        intro i hφ
        have hi : i ≤ h.buns.length := hφ.1
        have hall := hφ.2
        refine WP.seq (WP.seq (WP.region ?_))
        refine WPl.v rfl (o_move rfl) ?_
        refine WPl.v rfl (o_fldp F29_0 rfl) ?_
        refine WPl.v rfl (o_fldp F26_1 rfl) ?_
        refine WPl.v rfl (o_ldp S23 rfl rfl rfl) ?_
        refine WPl.v rfl (o_lenq L23 rfl (lx rfl)) ?_
        refine WPl.v rfl (o_lss rfl rfl) ?_
        refine WPl.nil (EX.then ?_)
        refine WP.cond rfl (fun hc6 => ?_) (fun hc6 => ?_)
        · try simp only [cnd] at hc6
          refine WP.skip (EX.then (WP.seq (WP.block (WP.seq ?_))))
          refine WP.draw (nf := 9) [⟨[65,69,70,71],[],[],[],[]⟩,⟨[65,69,70,71],[],[],[],[0]⟩,⟨[65,69,70,71],[],[],[],[0,1]⟩,⟨[62,63,64,69,70,71],[],[],[],[]⟩,⟨[69,70,71],[],[8],[8],[0,1,2,3]⟩,⟨[69,70,71],[],[],[],[0,1,2,3,4]⟩,⟨[69,70,71],[],[],[],[0,1,2,3,4,5]⟩,⟨[62,63,64,65,66,67,68],[8],[],[],[]⟩,⟨[62,63,64,65,66,67,68],[8],[],[],[7]⟩,⟨[62,63,64,65,66,67,68],[8],[],[],[7,8]⟩,⟨[],[],[],[],[0,1,2,3,4,5,6,7,8,9]⟩] (by kernel_rfl) (by kernel_rfl) ?_
          refine DRQ.v rfl rfl rfl (o_fldp F29_0 rfl) ?_
          refine DRQ.v rfl rfl rfl (o_fldp F26_1 rfl) ?_
          refine DRQ.v rfl rfl rfl (o_ldp S23 rfl rfl rfl) ?_
          refine DRQ.v rfl rfl rfl (o_move rfl) ?_
          refine DRQ.x 8 rfl rfl rfl rfl (o_idx L23 rfl (lx rfl) rfl (by first | omega | (simp; omega)) (by first | omega | (simp; omega))) ?_
          refine DRQ.v rfl rfl rfl (o_fldq F58_2 rfl (lx rfl)) ?_
          refine DRQ.v rfl rfl rfl (o_lde S3 rfl (lx rfl) (strI rfl)) ?_
          refine DRQ.v rfl rfl rfl (o_fldp F29_2 rfl) ?_
          refine DRQ.v rfl rfl rfl (o_ldp S27 rfl rfl rfl) ?_
          refine DRQ.v rfl rfl rfl (o_lenq L27 rfl (lx rfl)) ?_
          refine DRQ.v rfl rfl rfl (o_geq rfl rfl) ?_
          refine DRQ.nil' ?_
          refine EX.then ?_
          refine WP.cond rfl (fun hc7 => ?_) (fun hc7 => ?_)
          · try simp only [cnd] at hc7
            refine WP.seq (WP.region ?_)
            refine WPl.v rfl (o_assign rfl) ?_
            refine WPl.nil (EX.then (WP.ret (EX.ret_blk (EX.ret_then (EX.ret_then (EX.ret_blk (EX.ret_then ?_)))))))
            rw [show errL h.chk = 90 from by rw [show h.chk = false from by unfold Hall.chk; rw [show allI h.beOK h.buns.length = false from not_allI (show i < h.buns.length by omega) (by unfold Hall.beOK; exact decide_eq_false (by omega))]; simp]; rfl]
            exact EX.fin id (.inl rfl) rfl (.tmp rfl .nil) rfl (by simp [SV.res,El.res,At.res,keys]) trivial (by simp) (by simp)
          · try simp only [cnd] at hc7
            refine WP.skip (EX.blk (EX.then (WP.region ?_)))
            refine WPl.v rfl (o_move rfl) ?_
            refine WPl.v rfl (o_add rfl rfl (by first | omega | (simp; omega)) (by first | omega | (simp; omega))) ?_
            refine WPl.v rfl (o_assign rfl) ?_
            refine WPl.nil ?_
            refine EX.again (i + 1) id (by exact ⟨by omega,by simp only [allI,hall,Bool.true_and]; simpa [Hall.beOK] using hc7⟩) (by omega) (LeR.of ⟨rfl,rfl,rfl,trivial⟩ ⟨(lx rfl),(lx rfl),(lx rfl),(lx rfl),(lx rfl),trivial⟩ ⟨rfl,trivial⟩ rfl rfl rfl rfl rfl)
        · try simp only [cnd] at hc6
          refine WP.exit (EX.exit_then (EX.exit_then (EX.exit_blk (EX.then (WP.seq (WP.region ?_))))))
          refine WPl.v rfl (o_assign rfl) ?_
          refine WPl.nil (EX.then (WP.ret ?_))
          rw [show errL h.chk = 0 from errL_eq.2 (by unfold Hall.chk; rw [hhd,ha1,ha2,show allI h.beOK h.buns.length = true from by rw [show h.buns.length = i by omega]; exact hall]; rfl)]
          exact EX.fin id (.inl rfl) rfl (.tmp rfl .nil) rfl (by simp [SV.res,El.res,At.res,keys]) trivial (by simp) (by simp)
theorem w79 {l : List Int} {d : Dom} {h : Int → Bool} : ∀ x ∈ ([.e (.a (.q 0)),.e (.a (.q 1))] : List SV),x.res (keys (α := Pred) [(0,PL EP.int (l)),(1,HitI d h)]) := by simp [SV.res,El.res,At.res,keys]
theorem r79 {l : List Int} {h : Int → Bool} : SV.res (keys (α := Pred) []) (.i (idxG h l)) := by simp [SV.res,El.res,At.res,keys]
set_option maxHeartbeats 4000000 in
theorem c79 (l : List Int) (d : Dom) (h : Int → Bool) (hl : l.length ≤ 10000) (hd : ∀ i : Nat,i < l.length → d.p (nth l (i : Int))) : Sig Try.prog 79 [.e (.a (.q 0)),.e (.a (.q 1))] [(0,PL EP.int (l)),(1,HitI d h)] (.i (idxG h l)) [] := by
  refine Sig.intro Try.func79 rfl 2 [(0,.e (.a (.q 0))),(1,.e (.a (.q 1)))] rfl w79 rfl rfl fun I w => ?_
  refine WP.seq (WP.region ?_)
  refine WPl.v rfl (o_assign rfl) ?_
  refine WPl.nil (EX.then (WP.seq (WP.seq (WP.region ?_))))
  refine WPl.v rfl (o_move rfl) ?_
  refine WPl.v rfl (o_lenq L24 rfl (lx rfl)) ?_
  refine WPl.v rfl (o_move rfl) ?_
  refine WPl.nil (EX.then (WP.block ?_))
  refine WP.loop (Gh := Nat) (fun i => ⟨2,[(0,.e (.a (.q 0))),(1,.e (.a (.q 1))),(4,.i (0)),(7,.i ((l.length : Int))),(8,.i ((i : Int)))],[(0,PL EP.int (l)),(1,HitI d h)],[],[],[]⟩) (fun i => i ≤ l.length ∧ allI (missG h l) i = true) (fun i => l.length - i) (0) id ?_ (LeR.of ⟨rfl,rfl,rfl,rfl,rfl,trivial⟩ ⟨(lx rfl),(lx rfl),trivial⟩ trivial rfl rfl rfl rfl rfl) ?_
  · exact ⟨by omega,rfl⟩
  intro i hφ
  have hi : i ≤ l.length := hφ.1
  have hall := hφ.2
  refine WP.seq (WP.region ?_)
  refine WPl.v rfl (o_lss rfl rfl) ?_
  refine WPl.nil (EX.then (WP.seq ?_))
  refine WP.cond rfl (fun hc1 => ?_) (fun hc1 => ?_)
  · try simp only [cnd] at hc1
    refine WP.skip (EX.then (WP.seq (WP.block (WP.seq (WP.region ?_)))))
    refine WPl.v rfl (o_move rfl) ?_
    refine WPl.v rfl (o_assign rfl) ?_
    refine WPl.nil (EX.then (WP.seq (WP.region ?_)))
    refine WPl.v rfl (o_move rfl) ?_
    refine WPl.v rfl (o_move rfl) ?_
    refine WPl.v rfl (o_move rfl) ?_
    refine WPl.x 2 3 rfl rfl rfl (o_idx L24 rfl (lx rfl) rfl (by first | omega | (simp; omega)) (by first | omega | (simp; omega))) ?_
    refine WPl.v rfl (o_ldq S3 rfl (lx rfl) intc) ?_
    refine WPl.cs 3 rfl rfl rfl rfl (o_callfv (svs := [.i ((⟨nth l (i : Int),hd i (by omega)⟩ : d.T).1)]) 3 id rfl (show Has _ 1 (FvP Try.prog [.i ((⟨nth l (i : Int),hd i (by omega)⟩ : d.T).1)] [] (.b (h (⟨nth l (i : Int),hd i (by omega)⟩ : d.T).1)) []) from (Has.of (lx rfl) fun _ _ h => Pred.fall_at h ((⟨nth l (i : Int),hd i (by omega)⟩ : d.T)))) rfl rfl SvsOK.rf (by simp [SV.res,El.res,At.res,keys]) trivial (by simp [SV.res,El.res,At.res,keys])) ?_
    refine WPl.nil (EX.then ?_)
    refine WP.cond rfl (fun hc2 => ?_) (fun hc2 => ?_)
    · try simp only [cnd] at hc2
      refine WP.seq (WP.region ?_)
      refine WPl.v rfl (o_move rfl) ?_
      refine WPl.v rfl (o_assign rfl) ?_
      refine WPl.nil (EX.then (WP.ret (EX.ret_blk (EX.ret_then (EX.ret_then (EX.ret_blk (EX.ret_then ?_)))))))
      rw [show idxG h l = (i : Int) from idxG_at (by omega) hall hc2]
      exact EX.fin id (.inl rfl) rfl (.tmp rfl .nil) rfl (by simp [SV.res,El.res,At.res,keys]) trivial (by simp) (by simp)
    · try simp only [cnd] at hc2
      refine WP.skip (EX.blk (EX.then (WP.region ?_)))
      refine WPl.v rfl (o_add rfl rfl (by first | omega | (simp; omega)) (by first | omega | (simp; omega))) ?_
      refine WPl.v rfl (o_move rfl) ?_
      refine WPl.nil ?_
      refine EX.again (i + 1) id (by exact ⟨by omega,by simp only [allI,hall,Bool.true_and,missG]; rw [hc2]; rfl⟩) (by omega) (LeR.of ⟨rfl,rfl,rfl,rfl,rfl,trivial⟩ ⟨(lx rfl),(lx rfl),trivial⟩ trivial rfl rfl rfl rfl rfl)
  · try simp only [cnd] at hc1
    refine WP.exit (EX.exit_then (EX.exit_then (EX.exit_blk (EX.then (WP.seq (WP.region ?_))))))
    refine WPl.v rfl (o_assign rfl) ?_
    refine WPl.nil (EX.then (WP.ret ?_))
    rw [show idxG h l = -1 from idxG_none (by rw [show l.length = i by omega]; exact hall)]
    exact EX.fin id (.inl rfl) rfl (.tmp rfl .nil) rfl (by simp [SV.res,El.res,At.res,keys]) trivial (by simp) (by simp)
theorem w53 {l : List Int} {d : Dom} {h : Int → Bool} : ∀ x ∈ ([.e (.a (.q 0)),.e (.a (.q 1))] : List SV),x.res (keys (α := Pred) [(0,PL EP.int (l)),(1,HitI d h)]) := by simp [SV.res,El.res,At.res,keys]
theorem r53 {l : List Int} {h : Int → Bool} : SV.res (keys (α := Pred) []) (.b (anyG h l)) := by simp [SV.res,El.res,At.res,keys]
set_option maxHeartbeats 4000000 in
theorem c53 (l : List Int) (d : Dom) (h : Int → Bool) (hl : l.length ≤ 10000) (hd : ∀ i : Nat,i < l.length → d.p (nth l (i : Int))) : Sig Try.prog 53 [.e (.a (.q 0)),.e (.a (.q 1))] [(0,PL EP.int (l)),(1,HitI d h)] (.b (anyG h l)) [] := by
  refine Sig.intro Try.func53 rfl 2 [(0,.e (.a (.q 0))),(1,.e (.a (.q 1)))] rfl w53 rfl rfl fun I w => ?_
  refine WP.seq (WP.region ?_)
  refine WPl.v rfl (o_assign rfl) ?_
  refine WPl.nil (EX.then (WP.seq (WP.region ?_)))
  refine WPl.v rfl (o_move rfl) ?_
  refine WPl.v rfl (o_move rfl) ?_
  refine WPl.cs 2 rfl rfl rfl rfl (o_sig 2 (ren [(0,0),(1,1)]) (c79 l d h hl hd) e79 rfl rfl rfl w79 ⟨(lx rfl),(lx rfl),trivial⟩ r79) ?_
  refine WPl.v rfl (o_geq rfl rfl) ?_
  refine WPl.v rfl (o_assign rfl) ?_
  refine WPl.nil (EX.then (WP.ret ?_))
  rw [← idxG_any]
  exact EX.fin id (.inl rfl) rfl (.tmp rfl .nil) rfl (by simp [SV.res,El.res,At.res,keys]) trivial (by simp) (by simp)
theorem w80 {l : List TM} {h : TM → Bool} : ∀ x ∈ ([.e (.a (.q 0)),.e (.a (.q 1))] : List SV),x.res (keys (α := Pred) [(0,PL ETm (l)),(1,HitM h)]) := by simp [SV.res,El.res,At.res,keys]
theorem r80 {l : List TM} {h : TM → Bool} : SV.res (keys (α := Pred) []) (.i (idxG h l)) := by simp [SV.res,El.res,At.res,keys]
set_option maxHeartbeats 4000000 in
theorem c80 (l : List TM) (h : TM → Bool) (hl : l.length ≤ 10000) : Sig Try.prog 80 [.e (.a (.q 0)),.e (.a (.q 1))] [(0,PL ETm (l)),(1,HitM h)] (.i (idxG h l)) [] := by
  refine Sig.intro Try.func80 rfl 2 [(0,.e (.a (.q 0))),(1,.e (.a (.q 1)))] rfl w80 rfl rfl fun I w => ?_
  refine WP.seq (WP.region ?_)
  refine WPl.v rfl (o_assign rfl) ?_
  refine WPl.nil (EX.then (WP.seq (WP.seq (WP.region ?_))))
  refine WPl.v rfl (o_move rfl) ?_
  refine WPl.v rfl (o_lenq L22 rfl (lx rfl)) ?_
  refine WPl.v rfl (o_move rfl) ?_
  refine WPl.nil (EX.then (WP.block ?_))
  refine WP.loop (Gh := Nat) (fun i => ⟨2,[(0,.e (.a (.q 0))),(1,.e (.a (.q 1))),(4,.i (0)),(7,.i ((l.length : Int))),(8,.i ((i : Int)))],[(0,PL ETm (l)),(1,HitM h)],[],[],[]⟩) (fun i => i ≤ l.length ∧ allI (missG h l) i = true) (fun i => l.length - i) (0) id ?_ (LeR.of ⟨rfl,rfl,rfl,rfl,rfl,trivial⟩ ⟨(lx rfl),(lx rfl),trivial⟩ trivial rfl rfl rfl rfl rfl) ?_
  · exact ⟨by omega,rfl⟩
  intro i hφ
  have hi : i ≤ l.length := hφ.1
  have hall := hφ.2
  refine WP.seq (WP.region ?_)
  refine WPl.v rfl (o_lss rfl rfl) ?_
  refine WPl.nil (EX.then (WP.seq ?_))
  refine WP.cond rfl (fun hc1 => ?_) (fun hc1 => ?_)
  · try simp only [cnd] at hc1
    refine WP.skip (EX.then (WP.seq (WP.block (WP.seq (WP.region ?_)))))
    refine WPl.v rfl (o_move rfl) ?_
    refine WPl.v rfl (o_assign rfl) ?_
    refine WPl.nil (EX.then (WP.seq (WP.region ?_)))
    refine WPl.v rfl (o_move rfl) ?_
    refine WPl.v rfl (o_move rfl) ?_
    refine WPl.v rfl (o_move rfl) ?_
    refine WPl.x 2 3 rfl rfl rfl (o_idx L22 rfl (lx rfl) rfl (by first | omega | (simp; omega)) (by first | omega | (simp; omega))) ?_
    refine WPl.v rfl (o_ldqg G68 rfl (lx rfl) (strG rfl) rfl rfl) ?_
    refine WPl.cs 3 rfl rfl rfl rfl (o_callfv (svs := [.e (.g [ai ((nth l (i : Int)).ready),ai ((nth l (i : Int)).pace),ai ((nth l (i : Int)).stops)])]) 3 id rfl (show Has _ 1 (FvP Try.prog [.e (.g [ai ((nth l (i : Int)).ready),ai ((nth l (i : Int)).pace),ai ((nth l (i : Int)).stops)])] [] (.b (h (nth l (i : Int)))) []) from (Has.of (lx rfl) fun _ _ h => Pred.fall_at h ((nth l (i : Int))))) rfl rfl SvsOK.rf (by simp [SV.res,El.res,At.res,keys]) trivial (by simp [SV.res,El.res,At.res,keys])) ?_
    refine WPl.nil (EX.then ?_)
    refine WP.cond rfl (fun hc2 => ?_) (fun hc2 => ?_)
    · try simp only [cnd] at hc2
      refine WP.seq (WP.region ?_)
      refine WPl.v rfl (o_move rfl) ?_
      refine WPl.v rfl (o_assign rfl) ?_
      refine WPl.nil (EX.then (WP.ret (EX.ret_blk (EX.ret_then (EX.ret_then (EX.ret_blk (EX.ret_then ?_)))))))
      rw [show idxG h l = (i : Int) from idxG_at (by omega) hall hc2]
      exact EX.fin id (.inl rfl) rfl (.tmp rfl .nil) rfl (by simp [SV.res,El.res,At.res,keys]) trivial (by simp) (by simp)
    · try simp only [cnd] at hc2
      refine WP.skip (EX.blk (EX.then (WP.region ?_)))
      refine WPl.v rfl (o_add rfl rfl (by first | omega | (simp; omega)) (by first | omega | (simp; omega))) ?_
      refine WPl.v rfl (o_move rfl) ?_
      refine WPl.nil ?_
      refine EX.again (i + 1) id (by exact ⟨by omega,by simp only [allI,hall,Bool.true_and,missG]; rw [hc2]; rfl⟩) (by omega) (LeR.of ⟨rfl,rfl,rfl,rfl,rfl,trivial⟩ ⟨(lx rfl),(lx rfl),trivial⟩ trivial rfl rfl rfl rfl rfl)
  · try simp only [cnd] at hc1
    refine WP.exit (EX.exit_then (EX.exit_then (EX.exit_blk (EX.then (WP.seq (WP.region ?_))))))
    refine WPl.v rfl (o_assign rfl) ?_
    refine WPl.nil (EX.then (WP.ret ?_))
    rw [show idxG h l = -1 from idxG_none (by rw [show l.length = i by omega]; exact hall)]
    exact EX.fin id (.inl rfl) rfl (.tmp rfl .nil) rfl (by simp [SV.res,El.res,At.res,keys]) trivial (by simp) (by simp)
theorem w55 {l : List TM} {h : TM → Bool} : ∀ x ∈ ([.e (.a (.q 0)),.e (.a (.q 1))] : List SV),x.res (keys (α := Pred) [(0,PL ETm (l)),(1,HitM h)]) := by simp [SV.res,El.res,At.res,keys]
theorem r55 {l : List TM} {h : TM → Bool} : SV.res (keys (α := Pred) []) (.b (anyG h l)) := by simp [SV.res,El.res,At.res,keys]
set_option maxHeartbeats 4000000 in
theorem c55 (l : List TM) (h : TM → Bool) (hl : l.length ≤ 10000) : Sig Try.prog 55 [.e (.a (.q 0)),.e (.a (.q 1))] [(0,PL ETm (l)),(1,HitM h)] (.b (anyG h l)) [] := by
  refine Sig.intro Try.func55 rfl 2 [(0,.e (.a (.q 0))),(1,.e (.a (.q 1)))] rfl w55 rfl rfl fun I w => ?_
  refine WP.seq (WP.region ?_)
  refine WPl.v rfl (o_assign rfl) ?_
  refine WPl.nil (EX.then (WP.seq (WP.region ?_)))
  refine WPl.v rfl (o_move rfl) ?_
  refine WPl.v rfl (o_move rfl) ?_
  refine WPl.cs 2 rfl rfl rfl rfl (o_sig 2 (ren [(0,0),(1,1)]) (c80 l h hl) e80 rfl rfl rfl w80 ⟨(lx rfl),(lx rfl),trivial⟩ r80) ?_
  refine WPl.v rfl (o_geq rfl rfl) ?_
  refine WPl.v rfl (o_assign rfl) ?_
  refine WPl.nil (EX.then (WP.ret ?_))
  rw [← idxG_any]
  exact EX.fin id (.inl rfl) rfl (.tmp rfl .nil) rfl (by simp [SV.res,El.res,At.res,keys]) trivial (by simp) (by simp)
theorem w81 {l : List TBd} {h : TBd → Bool} : ∀ x ∈ ([.e (.a (.q 0)),.e (.a (.q 1))] : List SV),x.res (keys (α := Pred) [(0,PL EBd (l)),(1,HitB h)]) := by simp [SV.res,El.res,At.res,keys]
theorem r81 {l : List TBd} {h : TBd → Bool} : SV.res (keys (α := Pred) []) (.i (idxG h l)) := by simp [SV.res,El.res,At.res,keys]
set_option maxHeartbeats 4000000 in
theorem c81 (l : List TBd) (h : TBd → Bool) (hl : l.length ≤ 10000) : Sig Try.prog 81 [.e (.a (.q 0)),.e (.a (.q 1))] [(0,PL EBd (l)),(1,HitB h)] (.i (idxG h l)) [] := by
  refine Sig.intro Try.func81 rfl 2 [(0,.e (.a (.q 0))),(1,.e (.a (.q 1)))] rfl w81 rfl rfl fun I w => ?_
  refine WP.seq (WP.region ?_)
  refine WPl.v rfl (o_assign rfl) ?_
  refine WPl.nil (EX.then (WP.seq (WP.seq (WP.region ?_))))
  refine WPl.v rfl (o_move rfl) ?_
  refine WPl.v rfl (o_lenq L23 rfl (lx rfl)) ?_
  refine WPl.v rfl (o_move rfl) ?_
  refine WPl.nil (EX.then (WP.block ?_))
  refine WP.loop (Gh := Nat) (fun i => ⟨2,[(0,.e (.a (.q 0))),(1,.e (.a (.q 1))),(4,.i (0)),(7,.i ((l.length : Int))),(8,.i ((i : Int)))],[(0,PL EBd (l)),(1,HitB h)],[],[],[]⟩) (fun i => i ≤ l.length ∧ allI (missG h l) i = true) (fun i => l.length - i) (0) id ?_ (LeR.of ⟨rfl,rfl,rfl,rfl,rfl,trivial⟩ ⟨(lx rfl),(lx rfl),trivial⟩ trivial rfl rfl rfl rfl rfl) ?_
  · exact ⟨by omega,rfl⟩
  intro i hφ
  have hi : i ≤ l.length := hφ.1
  have hall := hφ.2
  refine WP.seq (WP.region ?_)
  refine WPl.v rfl (o_lss rfl rfl) ?_
  refine WPl.nil (EX.then (WP.seq ?_))
  refine WP.cond rfl (fun hc1 => ?_) (fun hc1 => ?_)
  · try simp only [cnd] at hc1
    refine WP.skip (EX.then (WP.seq (WP.block (WP.seq (WP.region ?_)))))
    refine WPl.v rfl (o_move rfl) ?_
    refine WPl.v rfl (o_assign rfl) ?_
    refine WPl.nil (EX.then (WP.seq (WP.region ?_)))
    refine WPl.v rfl (o_move rfl) ?_
    refine WPl.v rfl (o_move rfl) ?_
    refine WPl.v rfl (o_move rfl) ?_
    refine WPl.x 2 3 rfl rfl rfl (o_idx L23 rfl (lx rfl) rfl (by first | omega | (simp; omega)) (by first | omega | (simp; omega))) ?_
    refine WPl.v rfl (o_ldqg G58 rfl (lx rfl) (strG rfl) rfl rfl) ?_
    refine WPl.cs 3 rfl rfl rfl rfl (o_callfv (svs := [.e (.g [ai ((nth l (i : Int)).train),ai ((nth l (i : Int)).hundreds),ai ((nth l (i : Int)).edition)])]) 3 id rfl (show Has _ 1 (FvP Try.prog [.e (.g [ai ((nth l (i : Int)).train),ai ((nth l (i : Int)).hundreds),ai ((nth l (i : Int)).edition)])] [] (.b (h (nth l (i : Int)))) []) from (Has.of (lx rfl) fun _ _ h => Pred.fall_at h ((nth l (i : Int))))) rfl rfl SvsOK.rf (by simp [SV.res,El.res,At.res,keys]) trivial (by simp [SV.res,El.res,At.res,keys])) ?_
    refine WPl.nil (EX.then ?_)
    refine WP.cond rfl (fun hc2 => ?_) (fun hc2 => ?_)
    · try simp only [cnd] at hc2
      refine WP.seq (WP.region ?_)
      refine WPl.v rfl (o_move rfl) ?_
      refine WPl.v rfl (o_assign rfl) ?_
      refine WPl.nil (EX.then (WP.ret (EX.ret_blk (EX.ret_then (EX.ret_then (EX.ret_blk (EX.ret_then ?_)))))))
      rw [show idxG h l = (i : Int) from idxG_at (by omega) hall hc2]
      exact EX.fin id (.inl rfl) rfl (.tmp rfl .nil) rfl (by simp [SV.res,El.res,At.res,keys]) trivial (by simp) (by simp)
    · try simp only [cnd] at hc2
      refine WP.skip (EX.blk (EX.then (WP.region ?_)))
      refine WPl.v rfl (o_add rfl rfl (by first | omega | (simp; omega)) (by first | omega | (simp; omega))) ?_
      refine WPl.v rfl (o_move rfl) ?_
      refine WPl.nil ?_
      refine EX.again (i + 1) id (by exact ⟨by omega,by simp only [allI,hall,Bool.true_and,missG]; rw [hc2]; rfl⟩) (by omega) (LeR.of ⟨rfl,rfl,rfl,rfl,rfl,trivial⟩ ⟨(lx rfl),(lx rfl),trivial⟩ trivial rfl rfl rfl rfl rfl)
  · try simp only [cnd] at hc1
    refine WP.exit (EX.exit_then (EX.exit_then (EX.exit_blk (EX.then (WP.seq (WP.region ?_))))))
    refine WPl.v rfl (o_assign rfl) ?_
    refine WPl.nil (EX.then (WP.ret ?_))
    rw [show idxG h l = -1 from idxG_none (by rw [show l.length = i by omega]; exact hall)]
    exact EX.fin id (.inl rfl) rfl (.tmp rfl .nil) rfl (by simp [SV.res,El.res,At.res,keys]) trivial (by simp) (by simp)
theorem w57 {l : List TBd} {h : TBd → Bool} : ∀ x ∈ ([.e (.a (.q 0)),.e (.a (.q 1))] : List SV),x.res (keys (α := Pred) [(0,PL EBd (l)),(1,HitB h)]) := by simp [SV.res,El.res,At.res,keys]
theorem r57 {l : List TBd} {h : TBd → Bool} : SV.res (keys (α := Pred) []) (.b (anyG h l)) := by simp [SV.res,El.res,At.res,keys]
set_option maxHeartbeats 4000000 in
theorem c57 (l : List TBd) (h : TBd → Bool) (hl : l.length ≤ 10000) : Sig Try.prog 57 [.e (.a (.q 0)),.e (.a (.q 1))] [(0,PL EBd (l)),(1,HitB h)] (.b (anyG h l)) [] := by
  refine Sig.intro Try.func57 rfl 2 [(0,.e (.a (.q 0))),(1,.e (.a (.q 1)))] rfl w57 rfl rfl fun I w => ?_
  refine WP.seq (WP.region ?_)
  refine WPl.v rfl (o_assign rfl) ?_
  refine WPl.nil (EX.then (WP.seq (WP.region ?_)))
  refine WPl.v rfl (o_move rfl) ?_
  refine WPl.v rfl (o_move rfl) ?_
  refine WPl.cs 2 rfl rfl rfl rfl (o_sig 2 (ren [(0,0),(1,1)]) (c81 l h hl) e81 rfl rfl rfl w81 ⟨(lx rfl),(lx rfl),trivial⟩ r81) ?_
  refine WPl.v rfl (o_geq rfl rfl) ?_
  refine WPl.v rfl (o_assign rfl) ?_
  refine WPl.nil (EX.then (WP.ret ?_))
  rw [← idxG_any]
  exact EX.fin id (.inl rfl) rfl (.tmp rfl .nil) rfl (by simp [SV.res,El.res,At.res,keys]) trivial (by simp) (by simp)
theorem w91 {n : Int} : ∀ x ∈ ([.i (n)] : List SV),x.res (keys (α := Pred) []) := by simp [SV.res,El.res,At.res,keys]
theorem r91  : SV.res (keys (α := Pred) []) (.b (false)) := by simp [SV.res,El.res,At.res,keys]
set_option maxHeartbeats 4000000 in
theorem c91 (n : Int)  : Sig Try.prog 91 [.i (n)] [] (.b (false)) [] := by
  refine Sig.intro Try.func91 rfl 0 [(0,.i (n))] rfl w91 rfl rfl fun I w => ?_
  refine WP.seq (WP.region ?_)
  refine WPl.v rfl (o_assign rfl) ?_
  refine WPl.nil (EX.then (WP.seq (WP.region ?_)))
  refine WPl.v rfl (o_move rfl) ?_
  refine WPl.v rfl (o_move rfl) ?_
  refine WPl.v rfl (o_neq rfl rfl) ?_
  refine WPl.v rfl (o_assign rfl) ?_
  refine WPl.nil (EX.then (WP.ret ?_))
  rw [show decide (n ≠ n) = false from by simp]
  exact EX.fin id (.inl rfl) rfl (.tmp rfl .nil) rfl (by simp [SV.res,El.res,At.res,keys]) trivial (by simp) (by simp)
theorem w71 {a b : Int} : ∀ x ∈ ([.i (a),.i (b)] : List SV),x.res (keys (α := Pred) []) := by simp [SV.res,El.res,At.res,keys]
theorem r71 {a b : Int} : SV.res (keys (α := Pred) []) (.i (cmpI a b)) := by simp [SV.res,El.res,At.res,keys]
set_option maxHeartbeats 4000000 in
theorem c71 (a b : Int)  : Sig Try.prog 71 [.i (a),.i (b)] [] (.i (cmpI a b)) [] := by
  refine Sig.intro Try.func71 rfl 0 [(0,.i (a)),(1,.i (b))] rfl w71 rfl rfl fun I w => ?_
  refine WP.seq (WP.region ?_)
  refine WPl.v rfl (o_assign rfl) ?_
  refine WPl.nil (EX.then (WP.seq (WP.region ?_)))
  refine WPl.v rfl (o_move rfl) ?_
  refine WPl.cs 0 rfl rfl rfl rfl (o_sig 0 id (c91 a) e91 rfl rfl rfl w91 trivial r91) ?_
  refine WPl.v rfl (o_assign rfl) ?_
  refine WPl.nil (EX.then (WP.seq (WP.region ?_)))
  refine WPl.v rfl (o_move rfl) ?_
  refine WPl.cs 0 rfl rfl rfl rfl (o_sig 0 id (c91 b) e91 rfl rfl rfl w91 trivial r91) ?_
  refine WPl.v rfl (o_assign rfl) ?_
  refine WPl.nil (EX.then (WP.seq (WP.seq (WP.region ?_))))
  refine WPl.v rfl (o_move rfl) ?_
  refine WPl.nil (EX.then ?_)
  refine WP.cond rfl (fun h => by cases h) (fun _ => ?_)
  refine WP.skip (EX.then (WP.seq (WP.seq (WP.region ?_))))
  refine WPl.v rfl (o_move rfl) ?_
  refine WPl.nil (EX.then ?_)
  refine WP.cond rfl (fun h => by cases h) (fun _ => ?_)
  refine WP.skip (EX.then (WP.seq (WP.seq (WP.region ?_))))
  refine WPl.v rfl (o_move rfl) ?_
  refine WPl.v rfl (o_move rfl) ?_
  refine WPl.v rfl (o_lss rfl rfl) ?_
  refine WPl.nil (EX.then ?_)
  refine WP.cond rfl (fun hc3 => ?_) (fun hc3 => ?_)
  · try simp only [cnd] at hc3
    refine WP.seq (WP.region ?_)
    refine WPl.v rfl (o_assign rfl) ?_
    refine WPl.nil (EX.then (WP.ret (EX.ret_then ?_)))
    rw [show cmpI a b = -1 from if_pos hc3]
    exact EX.fin id (.inl rfl) rfl (.tmp rfl .nil) rfl (by simp [SV.res,El.res,At.res,keys]) trivial (by simp) (by simp)
  · try simp only [cnd] at hc3
    refine WP.skip (EX.then (WP.seq (WP.seq (WP.region ?_))))
    refine WPl.v rfl (o_move rfl) ?_
    refine WPl.v rfl (o_move rfl) ?_
    refine WPl.v rfl (o_gtr rfl rfl) ?_
    refine WPl.nil (EX.then ?_)
    refine WP.cond rfl (fun hc4 => ?_) (fun hc4 => ?_)
    · try simp only [cnd] at hc4
      refine WP.seq (WP.region ?_)
      refine WPl.v rfl (o_assign rfl) ?_
      refine WPl.nil (EX.then (WP.ret (EX.ret_then ?_)))
      rw [show cmpI a b = 1 from by unfold cmpI; rw [if_neg hc3,if_pos hc4]]
      exact EX.fin id (.inl rfl) rfl (.tmp rfl .nil) rfl (by simp [SV.res,El.res,At.res,keys]) trivial (by simp) (by simp)
    · try simp only [cnd] at hc4
      refine WP.skip (EX.then (WP.seq (WP.region ?_)))
      refine WPl.v rfl (o_assign rfl) ?_
      refine WPl.nil (EX.then (WP.ret ?_))
      rw [show cmpI a b = 0 from by unfold cmpI; rw [if_neg hc3,if_neg hc4]]
      exact EX.fin id (.inl rfl) rfl (.tmp rfl .nil) rfl (by simp [SV.res,El.res,At.res,keys]) trivial (by simp) (by simp)
theorem w97 {a b : List Int} : ∀ x ∈ ([.e (.a (.q 0)),.e (.a (.q 1))] : List SV),x.res (keys (α := Pred) [(0,PL EP.int (a)),(1,PL EP.int (b))]) := by simp [SV.res,El.res,At.res,keys]
theorem r97 {a b : List Int} : SV.res (keys (α := Pred) []) (.i (cmpL a b)) := by simp [SV.res,El.res,At.res,keys]
set_option maxHeartbeats 4000000 in
theorem c97 (a b : List Int) (ha : a.length ≤ 1000) (hb : b.length ≤ 1000) : Sig Try.prog 97 [.e (.a (.q 0)),.e (.a (.q 1))] [(0,PL EP.int (a)),(1,PL EP.int (b))] (.i (cmpL a b)) [] := by
  refine Sig.intro Try.func97 rfl 2 [(0,.e (.a (.q 0))),(1,.e (.a (.q 1)))] rfl w97 rfl rfl fun I w => ?_
  refine WP.seq (WP.region ?_)
  refine WPl.v rfl (o_assign rfl) ?_
  refine WPl.nil (EX.then (WP.seq (WP.seq (WP.region ?_))))
  refine WPl.v rfl (o_move rfl) ?_
  refine WPl.v rfl (o_lenq L24 rfl (lx rfl)) ?_
  refine WPl.v rfl (o_move rfl) ?_
  refine WPl.nil (EX.then (WP.block ?_))
  refine WP.loop (Gh := Nat) (fun i => ⟨2,[(0,.e (.a (.q 0))),(1,.e (.a (.q 1))),(4,.i (0)),(9,.e (.a (.q 0))),(10,.i ((a.length : Int))),(11,.i ((i : Int)))],[(0,PL EP.int (a)),(1,PL EP.int (b))],[],[],[]⟩) (fun i => i ≤ a.length ∧ i ≤ b.length ∧ allI (sameAt a b) i = true) (fun i => a.length - i) (0) id ?_ (LeR.of ⟨rfl,rfl,rfl,rfl,rfl,rfl,trivial⟩ ⟨(lx rfl),(lx rfl),trivial⟩ trivial rfl rfl rfl rfl rfl) ?_
  · exact ⟨by omega,⟨by omega,rfl⟩⟩
  intro i hφ
  have hi : i ≤ a.length := hφ.1
  obtain ⟨_,hb1,hall⟩ := hφ
  refine WP.seq (WP.region ?_)
  refine WPl.v rfl (o_lss rfl rfl) ?_
  refine WPl.nil (EX.then (WP.seq ?_))
  refine WP.cond rfl (fun hc1 => ?_) (fun hc1 => ?_)
  · try simp only [cnd] at hc1
    refine WP.skip (EX.then (WP.seq (WP.block (WP.seq (WP.region ?_)))))
    refine WPl.v rfl (o_move rfl) ?_
    refine WPl.x 2 3 rfl rfl rfl (o_idx L24 rfl (lx rfl) rfl (by first | omega | (simp; omega)) (by first | omega | (simp; omega))) ?_
    refine WPl.v rfl (o_ldq S3 rfl (lx rfl) intc) ?_
    refine WPl.v rfl (o_assign rfl) ?_
    refine WPl.v rfl (o_assign rfl) ?_
    refine WPl.nil (EX.then (WP.seq (WP.seq (WP.region ?_))))
    refine WPl.v rfl (o_move rfl) ?_
    refine WPl.v rfl (o_move rfl) ?_
    refine WPl.v rfl (o_lenq L24 rfl (lx rfl)) ?_
    refine WPl.v rfl (o_geq rfl rfl) ?_
    refine WPl.nil (EX.then ?_)
    refine WP.cond rfl (fun hc2 => ?_) (fun hc2 => ?_)
    · try simp only [cnd] at hc2
      refine WP.seq (WP.region ?_)
      refine WPl.v rfl (o_assign rfl) ?_
      refine WPl.nil (EX.then (WP.ret (EX.ret_then (EX.ret_blk (EX.ret_then (EX.ret_then (EX.ret_blk (EX.ret_then ?_))))))))
      rw [show cmpL a b = 1 from cmpL_long hall (by omega) (by omega)]
      exact EX.fin id (.inl rfl) rfl (.tmp rfl .nil) rfl (by simp [SV.res,El.res,At.res,keys]) trivial (by simp) (by simp)
    · try simp only [cnd] at hc2
      refine WP.skip (EX.then (WP.seq (WP.region ?_)))
      refine WPl.v rfl (o_move rfl) ?_
      refine WPl.v rfl (o_move rfl) ?_
      refine WPl.x 3 4 rfl rfl rfl (o_idx L24 rfl (lx rfl) rfl (by first | omega | (simp; omega)) (by first | omega | (simp; omega))) ?_
      refine WPl.v rfl (o_ldq S3 rfl (lx rfl) intc) ?_
      refine WPl.v rfl (o_assign rfl) ?_
      refine WPl.nil (EX.then (WP.seq (WP.region ?_)))
      refine WPl.v rfl (o_move rfl) ?_
      refine WPl.v rfl (o_move rfl) ?_
      refine WPl.cs 4 rfl rfl rfl rfl (o_sig 4 id (c71 (nth a (i : Int)) (nth b (i : Int))) e71 rfl rfl rfl w71 trivial r71) ?_
      refine WPl.v rfl (o_assign rfl) ?_
      refine WPl.nil (EX.then (WP.seq (WP.region ?_)))
      refine WPl.v rfl (o_move rfl) ?_
      refine WPl.v rfl (o_neq rfl rfl) ?_
      refine WPl.nil (EX.then ?_)
      refine WP.cond rfl (fun hc3 => ?_) (fun hc3 => ?_)
      · try simp only [cnd] at hc3
        refine WP.seq (WP.region ?_)
        refine WPl.v rfl (o_move rfl) ?_
        refine WPl.v rfl (o_assign rfl) ?_
        refine WPl.nil (EX.then (WP.ret (EX.ret_blk (EX.ret_then (EX.ret_then (EX.ret_blk (EX.ret_then ?_)))))))
        rw [show cmpL a b = cmpI (nth a (i : Int)) (nth b (i : Int)) from cmpL_at hall (by omega) (by omega) hc3]
        exact EX.fin id (.inl rfl) rfl (.tmp rfl .nil) rfl (by simp [SV.res,El.res,At.res,keys]) trivial (by simp) (by simp)
      · try simp only [cnd] at hc3
        refine WP.skip (EX.blk (EX.then (WP.region ?_)))
        refine WPl.v rfl (o_add rfl rfl (by first | omega | (simp; omega)) (by first | omega | (simp; omega))) ?_
        refine WPl.v rfl (o_move rfl) ?_
        refine WPl.nil ?_
        refine EX.again (i + 1) id (by exact ⟨by omega,⟨by omega,by simp only [allI,hall,Bool.true_and,sameAt,decide_eq_true_eq]; exact cmpI_eq.1 hc3⟩⟩) (by omega) (LeR.of ⟨rfl,rfl,rfl,rfl,rfl,rfl,trivial⟩ ⟨(lx rfl),(lx rfl),trivial⟩ trivial rfl rfl rfl rfl rfl)
  · try simp only [cnd] at hc1
    refine WP.exit (EX.exit_then (EX.exit_then (EX.exit_blk (EX.then (WP.seq (WP.seq (WP.region ?_)))))))
    refine WPl.v rfl (o_move rfl) ?_
    refine WPl.v rfl (o_lenq L24 rfl (lx rfl)) ?_
    refine WPl.v rfl (o_move rfl) ?_
    refine WPl.v rfl (o_lenq L24 rfl (lx rfl)) ?_
    refine WPl.v rfl (o_lss rfl rfl) ?_
    refine WPl.nil (EX.then ?_)
    refine WP.cond rfl (fun hc4 => ?_) (fun hc4 => ?_)
    · try simp only [cnd] at hc4
      refine WP.seq (WP.region ?_)
      refine WPl.v rfl (o_assign rfl) ?_
      refine WPl.nil (EX.then (WP.ret (EX.ret_then ?_)))
      rw [show cmpL a b = -1 from cmpL_short hall (by omega) (by omega)]
      exact EX.fin id (.inl rfl) rfl (.tmp rfl .nil) rfl (by simp [SV.res,El.res,At.res,keys]) trivial (by simp) (by simp)
    · try simp only [cnd] at hc4
      refine WP.skip (EX.then (WP.seq (WP.region ?_)))
      refine WPl.v rfl (o_assign rfl) ?_
      refine WPl.nil (EX.then (WP.ret ?_))
      rw [show cmpL a b = 0 from cmpL_same hall (by omega) (by omega)]
      exact EX.fin id (.inl rfl) rfl (.tmp rfl .nil) rfl (by simp [SV.res,El.res,At.res,keys]) trivial (by simp) (by simp)
theorem w70 {l : List Int} : ∀ x ∈ ([.e (.a (.q 0))] : List SV),x.res (keys (α := Pred) [(0,PL EP.int (l))]) := by simp [SV.res,El.res,At.res,keys]
theorem r70 {l : List Int} : SV.res (keys (α := Pred) []) (.i (orL l)) := by simp [SV.res,El.res,At.res,keys]
set_option maxHeartbeats 4000000 in
theorem c70 (l : List Int) (hl : l.length ≤ 1000) : Sig Try.prog 70 [.e (.a (.q 0))] [(0,PL EP.int (l))] (.i (orL l)) [] := by
  refine Sig.intro Try.func70 rfl 1 [(0,.e (.a (.q 0)))] rfl w70 rfl rfl fun I w => ?_
  refine WP.seq (WP.region ?_)
  refine WPl.v rfl (o_assign rfl) ?_
  refine WPl.nil (EX.then (WP.seq (WP.region ?_)))
  refine WPl.v rfl (o_assign rfl) ?_
  refine WPl.nil (EX.then (WP.seq (WP.seq (WP.region ?_))))
  refine WPl.v rfl (o_move rfl) ?_
  refine WPl.v rfl (o_lenq L24 rfl (lx rfl)) ?_
  refine WPl.v rfl (o_move rfl) ?_
  refine WPl.nil (EX.then (WP.block ?_))
  refine WP.loop (Gh := Nat) (fun i => ⟨1,[(2,.i (0)),(3,.i (0)),(6,.e (.a (.q 0))),(7,.i ((l.length : Int))),(8,.i ((i : Int)))],[(0,PL EP.int (l))],[],[],[]⟩) (fun i => i ≤ l.length ∧ allI (fun j => decide (nth l (j : Int) = 0)) i = true) (fun i => l.length - i) (0) id ?_ (LeR.of ⟨rfl,rfl,rfl,rfl,rfl,trivial⟩ ⟨(lx rfl),trivial⟩ trivial rfl rfl rfl rfl rfl) ?_
  · exact ⟨by omega,rfl⟩
  intro i hφ
  have hi : i ≤ l.length := hφ.1
  have hall := hφ.2
  refine WP.seq (WP.region ?_)
  refine WPl.v rfl (o_lss rfl rfl) ?_
  refine WPl.nil (EX.then (WP.seq ?_))
  refine WP.cond rfl (fun hc1 => ?_) (fun hc1 => ?_)
  · try simp only [cnd] at hc1
    refine WP.skip (EX.then (WP.seq (WP.block (WP.seq (WP.region ?_)))))
    refine WPl.x 1 2 rfl rfl rfl (o_idx L24 rfl (lx rfl) rfl (by first | omega | (simp; omega)) (by first | omega | (simp; omega))) ?_
    refine WPl.v rfl (o_ldq S3 rfl (lx rfl) intc) ?_
    refine WPl.v rfl (o_assign rfl) ?_
    refine WPl.nil (EX.then (WP.seq (WP.region ?_)))
    refine WPl.v rfl (o_move rfl) ?_
    refine WPl.v rfl (o_move rfl) ?_
    refine WPl.v rfl (o_neq rfl rfl) ?_
    refine WPl.nil (EX.then ?_)
    refine WP.cond rfl (fun hc2 => ?_) (fun hc2 => ?_)
    · try simp only [cnd] at hc2
      refine WP.seq (WP.region ?_)
      refine WPl.v rfl (o_move rfl) ?_
      refine WPl.v rfl (o_assign rfl) ?_
      refine WPl.nil (EX.then (WP.ret (EX.ret_blk (EX.ret_then (EX.ret_then (EX.ret_blk (EX.ret_then ?_)))))))
      rw [show orL l = nth l (i : Int) from orL_at (by omega) hall hc2]
      exact EX.fin id (.inl rfl) rfl (.tmp rfl .nil) rfl (by simp [SV.res,El.res,At.res,keys]) trivial (by simp) (by simp)
    · try simp only [cnd] at hc2
      refine WP.skip (EX.blk (EX.then (WP.region ?_)))
      refine WPl.v rfl (o_add rfl rfl (by first | omega | (simp; omega)) (by first | omega | (simp; omega))) ?_
      refine WPl.v rfl (o_move rfl) ?_
      refine WPl.nil ?_
      refine EX.again (i + 1) id (by exact ⟨by omega,by simp only [allI,hall,Bool.true_and,decide_eq_true_eq]; exact hc2⟩) (by omega) (LeR.of ⟨rfl,rfl,rfl,rfl,rfl,trivial⟩ ⟨(lx rfl),trivial⟩ trivial rfl rfl rfl rfl rfl)
  · try simp only [cnd] at hc1
    refine WP.exit (EX.exit_then (EX.exit_then (EX.exit_blk (EX.then (WP.seq (WP.region ?_))))))
    refine WPl.v rfl (o_move rfl) ?_
    refine WPl.v rfl (o_assign rfl) ?_
    refine WPl.nil (EX.then (WP.ret ?_))
    have he : i = l.length := by omega
    subst he
    rw [show orL l = 0 from orL_none hall]
    exact EX.fin id (.inl rfl) rfl (.tmp rfl .nil) rfl (by simp [SV.res,El.res,At.res,keys]) trivial (by simp) (by simp)
theorem w51 {n : Int} : ∀ x ∈ ([.i (n)] : List SV),x.res (keys (α := Pred) []) := by simp [SV.res,El.res,At.res,keys]
theorem r51 {n : Int} : SV.res (keys (α := Pred) []) (.b (within n 0 99)) := by simp [SV.res,El.res,At.res,keys]
set_option maxHeartbeats 4000000 in
theorem c51 (n : Int)  : Sig Try.prog 51 [.i (n)] [] (.b (within n 0 99)) [] := by
  refine Sig.intro Try.func51 rfl 0 [(0,.i (n))] rfl w51 rfl rfl fun I w => ?_
  refine WP.seq (WP.region ?_)
  refine WPl.v rfl (o_assign rfl) ?_
  refine WPl.nil (EX.then (WP.seq (WP.region ?_)))
  refine WPl.v rfl (o_move rfl) ?_
  refine WPl.cs 0 rfl rfl rfl rfl (o_sig 0 id (c52 n 0 99) e52 rfl rfl rfl w52 trivial r52) ?_
  refine WPl.v rfl (o_assign rfl) ?_
  refine WPl.nil (EX.then (WP.ret ?_))
  exact EX.fin id (.inl rfl) rfl (.tmp rfl .nil) rfl r51 trivial (by simp) (by simp)
theorem w54 {n : Int} : ∀ x ∈ ([.i (n),.e (.a (.q 0))] : List SV),x.res (keys (α := Pred) [(0,PP (EP.box (HitI Dom.all (fun x0 => within x0 0 99))) ())]) := by simp [SV.res,El.res,At.res,keys]
theorem r54 {n : Int} : SV.res (keys (α := Pred) []) (.b (!within n 0 99)) := by simp [SV.res,El.res,At.res,keys]
set_option maxHeartbeats 4000000 in
theorem c54 (n : Int)  : Sig Try.prog 54 [.i (n),.e (.a (.q 0))] [(0,PP (EP.box (HitI Dom.all (fun x0 => within x0 0 99))) ())] (.b (!within n 0 99)) [] := by
  refine Sig.intro Try.func54 rfl 1 [(0,.i (n)),(1,.e (.a (.q 0)))] rfl w54 rfl rfl fun I w => ?_
  refine WP.seq (WP.region ?_)
  refine WPl.v rfl (o_assign rfl) ?_
  refine WPl.nil (EX.then (WP.seq (WP.region ?_)))
  refine WPl.x 1 2 rfl rfl rfl (o_ldqx S97 rfl (lx rfl) boxx) ?_
  refine WPl.v rfl (o_move rfl) ?_
  refine WPl.cs 2 rfl rfl rfl rfl (o_callfv (svs := [.i ((⟨n,trivial⟩ : Dom.all.T).1)]) 2 id rfl (show Has _ 1 (FvP Try.prog [.i ((⟨n,trivial⟩ : Dom.all.T).1)] [] (.b ((fun x0 => within x0 0 99) (⟨n,trivial⟩ : Dom.all.T).1)) []) from (Has.of (lx rfl) fun _ _ h => Pred.fall_at h ((⟨n,trivial⟩ : Dom.all.T)))) rfl rfl SvsOK.rf (by simp [SV.res,El.res,At.res,keys]) trivial (by simp [SV.res,El.res,At.res,keys])) ?_
  refine WPl.v rfl (o_not rfl) ?_
  refine WPl.v rfl (o_assign rfl) ?_
  refine WPl.nil (EX.then (WP.ret ?_))
  exact EX.fin id (.inl rfl) rfl (.tmp rfl .nil) rfl r54 trivial (by simp) (by simp)
theorem w56 {m : TM} : ∀ x ∈ ([.e (.g [ai (m.ready),ai (m.pace),ai (m.stops)]),.e (.a (.q 0))] : List SV),x.res (keys (α := Pred) [(0,PP (EP.box (HitI Dom.all (fun x0 => within x0 0 99))) ())]) := by simp [SV.res,El.res,At.res,keys]
set_option maxHeartbeats 4000000 in
theorem c56 (m : TM)  : Sig Try.prog 56 [.e (.g [ai (m.ready),ai (m.pace),ai (m.stops)]),.e (.a (.q 0))] [(0,PP (EP.box (HitI Dom.all (fun x0 => within x0 0 99))) ())] (.b (!m.chk)) [] := by
  refine Sig.intro Try.func56 rfl 1 [(0,.e (.g [ai (m.ready),ai (m.pace),ai (m.stops)])),(1,.e (.a (.q 0)))] rfl w56 rfl rfl fun I w => ?_
  refine WP.seq (WP.region ?_)
  refine WPl.l 1 2 rfl rfl rfl (o_boxg rfl) ?_
  refine WPl.v rfl (o_assign rfl) ?_
  refine WPl.nil (EX.then (WP.seq (WP.region ?_)))
  refine WPl.x 2 3 rfl rfl rfl (o_ldqx S97 rfl (lx rfl) boxx) ?_
  refine WPl.v rfl (o_fldp F68_0 rfl) ?_
  refine WPl.v rfl (o_ldp S3 rfl rfl rfl) ?_
  refine WPl.cs 3 rfl rfl rfl rfl (o_callfv (svs := [.i ((⟨m.ready,trivial⟩ : Dom.all.T).1)]) 3 id rfl (show Has _ 2 (FvP Try.prog [.i ((⟨m.ready,trivial⟩ : Dom.all.T).1)] [] (.b ((fun x0 => within x0 0 99) (⟨m.ready,trivial⟩ : Dom.all.T).1)) []) from (Has.of (lx rfl) fun _ _ h => Pred.fall_at h ((⟨m.ready,trivial⟩ : Dom.all.T)))) rfl rfl SvsOK.rf (by simp [SV.res,El.res,At.res,keys]) trivial (by simp [SV.res,El.res,At.res,keys])) ?_
  refine WPl.v rfl (o_not rfl) ?_
  refine WPl.v rfl (o_move rfl) ?_
  refine WPl.bit 3 4 (!(!((fun x0 => within x0 0 99) (⟨m.ready,trivial⟩ : Dom.all.T).1))) rfl rfl ?_
  refine WPl.gv 3 rfl rfl (.plain rfl (by first | (simp; done) | simp only [Bool.not_eq_true']) rfl) (fun hb => o_fldp F68_1 rfl) ?_
  refine WPl.gv 3 rfl rfl (.plain rfl (by first | (simp; done) | simp only [Bool.not_eq_true']) rfl) (fun hb => o_ldp S3 rfl rfl rfl) ?_
  refine WPl.gc0 3 rfl rfl (.plain rfl (by first | (simp; done) | simp only [Bool.not_eq_true']) rfl) (fun hb => o_sig 4 id (c52 m.pace 1 9) e52 rfl rfl rfl w52 trivial r52) ?_
  refine WPl.gv 3 rfl rfl (.plain rfl (by first | (simp; done) | simp only [Bool.not_eq_true']) rfl) (fun hb => o_not rfl) ?_
  refine WPl.v rfl (o_or rfl rfl rfl (by first | (simp; done) | exact fun h => by rw [h]; rfl | exact fun h => Bool.and_eq_true_iff.2 ⟨hb,by rw [h]; rfl⟩ | simp_all)) ?_
  refine WPl.v rfl (o_move rfl) ?_
  refine WPl.bit 4 5 (!((!((fun x0 => within x0 0 99) (⟨m.ready,trivial⟩ : Dom.all.T).1)) || (!(within m.pace 1 9)))) rfl rfl ?_
  refine WPl.gv 4 rfl rfl (.plain rfl (by first | (simp; done) | simp only [Bool.not_eq_true']) rfl) (fun hb => o_fldp F68_2 rfl) ?_
  refine WPl.gv 4 rfl rfl (.plain rfl (by first | (simp; done) | simp only [Bool.not_eq_true']) rfl) (fun hb => o_ldp S3 rfl rfl rfl) ?_
  refine WPl.gc0 4 rfl rfl (.plain rfl (by first | (simp; done) | simp only [Bool.not_eq_true']) rfl) (fun hb => o_sig 5 id (c52 m.stops 0 1) e52 rfl rfl rfl w52 trivial r52) ?_
  refine WPl.gv 4 rfl rfl (.plain rfl (by first | (simp; done) | simp only [Bool.not_eq_true']) rfl) (fun hb => o_not rfl) ?_
  refine WPl.v rfl (o_or rfl rfl rfl (by first | (simp; done) | exact fun h => by rw [h]; rfl | exact fun h => Bool.and_eq_true_iff.2 ⟨hb,by rw [h]; rfl⟩ | simp_all)) ?_
  refine WPl.v rfl (o_assign rfl) ?_
  refine WPl.nil (EX.then (WP.ret ?_))
  rw [show (!m.chk) = (((!within m.ready 0 99) || !within m.pace 1 9) || !within m.stops 0 1) from by unfold TM.chk; rw [Bool.not_and,Bool.not_and]]
  exact EX.fin id (.inl rfl) rfl (.tmp rfl .nil) rfl (by simp [SV.res,El.res,At.res,keys]) trivial (by simp) (by simp)
theorem w58 {b : TBd} {h : Hall} : ∀ x ∈ ([.e (.g [ai (b.train),ai (b.hundreds),ai (b.edition)]),.e (.a (.q 0))] : List SV),x.res (keys (α := Pred) [(0,PP EHo (h))]) := by simp [SV.res,El.res,At.res,keys]
set_option maxHeartbeats 4000000 in
theorem c58 (b : TBd) (h : Hall) (hl : h.trains.length ≤ 1000) : Sig Try.prog 58 [.e (.g [ai (b.train),ai (b.hundreds),ai (b.edition)]),.e (.a (.q 0))] [(0,PP EHo (h))] (.b (!b.chk h.trains.length)) [] := by
  refine Sig.intro Try.func58 rfl 1 [(0,.e (.g [ai (b.train),ai (b.hundreds),ai (b.edition)])),(1,.e (.a (.q 0)))] rfl w58 rfl rfl fun I w => ?_
  refine WP.seq (WP.region ?_)
  refine WPl.l 1 2 rfl rfl rfl (o_boxg rfl) ?_
  refine WPl.v rfl (o_assign rfl) ?_
  refine WPl.nil (EX.then (WP.seq (WP.region ?_)))
  refine WPl.cs 5 rfl rfl rfl rfl (o_ldqm (cs0 := [.q 2,.q 3,.q 4,ai (h.change)]) (X' := [(2,PL ETm (h.machs)),(3,PL EBd (h.buns)),(4,PL EP.int (h.trains))]) 2 G26 rfl (lx rfl) rfl rfl rfl) ?_
  refine WPl.v rfl (o_fldp F58_0 rfl) ?_
  refine WPl.v rfl (o_ldp S3 rfl rfl rfl) ?_
  refine WPl.cs 5 rfl rfl rfl rfl (o_sig 5 (ren [(0,2),(1,3),(2,4)]) (c59 h b.train (by omega)) e59 rfl rfl rfl w59 ⟨(lx rfl),(lx rfl),(lx rfl),trivial⟩ r59) ?_
  refine WPl.v rfl (o_not rfl) ?_
  refine WPl.v rfl (o_move rfl) ?_
  refine WPl.bit 5 6 (!(!(within b.train 0 ((h.trains.length : Int) - 1)))) rfl rfl ?_
  refine WPl.gv 5 rfl rfl (.plain rfl (by first | (simp; done) | simp only [Bool.not_eq_true']) rfl) (fun hb => o_fldp F58_1 rfl) ?_
  refine WPl.gv 5 rfl rfl (.plain rfl (by first | (simp; done) | simp only [Bool.not_eq_true']) rfl) (fun hb => o_ldp S3 rfl rfl rfl) ?_
  refine WPl.gc0 5 rfl rfl (.plain rfl (by first | (simp; done) | simp only [Bool.not_eq_true']) rfl) (fun hb => o_sig 6 id (c52 b.hundreds 1 9) e52 rfl rfl rfl w52 trivial r52) ?_
  refine WPl.gv 5 rfl rfl (.plain rfl (by first | (simp; done) | simp only [Bool.not_eq_true']) rfl) (fun hb => o_not rfl) ?_
  refine WPl.v rfl (o_or rfl rfl rfl (by first | (simp; done) | exact fun h => by rw [h]; rfl | exact fun h => Bool.and_eq_true_iff.2 ⟨hb,by rw [h]; rfl⟩ | simp_all)) ?_
  refine WPl.v rfl (o_move rfl) ?_
  refine WPl.bit 6 7 (!((!(within b.train 0 ((h.trains.length : Int) - 1))) || (!(within b.hundreds 1 9)))) rfl rfl ?_
  refine WPl.gv 6 rfl rfl (.plain rfl (by first | (simp; done) | simp only [Bool.not_eq_true']) rfl) (fun hb => o_fldp F58_2 rfl) ?_
  refine WPl.gv 6 rfl rfl (.plain rfl (by first | (simp; done) | simp only [Bool.not_eq_true']) rfl) (fun hb => o_ldp S3 rfl rfl rfl) ?_
  refine WPl.gc0 6 rfl rfl (.plain rfl (by first | (simp; done) | simp only [Bool.not_eq_true']) rfl) (fun hb => o_sig 7 id (c52 b.edition 0 3) e52 rfl rfl rfl w52 trivial r52) ?_
  refine WPl.gv 6 rfl rfl (.plain rfl (by first | (simp; done) | simp only [Bool.not_eq_true']) rfl) (fun hb => o_not rfl) ?_
  refine WPl.v rfl (o_or rfl rfl rfl (by first | (simp; done) | exact fun h => by rw [h]; rfl | exact fun h => Bool.and_eq_true_iff.2 ⟨hb,by rw [h]; rfl⟩ | simp_all)) ?_
  refine WPl.v rfl (o_assign rfl) ?_
  refine WPl.nil (EX.then (WP.ret ?_))
  rw [show (!b.chk h.trains.length) = (((!within b.train 0 ((h.trains.length : Int) - 1)) || !within b.hundreds 1 9) || !within b.edition 0 3) from by unfold TBd.chk; rw [Bool.not_and,Bool.not_and]]
  exact EX.fin id (.inl rfl) rfl (.tmp rfl .nil) rfl (by simp [SV.res,El.res,At.res,keys]) trivial (by simp) (by simp)
theorem w26 {h : Hall} : ∀ x ∈ ([.e (.g [.q 0,.q 1,.q 2,ai (h.change)])] : List SV),x.res (keys (α := Pred) [(0,PL ETm (h.machs)),(1,PL EBd (h.buns)),(2,PL EP.int (h.trains))]) := by simp [SV.res,El.res,At.res,keys]
theorem r26 {h : Hall} : SV.res (keys (α := Pred) []) (.i (errH h.house)) := by simp [SV.res,El.res,At.res,keys]
set_option maxHeartbeats 4000000 in
theorem c26 (h : Hall) (hm : h.Small) : Sig Try.prog 26 [.e (.g [.q 0,.q 1,.q 2,ai (h.change)])] [(0,PL ETm (h.machs)),(1,PL EBd (h.buns)),(2,PL EP.int (h.trains))] (.i (errH h.house)) [] := by
  have hm1 := hm.m
  have hm2 := hm.b
  have hm3 := hm.t
  refine Sig.intro Try.func26 rfl 3 [(0,.e (.g [.q 0,.q 1,.q 2,ai (h.change)]))] rfl w26 rfl rfl fun I w => ?_
  refine WP.seq (WP.region ?_)
  refine WPl.l 3 4 rfl rfl rfl (o_boxg rfl) ?_
  refine WPl.v rfl (o_assign rfl) ?_
  refine WPl.nil (EX.then (WP.seq (WP.region ?_)))
  refine WPl.l 4 5 rfl rfl rfl (o_alloc Z97) ?_
  refine WPl.s1 (o_sta S97 rfl rfl rfl trivial rfl) ?_
  refine WPl.nil (EX.then (WP.seq (WP.seq (WP.region ?_))))
  refine WPl.imp (Imp.nam 5 6 (.func (.func 51) #[] #[]) (R := (HitI Dom.all (fun x0 => within x0 0 99)).and (Pred.is (.func (.func 51) #[] #[]))) (fun I => FvP.namee (fun (o : Dom.all.T) => (c51 o.1)) e51 (fun _ => (by simp [SV.res,El.res,At.res,keys])) I) rfl rfl) ?_
  refine WPl.imp (Imp.cellf 4 rfl) ?_
  refine WPl.imp (Imp.swL 4 0 5 rfl rfl (lxr rfl)) ?_
  refine WPl.imp (Imp.frzb (E := EP.box (HitI Dom.all (fun x0 => within x0 0 99))) (y := ()) 4 6 7 rfl rfl (bok_box (lxl rfl)) rfl rfl rfl) ?_
  refine WPl.v rfl (o_fldp F26_0 rfl) ?_
  refine WPl.v rfl (o_ldp S22 rfl rfl rfl) ?_
  refine WPl.v rfl (o_lenq L22 rfl (lx rfl)) ?_
  refine WPl.cs 7 rfl rfl rfl rfl (o_sig 7 id (c52 (h.machs.length : Int) 1 3) e52 rfl rfl rfl w52 trivial r52) ?_
  refine WPl.v rfl (o_not rfl) ?_
  refine WPl.v rfl (o_move rfl) ?_
  refine WPl.bit 7 8 (!(!(within (h.machs.length : Int) 1 3))) rfl rfl ?_
  refine WPl.gv 7 rfl rfl (.plain rfl (by first | (simp; done) | simp only [Bool.not_eq_true']) rfl) (fun hb => o_fldp F26_1 rfl) ?_
  refine WPl.gv 7 rfl rfl (.plain rfl (by first | (simp; done) | simp only [Bool.not_eq_true']) rfl) (fun hb => o_ldp S23 rfl rfl rfl) ?_
  refine WPl.gv 7 rfl rfl (.plain rfl (by first | (simp; done) | simp only [Bool.not_eq_true']) rfl) (fun hb => o_lenq L23 rfl (lx rfl)) ?_
  refine WPl.gv 7 rfl rfl (.plain rfl (by first | (simp; done) | simp only [Bool.not_eq_true']) rfl) (fun hb => o_gtr rfl rfl) ?_
  refine WPl.v rfl (o_or rfl rfl rfl (by first | (simp; done) | exact fun h => by rw [h]; rfl | exact fun h => Bool.and_eq_true_iff.2 ⟨hb,by rw [h]; rfl⟩ | simp_all)) ?_
  refine WPl.v rfl (o_move rfl) ?_
  refine WPl.bit 8 9 (!((!(within (h.machs.length : Int) 1 3)) || (decide (5 < (h.buns.length : Int))))) rfl rfl ?_
  refine WPl.gv 8 rfl rfl (.plain rfl (by first | (simp; done) | simp only [Bool.not_eq_true']) rfl) (fun hb => o_fldp F26_2 rfl) ?_
  refine WPl.gv 8 rfl rfl (.plain rfl (by first | (simp; done) | simp only [Bool.not_eq_true']) rfl) (fun hb => o_ldp S24 rfl rfl rfl) ?_
  refine WPl.gv 8 rfl rfl (.plain rfl (by first | (simp; done) | simp only [Bool.not_eq_true']) rfl) (fun hb => o_lenq L24 rfl (lx rfl)) ?_
  refine WPl.gv 8 rfl rfl (.plain rfl (by first | (simp; done) | simp only [Bool.not_eq_true']) rfl) (fun hb => o_gtr rfl rfl) ?_
  refine WPl.v rfl (o_or rfl rfl rfl (by first | (simp; done) | exact fun h => by rw [h]; rfl | exact fun h => Bool.and_eq_true_iff.2 ⟨hb,by rw [h]; rfl⟩ | simp_all)) ?_
  refine WPl.v rfl (o_move rfl) ?_
  refine WPl.bit 9 10 (!(((!(within (h.machs.length : Int) 1 3)) || (decide (5 < (h.buns.length : Int)))) || (decide (4 < (h.trains.length : Int))))) rfl rfl ?_
  refine WPl.gv 9 rfl rfl (.plain rfl (by first | (simp; done) | simp only [Bool.not_eq_true']) rfl) (fun hb => o_fldp F26_3 rfl) ?_
  refine WPl.gv 9 rfl rfl (.plain rfl (by first | (simp; done) | simp only [Bool.not_eq_true']) rfl) (fun hb => o_ldp S3 rfl rfl rfl) ?_
  refine WPl.gc0 9 rfl rfl (.plain rfl (by first | (simp; done) | simp only [Bool.not_eq_true']) rfl) (fun hb => o_sig 10 id (c52 h.change 0 9) e52 rfl rfl rfl w52 trivial r52) ?_
  refine WPl.gv 9 rfl rfl (.plain rfl (by first | (simp; done) | simp only [Bool.not_eq_true']) rfl) (fun hb => o_not rfl) ?_
  refine WPl.v rfl (o_or rfl rfl rfl (by first | (simp; done) | exact fun h => by rw [h]; rfl | exact fun h => Bool.and_eq_true_iff.2 ⟨hb,by rw [h]; rfl⟩ | simp_all)) ?_
  refine WPl.v rfl (o_move rfl) ?_
  refine WPl.bit 10 11 (!((((!(within (h.machs.length : Int) 1 3)) || (decide (5 < (h.buns.length : Int)))) || (decide (4 < (h.trains.length : Int)))) || (!(within h.change 0 9)))) rfl rfl ?_
  refine WPl.gv 10 rfl rfl (.plain rfl (by first | (simp; done) | simp only [Bool.not_eq_true']) rfl) (fun hb => o_fldp F26_2 rfl) ?_
  refine WPl.gv 10 rfl rfl (.plain rfl (by first | (simp; done) | simp only [Bool.not_eq_true']) rfl) (fun hb => o_ldp S24 rfl rfl rfl) ?_
  refine WPl.gx 10 11 12 rfl rfl rfl rfl (.plain rfl (by first | (simp; done) | simp only [Bool.not_eq_true']) rfl) (fun hb => o_mkfve (svs := fun (o : Dom.all.T) => [.i (o.1)]) (X0 := fun (o : Dom.all.T) => []) (sv := fun (o : Dom.all.T) => .b ((fun x0 => !within x0 0 99) o.1)) (X := fun (o : Dom.all.T) => []) (cs := [.e (.a (.q 0))]) (Xc := [(0,PP (EP.box (HitI Dom.all (fun x0 => within x0 0 99))) ())]) 11 (ren [(0,6)]) (fun (o : Dom.all.T) => (c54 o.1)) e54 (fun _ => rfl) rfl SvsOK.rf (fun _ => (by simp [SV.res,El.res,At.res,keys])) (by simp [SV.res,El.res,At.res,keys]) ⟨(lx rfl),trivial⟩) ?_
  refine WPl.gc0 10 rfl rfl (.plain rfl (by first | (simp; done) | simp only [Bool.not_eq_true']) rfl) (fun hb => o_sig 12 (ren [(0,2),(1,11)]) (c53 h.trains Dom.all (fun x0 => !within x0 0 99) (by omega) (fun _ _ => trivial)) e53 rfl rfl rfl w53 ⟨(lx rfl),(lxi hb rfl),trivial⟩ r53) ?_
  refine WPl.v rfl (o_or rfl rfl rfl (by first | (simp; done) | exact fun h => by rw [h]; rfl | exact fun h => Bool.and_eq_true_iff.2 ⟨hb,by rw [h]; rfl⟩ | simp_all)) ?_
  refine WPl.nil (EX.then ?_)
  refine WP.cond rfl (fun hc1 => ?_) (fun hc1 => ?_)
  · try simp only [cnd] at hc1
    refine WP.seq (WP.region ?_)
    refine WPl.v rfl (o_assign rfl) ?_
    refine WPl.nil (EX.then (WP.ret (EX.ret_then ?_)))
    rw [show errH h.house = 40 from by rw [show h.house = false from house_false hc1]; rfl]
    exact EX.fin id (.inl rfl) rfl (.tmp rfl .nil) rfl (by simp [SV.res,El.res,At.res,keys]) trivial (by simp) (by simp)
  · try simp only [cnd] at hc1
    refine WP.skip (EX.then (WP.seq (WP.seq (WP.region ?_))))
    refine WPl.imp (Imp.frzb (E := EHo) (y := h) 3 12 13 rfl rfl (bok_str ⟨⟨_,rfl,(lx rfl)⟩,⟨_,rfl,(lx rfl)⟩,⟨_,rfl,(lx rfl)⟩,rfl,trivial⟩) rfl rfl rfl) ?_
    refine WPl.v rfl (o_fldq F26_0 rfl (lx rfl)) ?_
    refine WPl.x 13 14 rfl rfl rfl (o_ldex S22 rfl (lx rfl) (strS rfl)) ?_
    refine WPl.x 14 15 rfl rfl rfl (o_mkfve (svs := fun (o : TM) => [.e (.g [ai (o.ready),ai (o.pace),ai (o.stops)])]) (X0 := fun (o : TM) => []) (sv := fun (o : TM) => .b ((fun x0 => !x0.chk) o)) (X := fun (o : TM) => []) (cs := [.e (.a (.q 0))]) (Xc := [(0,PP (EP.box (HitI Dom.all (fun x0 => within x0 0 99))) ())]) 14 (ren [(0,6)]) (fun (o : TM) => (c56 o)) e56 (fun _ => rfl) rfl SvsOK.rf (fun _ => (by simp [SV.res,El.res,At.res,keys])) (by simp [SV.res,El.res,At.res,keys]) ⟨(lx rfl),trivial⟩) ?_
    refine WPl.cs 15 rfl rfl rfl rfl (o_sig 15 (ren [(0,13),(1,14)]) (c55 h.machs (fun x0 => !x0.chk) (by omega)) e55 rfl rfl rfl w55 ⟨(lx rfl),(lx rfl),trivial⟩ r55) ?_
    refine WPl.v rfl (o_move rfl) ?_
    refine WPl.bit 15 16 (!(anyG (fun x0 => !x0.chk) h.machs)) rfl rfl ?_
    refine WPl.gv 15 rfl rfl (.plain rfl (by first | (simp; done) | simp only [Bool.not_eq_true']) rfl) (fun hb => o_fldq F26_1 rfl (lx rfl)) ?_
    refine WPl.gx 15 16 17 rfl rfl rfl rfl (.plain rfl (by first | (simp; done) | simp only [Bool.not_eq_true']) rfl) (fun hb => o_ldex S23 rfl (lx rfl) (strS rfl)) ?_
    refine WPl.gx 15 17 18 rfl rfl rfl rfl (.plain rfl (by first | (simp; done) | simp only [Bool.not_eq_true']) rfl) (fun hb => o_mkfve (svs := fun (o : TBd) => [.e (.g [ai (o.train),ai (o.hundreds),ai (o.edition)])]) (X0 := fun (o : TBd) => []) (sv := fun (o : TBd) => .b ((fun x0 => !x0.chk h.trains.length) o)) (X := fun (o : TBd) => []) (cs := [.e (.a (.q 0))]) (Xc := [(0,PP EHo (h))]) 17 (ren [(0,12)]) (fun (o : TBd) => (c58 o h (by omega))) e58 (fun _ => rfl) rfl SvsOK.rf (fun _ => (by simp [SV.res,El.res,At.res,keys])) (by simp [SV.res,El.res,At.res,keys]) ⟨(lx rfl),trivial⟩) ?_
    refine WPl.gc0 15 rfl rfl (.plain rfl (by first | (simp; done) | simp only [Bool.not_eq_true']) rfl) (fun hb => o_sig 18 (ren [(0,16),(1,17)]) (c57 h.buns (fun x0 => !x0.chk h.trains.length) (by omega)) e57 rfl rfl rfl w57 ⟨(lxi hb rfl),(lxi hb rfl),trivial⟩ r57) ?_
    refine WPl.v rfl (o_or rfl rfl rfl (by first | (simp; done) | exact fun h => by rw [h]; rfl | exact fun h => Bool.and_eq_true_iff.2 ⟨hb,by rw [h]; rfl⟩ | simp_all)) ?_
    refine WPl.nil (EX.then ?_)
    refine WP.cond rfl (fun hc2 => ?_) (fun hc2 => ?_)
    · try simp only [cnd] at hc2
      refine WP.seq (WP.region ?_)
      refine WPl.v rfl (o_assign rfl) ?_
      refine WPl.nil (EX.then (WP.ret (EX.ret_then ?_)))
      rw [show errH h.house = 40 from by rw [show h.house = false from house_false2 hc2]; rfl]
      exact EX.fin id (.inl rfl) rfl (.tmp rfl .nil) rfl (by simp [SV.res,El.res,At.res,keys]) trivial (by simp) (by simp)
    · try simp only [cnd] at hc2
      refine WP.skip (EX.then (WP.seq (WP.region ?_)))
      refine WPl.v rfl (o_assign rfl) ?_
      refine WPl.nil (EX.then (WP.ret ?_))
      rw [show errH h.house = 0 from errH_eq.2 (house_true hc1 hc2)]
      exact EX.fin id (.inl rfl) rfl (.tmp rfl .nil) rfl (by simp [SV.res,El.res,At.res,keys]) trivial (by simp) (by simp)
theorem w89 {n : Int} : ∀ x ∈ ([.i (n)] : List SV),x.res (keys (α := Pred) []) := by simp [SV.res,El.res,At.res,keys]
theorem r89 {n : Int} : SV.res (keys (α := Pred) []) (.b (!within n 0 2)) := by simp [SV.res,El.res,At.res,keys]
set_option maxHeartbeats 4000000 in
theorem c89 (n : Int)  : Sig Try.prog 89 [.i (n)] [] (.b (!within n 0 2)) [] := by
  refine Sig.intro Try.func89 rfl 0 [(0,.i (n))] rfl w89 rfl rfl fun I w => ?_
  refine WP.seq (WP.region ?_)
  refine WPl.v rfl (o_assign rfl) ?_
  refine WPl.nil (EX.then (WP.seq (WP.region ?_)))
  refine WPl.v rfl (o_move rfl) ?_
  refine WPl.cs 0 rfl rfl rfl rfl (o_sig 0 id (c69 n 0 2) e69 rfl rfl rfl w69 trivial r69) ?_
  refine WPl.v rfl (o_not rfl) ?_
  refine WPl.v rfl (o_assign rfl) ?_
  refine WPl.nil (EX.then (WP.ret ?_))
  exact EX.fin id (.inl rfl) rfl (.tmp rfl .nil) rfl r89 trivial (by simp) (by simp)
theorem w90 {b : TBd} {h : Hall} : ∀ x ∈ ([.e (.g [ai (b.train),ai (b.hundreds),ai (b.edition)]),.e (.a (.q 0))] : List SV),x.res (keys (α := Pred) [(0,PP EHa (h))]) := by simp [SV.res,El.res,At.res,keys]
theorem r90 {b : TBd} {h : Hall} : SV.res (keys (α := Pred) []) (.b (decide ((h.eds.length : Int) ≤ b.edition))) := by simp [SV.res,El.res,At.res,keys]
set_option maxHeartbeats 4000000 in
theorem c90 (b : TBd) (h : Hall)  : Sig Try.prog 90 [.e (.g [ai (b.train),ai (b.hundreds),ai (b.edition)]),.e (.a (.q 0))] [(0,PP EHa (h))] (.b (decide ((h.eds.length : Int) ≤ b.edition))) [] := by
  refine Sig.intro Try.func90 rfl 1 [(0,.e (.g [ai (b.train),ai (b.hundreds),ai (b.edition)])),(1,.e (.a (.q 0)))] rfl w90 rfl rfl fun I w => ?_
  refine WP.seq (WP.region ?_)
  refine WPl.l 1 2 rfl rfl rfl (o_boxg rfl) ?_
  refine WPl.v rfl (o_assign rfl) ?_
  refine WPl.nil (EX.then (WP.seq (WP.region ?_)))
  refine WPl.v rfl (o_fldp F58_2 rfl) ?_
  refine WPl.v rfl (o_ldp S3 rfl rfl rfl) ?_
  refine WPl.v rfl (o_fldq F29_2 rfl (lx rfl)) ?_
  refine WPl.x 2 3 rfl rfl rfl (o_ldex S27 rfl (lx rfl) (strS rfl)) ?_
  refine WPl.v rfl (o_lenq L27 rfl (lx rfl)) ?_
  refine WPl.v rfl (o_geq rfl rfl) ?_
  refine WPl.v rfl (o_assign rfl) ?_
  refine WPl.nil (EX.then (WP.ret ?_))
  exact EX.fin id (.inl rfl) rfl (.tmp rfl .nil) rfl r90 trivial (by simp) (by simp)
theorem w65 {h : Hall} : ∀ x ∈ ([.e (.g [.q 0,.q 1,.q 2,ai (h.change),.q 3,.q 4])] : List SV),x.res (keys (α := Pred) [(0,PL ETm (h.machs)),(1,PL EBd (h.buns)),(2,PL EP.int (h.trains)),(3,PL EP.int (h.bores)),(4,PL (EP.sl EP.int) (h.eds))]) := by simp [SV.res,El.res,At.res,keys]
theorem r65 {h : Hall} : SV.res (keys (α := Pred) []) (.i (errL h.chk)) := by simp [SV.res,El.res,At.res,keys]
set_option maxHeartbeats 4000000 in
theorem c65 (h : Hall) (hm : h.Small) : Sig Try.prog 65 [.e (.g [.q 0,.q 1,.q 2,ai (h.change),.q 3,.q 4])] [(0,PL ETm (h.machs)),(1,PL EBd (h.buns)),(2,PL EP.int (h.trains)),(3,PL EP.int (h.bores)),(4,PL (EP.sl EP.int) (h.eds))] (.i (errL h.chk)) [] := by
  have hm1 := hm.m
  have hm2 := hm.b
  have hm3 := hm.t
  have hm4 := hm.o
  have hm5 := hm.e
  have hm6 := hm.p
  refine Sig.intro Try.func65 rfl 5 [(0,.e (.g [.q 0,.q 1,.q 2,ai (h.change),.q 3,.q 4]))] rfl w65 rfl rfl fun I w => ?_
  refine WP.seq (WP.region ?_)
  refine WPl.l 5 6 rfl rfl rfl (o_boxg rfl) ?_
  refine WPl.v rfl (o_assign rfl) ?_
  refine WPl.nil (EX.then (WP.seq (WP.seq (WP.region ?_))))
  refine WPl.v rfl (o_fldp F29_0 rfl) ?_
  refine WPl.v rfl (o_ldpg G26 rfl rfl rfl) ?_
  refine WPl.cs 6 rfl rfl rfl rfl (o_sig 6 (ren [(0,0),(1,1),(2,2)]) (c26 h hm) e26 rfl rfl rfl w26 ⟨(lx rfl),(lx rfl),(lx rfl),trivial⟩ r26) ?_
  refine WPl.v rfl (o_neq rfl rfl) ?_
  refine WPl.v rfl (o_move rfl) ?_
  refine WPl.bit 6 7 (!(decide ((errH h.house) ≠ 0))) rfl rfl ?_
  refine WPl.gv 6 rfl rfl (.plain rfl (by first | (simp; done) | simp only [Bool.not_eq_true']) rfl) (fun hb => o_fldp F29_1 rfl) ?_
  refine WPl.gv 6 rfl rfl (.plain rfl (by first | (simp; done) | simp only [Bool.not_eq_true']) rfl) (fun hb => o_ldp S24 rfl rfl rfl) ?_
  refine WPl.gv 6 rfl rfl (.plain rfl (by first | (simp; done) | simp only [Bool.not_eq_true']) rfl) (fun hb => o_lenq L24 rfl (lx rfl)) ?_
  refine WPl.gv 6 rfl rfl (.plain rfl (by first | (simp; done) | simp only [Bool.not_eq_true']) rfl) (fun hb => o_fldp F29_0 rfl) ?_
  refine WPl.gv 6 rfl rfl (.plain rfl (by first | (simp; done) | simp only [Bool.not_eq_true']) rfl) (fun hb => o_fldp F26_0 rfl) ?_
  refine WPl.gv 6 rfl rfl (.plain rfl (by first | (simp; done) | simp only [Bool.not_eq_true']) rfl) (fun hb => o_ldp S22 rfl rfl rfl) ?_
  refine WPl.gv 6 rfl rfl (.plain rfl (by first | (simp; done) | simp only [Bool.not_eq_true']) rfl) (fun hb => o_lenq L22 rfl (lx rfl)) ?_
  refine WPl.gv 6 rfl rfl (.plain rfl (by first | (simp; done) | simp only [Bool.not_eq_true']) rfl) (fun hb => o_neq rfl rfl) ?_
  refine WPl.v rfl (o_or rfl rfl rfl (by first | (simp; done) | exact fun h => by rw [h]; rfl | exact fun h => Bool.and_eq_true_iff.2 ⟨hb,by rw [h]; rfl⟩ | simp_all)) ?_
  refine WPl.v rfl (o_move rfl) ?_
  refine WPl.bit 7 8 (!((decide ((errH h.house) ≠ 0)) || (decide ((h.bores.length : Int) ≠ (h.machs.length : Int))))) rfl rfl ?_
  refine WPl.gv 7 rfl rfl (.plain rfl (by first | (simp; done) | simp only [Bool.not_eq_true']) rfl) (fun hb => o_fldp F29_2 rfl) ?_
  refine WPl.gv 7 rfl rfl (.plain rfl (by first | (simp; done) | simp only [Bool.not_eq_true']) rfl) (fun hb => o_ldp S27 rfl rfl rfl) ?_
  refine WPl.gv 7 rfl rfl (.plain rfl (by first | (simp; done) | simp only [Bool.not_eq_true']) rfl) (fun hb => o_lenq L27 rfl (lx rfl)) ?_
  refine WPl.gv 7 rfl rfl (.plain rfl (by first | (simp; done) | simp only [Bool.not_eq_true']) rfl) (fun hb => o_gtr rfl rfl) ?_
  refine WPl.v rfl (o_or rfl rfl rfl (by first | (simp; done) | exact fun h => by rw [h]; rfl | exact fun h => Bool.and_eq_true_iff.2 ⟨hb,by rw [h]; rfl⟩ | simp_all)) ?_
  refine WPl.nil (EX.then ?_)
  refine WP.cond rfl (fun hc1 => ?_) (fun hc1 => ?_)
  · try simp only [cnd] at hc1
    refine WP.seq (WP.region ?_)
    refine WPl.v rfl (o_assign rfl) ?_
    refine WPl.nil (EX.then (WP.ret (EX.ret_then ?_)))
    rw [show errL h.chk = 90 from by rw [show h.chk = false from by unfold Hall.chk; rw [show h.hallHd = false from hallHd_false hc1]; simp]; rfl]
    exact EX.fin id (.inl rfl) rfl (.tmp rfl .nil) rfl (by simp [SV.res,El.res,At.res,keys]) trivial (by simp) (by simp)
  · try simp only [cnd] at hc1
    have hhd : h.hallHd = true := hallHd_true hc1
    refine WP.skip (EX.then (WP.seq (WP.seq (WP.region ?_))))
    refine WPl.v rfl (o_fldp F29_1 rfl) ?_
    refine WPl.v rfl (o_ldp S24 rfl rfl rfl) ?_
    refine WPl.imp (Imp.nam 8 9 (.func (.func 89) #[] #[]) (R := (HitI Dom.all (fun x0 => !within x0 0 2)).and (Pred.is (.func (.func 89) #[] #[]))) (fun I => FvP.namee (fun (o : Dom.all.T) => (c89 o.1)) e89 (fun _ => (by simp [SV.res,El.res,At.res,keys])) I) rfl rfl) ?_
    refine WPl.cs 9 rfl rfl rfl rfl (o_sigc 9 (ren [(0,3),(1,8)]) (c53 h.bores Dom.all (fun x0 => !within x0 0 2) (by omega) (fun _ _ => trivial)) e53 rfl rfl ⟨.inl rfl,.inr ⟨_,_,rfl,fun _ => rfl,(lxr rfl)⟩,trivial⟩ w53 ⟨(lx rfl),(lxl rfl),trivial⟩ r53) ?_
    refine WPl.nil (EX.then ?_)
    refine WP.cond rfl (fun hc2 => ?_) (fun hc2 => ?_)
    · try simp only [cnd] at hc2
      refine WP.seq (WP.region ?_)
      refine WPl.v rfl (o_assign rfl) ?_
      refine WPl.nil (EX.then (WP.ret (EX.ret_then ?_)))
      rw [show errL h.chk = 90 from by rw [show h.chk = false from by unfold Hall.chk; rw [show allI h.borOK h.bores.length = false from by rw [anyO,Bool.not_eq_true'] at hc2; exact hc2]; simp]; rfl]
      exact EX.fin id (.inl rfl) rfl (.tmp rfl .nil) rfl (by simp [SV.res,El.res,At.res,keys]) trivial (by simp) (by simp)
    · try simp only [cnd] at hc2
      have ha1 : allI h.borOK h.bores.length = true := by rw [anyO,Bool.not_eq_false'] at hc2; exact hc2
      refine WP.skip (EX.then (WP.seq (WP.seq (WP.region ?_))))
      refine WPl.v rfl (o_fldp F29_2 rfl) ?_
      refine WPl.v rfl (o_ldp S27 rfl rfl rfl) ?_
      refine WPl.v rfl (o_lenq L27 rfl (lx rfl)) ?_
      refine WPl.v rfl (o_move rfl) ?_
      refine WPl.nil (EX.then (WP.block ?_))
      refine WP.loop (Gh := Nat) (fun i => ⟨9,[(1,.e (.a (.p 5 (0)))),(2,.i (0)),(31,.e (.a (.q 4))),(32,.i ((h.eds.length : Int))),(33,.i ((i : Int)))],[(0,PL ETm (h.machs)),(1,PL EBd (h.buns)),(2,PL EP.int (h.trains)),(3,PL EP.int (h.bores)),(4,PL (EP.sl EP.int) (h.eds))],[(5,.blk [.q 0,.q 1,.q 2,ai (h.change),.q 3,.q 4] 29)],[],[]⟩) (fun i => i ≤ h.eds.length ∧ allI h.edOK i = true) (fun i => h.eds.length - i) (0) id ?_ (LeR.of ⟨rfl,rfl,rfl,rfl,rfl,trivial⟩ ⟨(lx rfl),(lx rfl),(lx rfl),(lx rfl),(lx rfl),trivial⟩ ⟨rfl,trivial⟩ rfl rfl rfl rfl rfl) ?_
      · exact ⟨by omega,rfl⟩
      intro i hφ
      have hi : i ≤ h.eds.length := hφ.1
      have hall := hφ.2
      refine WP.seq (WP.region ?_)
      refine WPl.v rfl (o_lss rfl rfl) ?_
      refine WPl.nil (EX.then (WP.seq ?_))
      refine WP.cond rfl (fun hc3 => ?_) (fun hc3 => ?_)
      · try simp only [cnd] at hc3
        have hpl := hm6 i (by omega)
        refine WP.skip (EX.then (WP.seq (WP.block (WP.seq (WP.region ?_)))))
        refine WPl.x 9 10 rfl rfl rfl (o_idx L27 rfl (lx rfl) rfl (by first | omega | (simp; omega)) (by first | omega | (simp; omega))) ?_
        refine WPl.x 10 11 rfl rfl rfl (o_ldqx S24 rfl (lx rfl) slx) ?_
        refine WPl.v rfl (o_assign rfl) ?_
        refine WPl.nil (EX.then (WP.seq (WP.region ?_)))
        refine WPl.v rfl (o_move rfl) ?_
        refine WPl.v rfl (o_lenq L24 rfl (lx rfl)) ?_
        refine WPl.v rfl (o_move rfl) ?_
        refine WPl.nil (EX.then (WP.block ?_))
        refine WP.loop (Gh := Nat) (fun j => ⟨11,[(1,.e (.a (.p 5 (0)))),(2,.i (0)),(31,.e (.a (.q 4))),(32,.i ((h.eds.length : Int))),(33,.i ((i : Int))),(34,.b (decide ((i : Int) < (h.eds.length : Int)))),(35,.e (.a (.q 9))),(36,.e (.a (.q 10))),(4,.e (.a (.q 10))),(37,.e (.a (.q 10))),(38,.i (((nth h.eds (i : Int)).length : Int))),(39,.i ((j : Int)))],[(0,PL ETm (h.machs)),(1,PL EBd (h.buns)),(2,PL EP.int (h.trains)),(3,PL EP.int (h.bores)),(4,PL (EP.sl EP.int) (h.eds)),(9,PP (EP.sl EP.int) (nth h.eds (i : Int))),(10,PL EP.int (nth h.eds (i : Int)))],[(5,.blk [.q 0,.q 1,.q 2,ai (h.change),.q 3,.q 4] 29)],[],[]⟩) (fun j => j ≤ (nth h.eds (i : Int)).length ∧ allI (risingAt (nth h.eds (i : Int)) 0 3) j = true) (fun j => (nth h.eds (i : Int)).length - j) (0) id ?_ (LeR.of ⟨rfl,rfl,rfl,rfl,rfl,rfl,rfl,rfl,rfl,rfl,rfl,rfl,trivial⟩ ⟨(lx rfl),(lx rfl),(lx rfl),(lx rfl),(lx rfl),(lx rfl),(lx rfl),trivial⟩ ⟨rfl,trivial⟩ rfl rfl rfl rfl rfl) ?_
        · exact ⟨by omega,rfl⟩
        intro j hφ
        have hj : j ≤ (nth h.eds (i : Int)).length := hφ.1
        have hin := hφ.2
        refine WP.seq (WP.region ?_)
        refine WPl.v rfl (o_lss rfl rfl) ?_
        refine WPl.nil (EX.then (WP.seq ?_))
        refine WP.cond rfl (fun hc4 => ?_) (fun hc4 => ?_)
        · try simp only [cnd] at hc4
          refine WP.skip (EX.then (WP.seq (WP.block (WP.seq (WP.region ?_)))))
          refine WPl.v rfl (o_move rfl) ?_
          refine WPl.x 11 12 rfl rfl rfl (o_idx L24 rfl (lx rfl) rfl (by first | omega | (simp; omega)) (by first | omega | (simp; omega))) ?_
          refine WPl.v rfl (o_ldq S3 rfl (lx rfl) intc) ?_
          refine WPl.v rfl (o_assign rfl) ?_
          refine WPl.v rfl (o_assign rfl) ?_
          refine WPl.nil (EX.then (WP.seq (WP.region ?_)))
          refine WPl.v rfl (o_move rfl) ?_
          refine WPl.cs 12 rfl rfl rfl rfl (o_sig 12 id (c69 (nth (nth h.eds (i : Int)) (j : Int)) 0 3) e69 rfl rfl rfl w69 trivial r69) ?_
          refine WPl.v rfl (o_not rfl) ?_
          refine WPl.v rfl (o_move rfl) ?_
          refine WPl.bit 12 13 (!(!(within (nth (nth h.eds (i : Int)) (j : Int)) 0 3))) rfl rfl ?_
          refine WPl.gv 12 rfl rfl (.plain rfl (by first | (simp; done) | simp only [Bool.not_eq_true']) rfl) (fun hb => o_move rfl) ?_
          refine WPl.gv 12 rfl rfl (.plain rfl (by first | (simp; done) | simp only [Bool.not_eq_true']) rfl) (fun hb => o_gtr rfl rfl) ?_
          refine WPl.gv 12 rfl rfl (.plain rfl (by first | (simp; done) | simp only [Bool.not_eq_true']) rfl) (fun hb => o_move rfl) ?_
          refine WPl.bit 13 14 ((!(!(within (nth (nth h.eds (i : Int)) (j : Int)) 0 3))) && (decide (0 < (j : Int)))) rfl rfl ?_
          refine WPl.gv 13 rfl rfl (.nest rfl rfl (by first | (simp; done) | simp only [Bool.and_eq_true,Bool.not_eq_true']) rfl) (fun hb => o_move rfl) ?_
          refine WPl.gv 13 rfl rfl (.nest rfl rfl (by first | (simp; done) | simp only [Bool.and_eq_true,Bool.not_eq_true']) rfl) (fun hb => o_move rfl) ?_
          refine WPl.gv 13 rfl rfl (.nest rfl rfl (by first | (simp; done) | simp only [Bool.and_eq_true,Bool.not_eq_true']) rfl) (fun hb => o_move rfl) ?_
          refine WPl.gv 13 rfl rfl (.nest rfl rfl (by first | (simp; done) | simp only [Bool.and_eq_true,Bool.not_eq_true']) rfl) (fun hb => o_sub rfl rfl (by simp at hb; omega) (by simp at hb; omega)) ?_
          refine WPl.gx 13 14 15 rfl rfl rfl rfl (.nest rfl rfl (by first | (simp; done) | simp only [Bool.and_eq_true,Bool.not_eq_true']) rfl) (fun hb => o_idx L24 rfl (lx rfl) rfl (by simp at hb; omega) (by simp at hb; omega)) ?_
          refine WPl.gv 13 rfl rfl (.nest rfl rfl (by first | (simp; done) | simp only [Bool.and_eq_true,Bool.not_eq_true']) rfl) (fun hb => o_ldq S3 rfl (lxi hb rfl) intc) ?_
          refine WPl.gv 13 rfl rfl (.nest rfl rfl (by first | (simp; done) | simp only [Bool.and_eq_true,Bool.not_eq_true']) rfl) (fun hb => o_leq rfl rfl) ?_
          refine WPl.gv 12 rfl rfl (.plain rfl (by first | (simp; done) | simp only [Bool.not_eq_true']) rfl) (fun hb => o_and rfl rfl rfl (by first | (simp; done) | exact fun h => Bool.and_eq_true_iff.2 ⟨hb,h⟩ | simp_all)) ?_
          refine WPl.v rfl (o_or rfl rfl rfl (by first | (simp; done) | exact fun h => by rw [h]; rfl | exact fun h => Bool.and_eq_true_iff.2 ⟨hb,by rw [h]; rfl⟩ | simp_all)) ?_
          refine WPl.nil (EX.then ?_)
          refine WP.cond rfl (fun hc5 => ?_) (fun hc5 => ?_)
          · try simp only [cnd] at hc5
            refine WP.seq (WP.region ?_)
            refine WPl.v rfl (o_assign rfl) ?_
            refine WPl.nil (EX.then (WP.ret (EX.ret_blk (EX.ret_then (EX.ret_then (EX.ret_blk (EX.ret_blk (EX.ret_then (EX.ret_then (EX.ret_blk (EX.ret_then ?_)))))))))))
            rw [show errL h.chk = 90 from by rw [show h.chk = false from by unfold Hall.chk; rw [show allI h.edOK h.eds.length = false from not_allI (show i < h.eds.length by omega) (by unfold Hall.edOK rising; exact not_allI (show j < (nth h.eds (i : Int)).length by omega) (by simp only [risingAt,Bool.and_eq_false_iff,Bool.not_eq_false',Bool.and_eq_true,decide_eq_true_eq]; exact hc5))]; simp]; rfl]
            exact EX.fin id (.inl rfl) rfl (.tmp rfl .nil) rfl (by simp [SV.res,El.res,At.res,keys]) trivial (by simp) (by simp)
          · try simp only [cnd] at hc5
            refine WP.skip (EX.blk (EX.then (WP.region ?_)))
            refine WPl.v rfl (o_add rfl rfl (by first | omega | (simp; omega)) (by first | omega | (simp; omega))) ?_
            refine WPl.v rfl (o_move rfl) ?_
            refine WPl.nil ?_
            refine EX.again (j + 1) id (by exact ⟨by omega,by simp only [allI,hin,Bool.true_and,risingAt,Bool.and_eq_true,Bool.not_eq_true',Bool.and_eq_false_iff,decide_eq_false_iff_not]; exact hc5⟩) (by omega) (LeR.of ⟨rfl,rfl,rfl,rfl,rfl,rfl,rfl,rfl,rfl,rfl,rfl,rfl,trivial⟩ ⟨(lx rfl),(lx rfl),(lx rfl),(lx rfl),(lx rfl),(lx rfl),(lx rfl),trivial⟩ ⟨rfl,trivial⟩ rfl rfl rfl rfl rfl)
        · try simp only [cnd] at hc4
          refine WP.exit (EX.exit_then (EX.exit_then (EX.exit_blk (EX.blk (EX.then (WP.region ?_))))))
          refine WPl.v rfl (o_add rfl rfl (by first | omega | (simp; omega)) (by first | omega | (simp; omega))) ?_
          refine WPl.v rfl (o_move rfl) ?_
          refine WPl.nil ?_
          have hed : h.edOK i = true := by
            unfold Hall.edOK rising
            rw [show (nth h.eds (i : Int)).length = j by omega]
            exact hin
          refine EX.again (i + 1) id (by exact ⟨by omega,by simp only [allI,hall,Bool.true_and]; exact hed⟩) (by omega) (LeR.of ⟨rfl,rfl,rfl,rfl,rfl,trivial⟩ ⟨(lx rfl),(lx rfl),(lx rfl),(lx rfl),(lx rfl),trivial⟩ ⟨rfl,trivial⟩ rfl rfl rfl rfl rfl)
      · try simp only [cnd] at hc3
        have ha2 : allI h.edOK h.eds.length = true := by rw [show h.eds.length = i by omega]; exact hall
        refine WP.exit (EX.exit_then (EX.exit_then (EX.exit_blk (EX.then (WP.seq (WP.seq (WP.region ?_)))))))
        refine WPl.v rfl (o_fldp F29_0 rfl) ?_
        refine WPl.v rfl (o_fldp F26_1 rfl) ?_
        refine WPl.v rfl (o_ldp S23 rfl rfl rfl) ?_
        refine WPl.imp (Imp.frzb (E := EHa) (y := h) 5 9 10 rfl rfl (bok_str ⟨⟨_,rfl,(lx rfl)⟩,⟨_,rfl,(lx rfl)⟩,⟨_,rfl,(lx rfl)⟩,rfl,⟨_,rfl,(lx rfl)⟩,⟨_,rfl,(lx rfl)⟩,trivial⟩) rfl rfl rfl) ?_
        refine WPl.x 10 11 rfl rfl rfl (o_mkfve (svs := fun (o : TBd) => [.e (.g [ai (o.train),ai (o.hundreds),ai (o.edition)])]) (X0 := fun (o : TBd) => []) (sv := fun (o : TBd) => .b ((fun x0 => decide ((h.eds.length : Int) ≤ x0.edition)) o)) (X := fun (o : TBd) => []) (cs := [.e (.a (.q 0))]) (Xc := [(0,PP EHa (h))]) 10 (ren [(0,9)]) (fun (o : TBd) => (c90 o h)) e90 (fun _ => rfl) rfl SvsOK.rf (fun _ => (by simp [SV.res,El.res,At.res,keys])) (by simp [SV.res,El.res,At.res,keys]) ⟨(lx rfl),trivial⟩) ?_
        refine WPl.cs 11 rfl rfl rfl rfl (o_sig 11 (ren [(0,1),(1,10)]) (c57 h.buns (fun x0 => decide ((h.eds.length : Int) ≤ x0.edition)) (by omega)) e57 rfl rfl rfl w57 ⟨(lx rfl),(lx rfl),trivial⟩ r57) ?_
        refine WPl.nil (EX.then ?_)
        refine WP.cond rfl (fun hc6 => ?_) (fun hc6 => ?_)
        · try simp only [cnd] at hc6
          refine WP.seq (WP.region ?_)
          refine WPl.v rfl (o_assign rfl) ?_
          refine WPl.nil (EX.then (WP.ret (EX.ret_then ?_)))
          rw [show errL h.chk = 90 from by rw [show h.chk = false from by unfold Hall.chk; rw [show allI h.beOK h.buns.length = false from by rw [anyE,Bool.not_eq_true'] at hc6; exact hc6]; simp]; rfl]
          exact EX.fin id (.inl rfl) rfl (.tmp rfl .nil) rfl (by simp [SV.res,El.res,At.res,keys]) trivial (by simp) (by simp)
        · try simp only [cnd] at hc6
          refine WP.skip (EX.then (WP.seq (WP.region ?_)))
          refine WPl.v rfl (o_assign rfl) ?_
          refine WPl.nil (EX.then (WP.ret ?_))
          rw [show errL h.chk = 0 from errL_eq.2 (by unfold Hall.chk; rw [hhd,ha1,ha2,show allI h.beOK h.buns.length = true from by rw [anyE,Bool.not_eq_false'] at hc6; exact hc6]; rfl)]
          exact EX.fin id (.inl rfl) rfl (.tmp rfl .nil) rfl (by simp [SV.res,El.res,At.res,keys]) trivial (by simp) (by simp)
theorem w38 {l : List Plate} : ∀ x ∈ ([.e (.a (.q 0))] : List SV),x.res (keys (α := Pred) [(0,PL EPl (l))]) := by simp [SV.res,El.res,At.res,keys]
theorem r38 {l : List Plate} : SV.res (keys (α := Pred) []) (.b (isSet l)) := by simp [SV.res,El.res,At.res,keys]
set_option maxHeartbeats 4000000 in
theorem c38 (l : List Plate) (hl : l.length ≤ 1000) : Sig Try.prog 38 [.e (.a (.q 0))] [(0,PL EPl (l))] (.b (isSet l)) [] := by
  refine Sig.intro Try.func38 rfl 1 [(0,.e (.a (.q 0)))] rfl w38 rfl rfl fun I w => ?_
  refine WP.seq (WP.region ?_)
  refine WPl.v rfl (o_assign rfl) ?_
  refine WPl.nil (EX.then (WP.seq (WP.seq (WP.region ?_))))
  refine WPl.v rfl (o_move rfl) ?_
  refine WPl.v rfl (o_lenq L44 rfl (lx rfl)) ?_
  refine WPl.v rfl (o_move rfl) ?_
  refine WPl.nil (EX.then (WP.block ?_))
  refine WP.loop (Gh := Nat) (fun i => ⟨1,[(0,.e (.a (.q 0))),(2,.b (false)),(5,.e (.a (.q 0))),(6,.i ((l.length : Int))),(7,.i ((i : Int)))],[(0,PL EPl (l))],[],[],[]⟩) (fun i => i ≤ l.length ∧ allI (setAt l) i = true) (fun i => l.length - i) (0) id ?_ (LeR.of ⟨rfl,rfl,rfl,rfl,rfl,trivial⟩ ⟨(lx rfl),trivial⟩ trivial rfl rfl rfl rfl rfl) ?_
  · exact ⟨by omega,rfl⟩
  intro i hφ
  have hi : i ≤ l.length := hφ.1
  have hall := hφ.2
  refine WP.seq (WP.region ?_)
  refine WPl.v rfl (o_lss rfl rfl) ?_
  refine WPl.nil (EX.then (WP.seq ?_))
  refine WP.cond rfl (fun hc1 => ?_) (fun hc1 => ?_)
  · try simp only [cnd] at hc1
    refine WP.skip (EX.then (WP.seq (WP.block (WP.seq (WP.region ?_)))))
    refine WPl.v rfl (o_move rfl) ?_
    refine WPl.x 1 2 rfl rfl rfl (o_idx L44 rfl (lx rfl) rfl (by first | omega | (simp; omega)) (by first | omega | (simp; omega))) ?_
    refine WPl.v rfl (o_ldqg G66 rfl (lx rfl) (strG rfl) rfl rfl) ?_
    refine WPl.l 2 3 rfl rfl rfl (o_alloc Z66) ?_
    refine WPl.v rfl (o_assign rfl) ?_
    refine WPl.s1 (o_stag G66 rfl rfl rfl ⟨rfl,rfl,rfl,trivial⟩ rfl rfl) ?_
    refine WPl.nil (EX.then (WP.seq (WP.seq (WP.region ?_))))
    refine WPl.v rfl (o_fldp F66_0 rfl) ?_
    refine WPl.v rfl (o_ldp S3 rfl rfl rfl) ?_
    refine WPl.cs 3 rfl rfl rfl rfl (o_sig 3 id (c69 ((nth l (i : Int)).page) 0 3) e69 rfl rfl rfl w69 trivial r69) ?_
    refine WPl.v rfl (o_not rfl) ?_
    refine WPl.v rfl (o_move rfl) ?_
    refine WPl.bit 3 4 (!(!(within ((nth l (i : Int)).page) 0 3))) rfl rfl ?_
    refine WPl.gv 3 rfl rfl (.plain rfl (by first | (simp; done) | simp only [Bool.not_eq_true']) rfl) (fun hb => o_fldp F66_1 rfl) ?_
    refine WPl.gv 3 rfl rfl (.plain rfl (by first | (simp; done) | simp only [Bool.not_eq_true']) rfl) (fun hb => o_ldp S3 rfl rfl rfl) ?_
    refine WPl.gc0 3 rfl rfl (.plain rfl (by first | (simp; done) | simp only [Bool.not_eq_true']) rfl) (fun hb => o_sig 4 id (c69 ((nth l (i : Int)).bore) 0 2) e69 rfl rfl rfl w69 trivial r69) ?_
    refine WPl.gv 3 rfl rfl (.plain rfl (by first | (simp; done) | simp only [Bool.not_eq_true']) rfl) (fun hb => o_not rfl) ?_
    refine WPl.v rfl (o_or rfl rfl rfl (by first | (simp; done) | exact fun h => by rw [h]; rfl | exact fun h => Bool.and_eq_true_iff.2 ⟨hb,by rw [h]; rfl⟩ | simp_all)) ?_
    refine WPl.v rfl (o_move rfl) ?_
    refine WPl.bit 4 5 (!((!(within ((nth l (i : Int)).page) 0 3)) || (!(within ((nth l (i : Int)).bore) 0 2)))) rfl rfl ?_
    refine WPl.gv 4 rfl rfl (.plain rfl (by first | (simp; done) | simp only [Bool.not_eq_true']) rfl) (fun hb => o_fldp F66_2 rfl) ?_
    refine WPl.gv 4 rfl rfl (.plain rfl (by first | (simp; done) | simp only [Bool.not_eq_true']) rfl) (fun hb => o_ldp S3 rfl rfl rfl) ?_
    refine WPl.gc0 4 rfl rfl (.plain rfl (by first | (simp; done) | simp only [Bool.not_eq_true']) rfl) (fun hb => o_sig 5 id (c69 ((nth l (i : Int)).many) 1 9) e69 rfl rfl rfl w69 trivial r69) ?_
    refine WPl.gv 4 rfl rfl (.plain rfl (by first | (simp; done) | simp only [Bool.not_eq_true']) rfl) (fun hb => o_not rfl) ?_
    refine WPl.v rfl (o_or rfl rfl rfl (by first | (simp; done) | exact fun h => by rw [h]; rfl | exact fun h => Bool.and_eq_true_iff.2 ⟨hb,by rw [h]; rfl⟩ | simp_all)) ?_
    refine WPl.nil (EX.then ?_)
    refine WP.cond rfl (fun hc2 => ?_) (fun hc2 => ?_)
    · try simp only [cnd] at hc2
      refine WP.seq (WP.region ?_)
      refine WPl.v rfl (o_assign rfl) ?_
      refine WPl.nil (EX.then (WP.ret (EX.ret_then (EX.ret_blk (EX.ret_then (EX.ret_then (EX.ret_blk (EX.ret_then ?_))))))))
      rw [show isSet l = false from not_allI (show i < l.length by omega) (by unfold setAt; rw [show (nth l (i : Int)).chk = false from by unfold Plate.chk; simp only [Bool.and_eq_false_iff]; exact hc2]; rfl)]
      exact EX.fin id (.inl rfl) rfl (.tmp rfl .nil) rfl (by simp [SV.res,El.res,At.res,keys]) trivial (by simp) (by simp)
    · try simp only [cnd] at hc2
      have hpk : (nth l (i : Int)).chk = true := by simp only [Plate.chk,Bool.and_eq_true]; exact hc2
      refine WP.skip (EX.then (WP.seq ?_))
      refine WP.imp (Imp.bit 5 6 (decide (0 < (i : Int))) rfl rfl) ?_
      refine WP.draw (nf := 9) [⟨[],[],[],[],[]⟩,⟨[],[],[],[],[0]⟩,⟨[],[],[],[],[0,1]⟩,⟨[32,33,37,38,40,41,42,43,44,45,46,47],[7],[],[],[0,1,2]⟩,⟨[31,37,38,40,41,42,43,44,45,46,47],[7],[],[],[0,1,2]⟩,⟨[31,37,38,40,41,42,43,44,45,46,47],[7],[],[],[0,1,2,4]⟩,⟨[37,38,40,41,42,43,44,45,46,47],[7],[6],[6],[0,1,2,3,4,5]⟩,⟨[37,38,40,41,42,43,44,45,46,47],[7],[],[],[0,1,2,3,4,5,6]⟩,⟨[37,38,40,41,42,43,44,45,46,47],[7],[],[],[0,1,2,3,4,5,6,7]⟩,⟨[31,32,33,34,35,36,40,41,42,43,44,45,46,47],[6,7],[],[],[0,1,2]⟩,⟨[31,32,33,34,35,36,40,41,42,43,44,45,46,47],[6,7],[],[],[0,1,2,9]⟩,⟨[40,41,42,43,44,45,46,47],[7],[],[],[0,1,2,3,4,5,6,7,8,9,10]⟩,⟨[31,32,33,34,35,36,37,38,39,41,42,46,47],[6],[],[],[0,1,2]⟩,⟨[31,32,33,34,35,36,37,38,39,40,46,47],[6],[],[],[0,1,2]⟩,⟨[31,32,33,34,35,36,37,38,39,40,46,47],[6],[],[],[0,1,2,13]⟩,⟨[31,32,33,34,35,36,37,38,39,46,47],[6],[7],[7],[0,1,2,12,13,14]⟩,⟨[31,32,33,34,35,36,37,38,39,46,47],[6],[],[],[0,1,2,12,13,14,15]⟩,⟨[31,32,33,34,35,36,37,38,39,46,47],[6],[],[],[0,1,2,12,13,14,15,16]⟩,⟨[31,32,33,34,35,36,37,38,39,40,41,42,43,44,45],[6,7],[],[],[0,1,2]⟩,⟨[31,32,33,34,35,36,37,38,39,40,41,42,43,44,45],[6,7],[],[],[0,1,2,18]⟩,⟨[],[],[],[],[0,1,2,3,4,5,6,7,8,9,10,11,12,13,14,15,16,17,18,19]⟩,⟨[],[],[8],[8],[0,1,2,3,4,5,6,7,8,9,10,11,12,13,14,15,16,17,18,19,20]⟩,⟨[],[],[],[],[0,1,2,3,4,5,6,7,8,9,10,11,12,13,14,15,16,17,18,19,20,21]⟩,⟨[],[],[],[],[0,1,2,3,4,5,6,7,8,9,10,11,12,13,14,15,16,17,18,19,20,21,22]⟩,⟨[],[],[],[],[0,1,2,3,4,5,6,7,8,9,10,11,12,13,14,15,16,17,18,19,20,21,22,23]⟩] (by kernel_rfl) (by kernel_rfl) ?_
      refine DRQ.v rfl rfl rfl (o_move rfl) ?_
      refine DRQ.v rfl rfl rfl (o_gtr rfl rfl) ?_
      refine DRQ.v rfl rfl rfl (o_move rfl) ?_
      refine DRQ.gv 5 rfl rfl (.plain rfl Iff.rfl rfl) rfl (fun hb => o_move rfl) ?_
      refine DRQ.gv 5 rfl rfl (.plain rfl Iff.rfl rfl) rfl (fun hb => o_move rfl) ?_
      refine DRQ.gv 5 rfl rfl (.plain rfl Iff.rfl rfl) rfl (fun hb => o_sub rfl rfl (by simp at hb; omega) (by simp at hb; omega)) ?_
      refine DRQ.gx 5 6 rfl rfl (.plain rfl Iff.rfl rfl) rfl rfl (fun hb => o_idx L44 rfl (lx rfl) rfl (by simp at hb; omega) (by simp at hb; omega)) ?_
      refine DRQ.gv 5 rfl rfl (.plain rfl Iff.rfl rfl) rfl (fun hb => o_fldq F66_0 rfl (lxi hb rfl)) ?_
      refine DRQ.gv 5 rfl rfl (.plain rfl Iff.rfl rfl) rfl (fun hb => o_lde S3 rfl (lxi hb rfl) (strI rfl)) ?_
      refine DRQ.gv 5 rfl rfl (.plain rfl Iff.rfl rfl) rfl (fun hb => o_fldp F66_0 rfl) ?_
      refine DRQ.gv 5 rfl rfl (.plain rfl Iff.rfl rfl) rfl (fun hb => o_ldp S3 rfl rfl rfl) ?_
      refine DRQ.gv 5 rfl rfl (.plain rfl Iff.rfl rfl) rfl (fun hb => o_sig 7 id (c71 ((nth l ((i : Int) - 1)).page) ((nth l (i : Int)).page)) e71 rfl rfl rfl w71 trivial r71) ?_
      refine DRQ.gv 5 rfl rfl (.plain rfl Iff.rfl rfl) rfl (fun hb => o_move rfl) ?_
      refine DRQ.gv 5 rfl rfl (.plain rfl Iff.rfl rfl) rfl (fun hb => o_move rfl) ?_
      refine DRQ.gv 5 rfl rfl (.plain rfl Iff.rfl rfl) rfl (fun hb => o_sub rfl rfl (by simp at hb; omega) (by simp at hb; omega)) ?_
      refine DRQ.gx 5 7 rfl rfl (.plain rfl Iff.rfl rfl) rfl rfl (fun hb => o_idx L44 rfl (lx rfl) rfl (by simp at hb; omega) (by simp at hb; omega)) ?_
      refine DRQ.gv 5 rfl rfl (.plain rfl Iff.rfl rfl) rfl (fun hb => o_fldq F66_1 rfl (lxi hb rfl)) ?_
      refine DRQ.gv 5 rfl rfl (.plain rfl Iff.rfl rfl) rfl (fun hb => o_lde S3 rfl (lxi hb rfl) (strI rfl)) ?_
      refine DRQ.gv 5 rfl rfl (.plain rfl Iff.rfl rfl) rfl (fun hb => o_fldp F66_1 rfl) ?_
      refine DRQ.gv 5 rfl rfl (.plain rfl Iff.rfl rfl) rfl (fun hb => o_ldp S3 rfl rfl rfl) ?_
      refine DRQ.gv 5 rfl rfl (.plain rfl Iff.rfl rfl) rfl (fun hb => o_sig 8 id (c71 ((nth l ((i : Int) - 1)).bore) ((nth l (i : Int)).bore)) e71 rfl rfl rfl w71 trivial r71) ?_
      refine DRQ.gx 5 8 rfl rfl (.plain rfl Iff.rfl rfl) rfl rfl (fun hb => OpG.settle0 (o_bsl (E := EP.int) (l := [cmpI ((nth l ((i : Int) - 1)).page) ((nth l (i : Int)).page),cmpI ((nth l ((i : Int) - 1)).bore) ((nth l (i : Int)).bore)]) R24 rfl rfl (.cons (rfl) rfl (eok_int) (.cons (rfl) rfl (eok_int) (.nil))) rfl rfl)) ?_
      refine DRQ.gv 5 rfl rfl (.plain rfl Iff.rfl rfl) rfl (fun hb => o_sig 9 (ren [(0,8)]) (c70 [cmpI ((nth l ((i : Int) - 1)).page) ((nth l (i : Int)).page),cmpI ((nth l ((i : Int) - 1)).bore) ((nth l (i : Int)).bore)] (by simp)) e70 rfl rfl rfl w70 ⟨(lxi hb rfl),trivial⟩ r70) ?_
      refine DRQ.gv 5 rfl rfl (.plain rfl Iff.rfl rfl) rfl (fun hb => o_geq rfl rfl) ?_
      refine DRQ.v rfl rfl rfl (o_and rfl rfl rfl id) ?_
      refine DRQ.nil' ?_
      refine EX.then ?_
      refine WP.cond rfl (fun hc3 => ?_) (fun hc3 => ?_)
      · try simp only [cnd] at hc3
        refine WP.seq (WP.region ?_)
        refine WPl.v rfl (o_assign rfl) ?_
        refine WPl.nil (EX.then (WP.ret (EX.ret_blk (EX.ret_then (EX.ret_then (EX.ret_blk (EX.ret_then ?_)))))))
        rw [show isSet l = false from not_allI (show i < l.length by omega) (by unfold setAt; rw [hpk,Bool.true_and]; simp only [Bool.not_eq_false',Bool.and_eq_true,decide_eq_true_eq]; exact ⟨hc3.1,(set_or hall hpk hc3.1).1 hc3.2⟩)]
        exact EX.fin id (.inl rfl) rfl (.tmp rfl .nil) rfl (by simp [SV.res,El.res,At.res,keys]) trivial (by simp) (by simp)
      · try simp only [cnd] at hc3
        refine WP.skip (EX.blk (EX.then (WP.region ?_)))
        refine WPl.v rfl (o_add rfl rfl (by first | omega | (simp; omega)) (by first | omega | (simp; omega))) ?_
        refine WPl.v rfl (o_move rfl) ?_
        refine WPl.nil ?_
        refine EX.again (i + 1) id (by exact ⟨by omega,by simp only [allI,hall,Bool.true_and]; unfold setAt; rw [hpk,Bool.true_and]; simp only [Bool.not_eq_true',Bool.and_eq_false_iff,decide_eq_false_iff_not]; exact Classical.or_iff_not_imp_left.2 fun h0 => by rw [← set_or hall hpk (Classical.not_not.1 h0)]; exact hc3.resolve_left h0⟩) (by omega) (LeR.of ⟨rfl,rfl,rfl,rfl,rfl,trivial⟩ ⟨(lx rfl),trivial⟩ trivial rfl rfl rfl rfl rfl)
  · try simp only [cnd] at hc1
    refine WP.exit (EX.exit_then (EX.exit_then (EX.exit_blk (EX.then (WP.seq (WP.region ?_))))))
    refine WPl.v rfl (o_assign rfl) ?_
    refine WPl.nil (EX.then (WP.ret ?_))
    have he : i = l.length := by omega
    subst he
    rw [show isSet l = true from hall]
    exact EX.fin id (.inl rfl) rfl (.tmp rfl .nil) rfl (by simp [SV.res,El.res,At.res,keys]) trivial (by simp) (by simp)
theorem w34 {h : Hall} {v : Bool} : ∀ x ∈ ([.e (.g [.q 0,.q 1,.q 2,ai (h.change),.q 3,.q 4]),.b (v)] : List SV),x.res (keys (α := Pred) [(0,PL ETm (h.machs)),(1,PL EBd (h.buns)),(2,PL EP.int (h.trains)),(3,PL EP.int (h.bores)),(4,PL (EP.sl EP.int) (h.eds))]) := by simp [SV.res,El.res,At.res,keys]
theorem r34 {h : Hall} : SV.res (keys (α := Pred) [(0,PL ETm (h.machs)),(1,PL EBd (h.buns)),(2,PL EP.int (h.trains)),(3,PL EP.int (h.bores)),(4,PL (EP.sl EP.int) (h.eds))]) (.t [.g [.q 0,.q 1,.q 2,ai (h.change),.q 3,.q 4],.a (ai (0))]) := by simp [SV.res,El.res,At.res,keys]
set_option maxHeartbeats 4000000 in
theorem c34 (h : Hall) (v : Bool) (hm : h.Small) (hc : h.chk = true) (hv : v = true) : Sig Try.prog 34 [.e (.g [.q 0,.q 1,.q 2,ai (h.change),.q 3,.q 4]),.b (v)] [(0,PL ETm (h.machs)),(1,PL EBd (h.buns)),(2,PL EP.int (h.trains)),(3,PL EP.int (h.bores)),(4,PL (EP.sl EP.int) (h.eds))] (.t [.g [.q 0,.q 1,.q 2,ai (h.change),.q 3,.q 4],.a (ai (0))]) [(0,PL ETm (h.machs)),(1,PL EBd (h.buns)),(2,PL EP.int (h.trains)),(3,PL EP.int (h.bores)),(4,PL (EP.sl EP.int) (h.eds))] := by
  refine Sig.intro Try.func34 rfl 5 [(0,.e (.g [.q 0,.q 1,.q 2,ai (h.change),.q 3,.q 4])),(1,.b (v))] rfl w34 rfl rfl fun I w => ?_
  refine WP.seq (WP.region ?_)
  refine WPl.l 5 6 rfl rfl rfl (o_boxg rfl) ?_
  refine WPl.l 6 7 rfl rfl rfl (o_alloc Z75) ?_
  refine WPl.v rfl (o_assign rfl) ?_
  refine WPl.nil (EX.then (WP.seq (WP.seq (WP.region ?_))))
  refine WPl.v rfl (o_ldpa G29 rfl rfl rfl) ?_
  refine WPl.cs 7 rfl rfl rfl rfl (o_sig 7 (ren [(0,0),(1,1),(2,2),(3,3),(4,4)]) (c65 h hm) e65 rfl rfl rfl w65 ⟨(lx rfl),(lx rfl),(lx rfl),(lx rfl),(lx rfl),trivial⟩ r65) ?_
  refine WPl.v rfl (o_assign rfl) ?_
  refine WPl.nil (EX.then (WP.seq (WP.region ?_)))
  refine WPl.v rfl (o_move rfl) ?_
  refine WPl.v rfl (o_neq rfl rfl) ?_
  refine WPl.nil (EX.then ?_)
  refine WP.cond rfl (fun hc1 => ?_) (fun hc1 => ?_)
  · try simp only [cnd] at hc1
    simp [errL,hc] at hc1
  · try simp only [cnd] at hc1
    refine WP.skip (EX.then (WP.seq (WP.seq (WP.region ?_))))
    refine WPl.v rfl (o_move rfl) ?_
    refine WPl.v rfl (o_not rfl) ?_
    refine WPl.nil (EX.then ?_)
    refine WP.cond rfl (fun hc2 => ?_) (fun hc2 => ?_)
    · try simp only [cnd] at hc2
      simp [hv] at hc2
    · try simp only [cnd] at hc2
      refine WP.skip (EX.then (WP.seq (WP.region ?_)))
      refine WPl.v rfl (o_ldpa G29 rfl rfl rfl) ?_
      refine WPl.v rfl (o_build B75 rfl trivial rfl rfl) ?_
      refine WPl.s1 (o_stag G75 rfl rfl rfl ⟨(.inl ⟨_,(lx rfl),PL.one⟩),(.inl ⟨_,(lx rfl),PL.one⟩),(.inl ⟨_,(lx rfl),PL.one⟩),rfl,(.inl ⟨_,(lx rfl),PL.one⟩),(.inl ⟨_,(lx rfl),PL.one⟩),trivial⟩ rfl rfl) ?_
      refine WPl.v rfl (o_assign rfl) ?_
      refine WPl.nil (EX.then (WP.ret ?_))
      exact EX.fin (ren [(0,0),(1,1),(2,2),(3,3),(4,4)]) (.inl rfl) rfl (.cellg G75 rfl rfl rfl (.tmp rfl .nil)) rfl r34 ⟨(lx rfl),(lx rfl),(lx rfl),(lx rfl),(lx rfl),trivial⟩ (by simp) (by simp)
theorem w40 {l : List Plate} : ∀ x ∈ ([.e (.a (.q 0))] : List SV),x.res (keys (α := Pred) [(0,PL EPl (l))]) := by simp [SV.res,El.res,At.res,keys]
theorem r40 {l : List Plate} : SV.res (keys (α := Pred) []) (.e (.g [ai (nth (shelf l) 0),ai (nth (shelf l) 1),ai (nth (shelf l) 2),ai (nth (shelf l) 3),ai (nth (shelf l) 4),ai (nth (shelf l) 5),ai (nth (shelf l) 6),ai (nth (shelf l) 7),ai (nth (shelf l) 8),ai (nth (shelf l) 9),ai (nth (shelf l) 10),ai (nth (shelf l) 11)])) := by simp [SV.res,El.res,At.res,keys]
set_option maxHeartbeats 4000000 in
theorem c40 (l : List Plate) (hl : l.length ≤ 1000) (hs : isSet l = true) : Sig Try.prog 40 [.e (.a (.q 0))] [(0,PL EPl (l))] (.e (.g [ai (nth (shelf l) 0),ai (nth (shelf l) 1),ai (nth (shelf l) 2),ai (nth (shelf l) 3),ai (nth (shelf l) 4),ai (nth (shelf l) 5),ai (nth (shelf l) 6),ai (nth (shelf l) 7),ai (nth (shelf l) 8),ai (nth (shelf l) 9),ai (nth (shelf l) 10),ai (nth (shelf l) 11)])) [] := by
  refine Sig.intro Try.func40 rfl 1 [(0,.e (.a (.q 0)))] rfl w40 rfl rfl fun I w => ?_
  refine WP.seq (WP.region ?_)
  refine WPl.l 1 2 rfl rfl rfl (o_alloc Z81) ?_
  refine WPl.nil (EX.then (WP.seq (WP.seq (WP.region ?_))))
  refine WPl.v rfl (o_move rfl) ?_
  refine WPl.v rfl (o_lenq L44 rfl (lx rfl)) ?_
  refine WPl.v rfl (o_move rfl) ?_
  refine WPl.nil (EX.then (WP.block ?_))
  refine WP.loop (Gh := Nat) (fun i => ⟨2,[(2,.e (.a (.p 1 (0)))),(5,.e (.a (.q 0))),(6,.i ((l.length : Int))),(7,.i ((i : Int)))],[(0,PL EPl (l))],[(1,.blk [ai (nth (shelfTo l i) 0),ai (nth (shelfTo l i) 1),ai (nth (shelfTo l i) 2),ai (nth (shelfTo l i) 3),ai (nth (shelfTo l i) 4),ai (nth (shelfTo l i) 5),ai (nth (shelfTo l i) 6),ai (nth (shelfTo l i) 7),ai (nth (shelfTo l i) 8),ai (nth (shelfTo l i) 9),ai (nth (shelfTo l i) 10),ai (nth (shelfTo l i) 11)] 81)],[],[]⟩) (fun i => i ≤ l.length) (fun i => l.length - i) (0) id ?_ (LeR.of ⟨rfl,rfl,rfl,rfl,trivial⟩ ⟨(lx rfl),trivial⟩ ⟨rfl,trivial⟩ rfl rfl rfl rfl rfl) ?_
  · first | trivial | omega | (constructor <;> omega) | simp
  intro i hφ
  have hi : i ≤ l.length := hφ
  refine WP.seq (WP.region ?_)
  refine WPl.v rfl (o_lss rfl rfl) ?_
  refine WPl.nil (EX.then (WP.seq ?_))
  refine WP.cond rfl (fun hc1 => ?_) (fun hc1 => ?_)
  · try simp only [cnd] at hc1
    have hpb := isSetB hs (show i < l.length by omega)
    refine WP.skip (EX.then (WP.seq (WP.block (WP.seq (WP.region ?_)))))
    refine WPl.x 2 3 rfl rfl rfl (o_idx L44 rfl (lx rfl) rfl (by first | omega | (simp; omega)) (by first | omega | (simp; omega))) ?_
    refine WPl.v rfl (o_ldqg G66 rfl (lx rfl) (strG rfl) rfl rfl) ?_
    refine WPl.l 3 4 rfl rfl rfl (o_alloc Z66) ?_
    refine WPl.s1 (o_stag G66 rfl rfl rfl ⟨rfl,rfl,rfl,trivial⟩ rfl rfl) ?_
    refine WPl.nil (EX.then ?_)
    refine WP.draw (nf := 4) [⟨[13,14,15,16],[],[],[],[]⟩,⟨[13,14,15,16],[],[],[],[0]⟩,⟨[11,12,15,16,17],[],[],[],[]⟩,⟨[11,12,15,16,17],[],[],[],[2]⟩,⟨[11,12,13,14,17],[],[],[],[]⟩,⟨[11,12,13,14,17],[],[],[],[4]⟩,⟨[13,14,15,16],[],[],[],[0,1]⟩,⟨[],[],[],[],[0,1,2,3,4,5,6]⟩,⟨[],[],[],[1],[0,1,2,3,4,5,6,7]⟩] (by kernel_rfl) (by kernel_rfl) ?_
    refine DRQ.v rfl rfl rfl (o_fldp F66_0 rfl) ?_
    refine DRQ.v rfl rfl rfl (o_ldp S3 rfl rfl rfl) ?_
    refine DRQ.v rfl rfl rfl (o_fldp F66_1 rfl) ?_
    refine DRQ.v rfl rfl rfl (o_ldp S3 rfl rfl rfl) ?_
    refine DRQ.v rfl rfl rfl (o_fldp F66_2 rfl) ?_
    refine DRQ.v rfl rfl rfl (o_ldp S3 rfl rfl rfl) ?_
    refine DRQ.v rfl rfl rfl (o_idxpr A81 rfl rfl (by first | omega | (simp; omega)) (by first | omega | (simp; omega))) ?_
    refine DRQ.v rfl rfl rfl (o_idxpc (((nth l (i : Int)).page) * 3 + ((nth l (i : Int)).bore)) A79 rfl rfl (by first | omega | (simp; omega)) (by first | omega | (simp; omega)) (by omega)) ?_
    refine DRQ.s 1 rfl rfl rfl (o_stpn (n := 12) (l := shelfTo l i) (cs' := [ai (nth (lset (shelfTo l i) (((nth l (i : Int)).page) * 3 + ((nth l (i : Int)).bore)) ((nth l (i : Int)).many)) 0),ai (nth (lset (shelfTo l i) (((nth l (i : Int)).page) * 3 + ((nth l (i : Int)).bore)) ((nth l (i : Int)).many)) 1),ai (nth (lset (shelfTo l i) (((nth l (i : Int)).page) * 3 + ((nth l (i : Int)).bore)) ((nth l (i : Int)).many)) 2),ai (nth (lset (shelfTo l i) (((nth l (i : Int)).page) * 3 + ((nth l (i : Int)).bore)) ((nth l (i : Int)).many)) 3),ai (nth (lset (shelfTo l i) (((nth l (i : Int)).page) * 3 + ((nth l (i : Int)).bore)) ((nth l (i : Int)).many)) 4),ai (nth (lset (shelfTo l i) (((nth l (i : Int)).page) * 3 + ((nth l (i : Int)).bore)) ((nth l (i : Int)).many)) 5),ai (nth (lset (shelfTo l i) (((nth l (i : Int)).page) * 3 + ((nth l (i : Int)).bore)) ((nth l (i : Int)).many)) 6),ai (nth (lset (shelfTo l i) (((nth l (i : Int)).page) * 3 + ((nth l (i : Int)).bore)) ((nth l (i : Int)).many)) 7),ai (nth (lset (shelfTo l i) (((nth l (i : Int)).page) * 3 + ((nth l (i : Int)).bore)) ((nth l (i : Int)).many)) 8),ai (nth (lset (shelfTo l i) (((nth l (i : Int)).page) * 3 + ((nth l (i : Int)).bore)) ((nth l (i : Int)).many)) 9),ai (nth (lset (shelfTo l i) (((nth l (i : Int)).page) * 3 + ((nth l (i : Int)).bore)) ((nth l (i : Int)).many)) 10),ai (nth (lset (shelfTo l i) (((nth l (i : Int)).page) * 3 + ((nth l (i : Int)).bore)) ((nth l (i : Int)).many)) 11)]) S3 rfl rfl rfl rfl rfl (by rw [shelfTo_len]) (by omega) (by omega)) ?_
    refine DRQ.nil' ?_
    refine EX.blk (EX.then (WP.region ?_))
    refine WPl.v rfl (o_add rfl rfl (by first | omega | (simp; omega)) (by first | omega | (simp; omega))) ?_
    refine WPl.v rfl (o_move rfl) ?_
    refine WPl.nil ?_
    refine EX.again (i + 1) id (by first | omega | (constructor <;> omega)) (by omega) (LeR.of ⟨rfl,rfl,rfl,rfl,trivial⟩ ⟨(lx rfl),trivial⟩ ⟨rfl,trivial⟩ rfl rfl rfl rfl rfl)
  · try simp only [cnd] at hc1
    refine WP.exit (EX.exit_then (EX.exit_then (EX.exit_blk (EX.then (WP.seq (WP.region ?_))))))
    refine WPl.v rfl (o_ldpa G81 rfl rfl rfl) ?_
    refine WPl.s1 (o_stag G81 rfl rfl rfl ⟨rfl,rfl,rfl,rfl,rfl,rfl,rfl,rfl,rfl,rfl,rfl,rfl,trivial⟩ rfl rfl) ?_
    refine WPl.nil (EX.then (WP.ret ?_))
    have hie : i = l.length := by omega
    subst hie
    rw [show shelf l = shelfTo l l.length from rfl]
    exact EX.fin id (.inl rfl) rfl (.cellg G81 rfl rfl rfl (.nil)) rfl (by simp [SV.res,El.res,At.res,keys]) trivial (by simp) (by simp)
theorem w88 {s : Nat} : ∀ x ∈ ([.e (.a (.v (.int .u64 (s : Int))))] : List SV),x.res (keys (α := Pred) []) := by simp [SV.res,El.res,At.res,keys]
theorem r88 {s : Nat} : SV.res (keys (α := Pred) []) (.i ((popc s : Int))) := by simp [SV.res,El.res,At.res,keys]
set_option maxHeartbeats 4000000 in
theorem c88 (s : Nat) (h : s < 256) : Sig Try.prog 88 [.e (.a (.v (.int .u64 (s : Int))))] [] (.i ((popc s : Int))) [] := by
  refine Sig.intro Try.func88 rfl 0 [(0,.e (.a (.v (.int .u64 (s : Int)))))] rfl w88 rfl rfl fun I w => ?_
  refine WP.seq (WP.region ?_)
  refine WPl.v rfl (o_assign rfl) ?_
  refine WPl.nil (EX.then (WP.seq (WP.region ?_)))
  refine WPl.v rfl (o_move rfl) ?_
  refine WPl.v rfl (o_ush rfl rfl (by first | omega | (simp; omega)) (by simp)) ?_
  refine WPl.v rfl (o_ua rfl rfl (by simp)) ?_
  refine WPl.v rfl (o_move rfl) ?_
  refine WPl.v rfl (o_ua rfl rfl (by simp)) ?_
  refine WPl.v rfl (o_ua rfl rfl (by simp)) ?_
  refine WPl.v rfl (o_assign rfl) ?_
  refine WPl.nil (EX.then (WP.seq (WP.region ?_)))
  refine WPl.v rfl (o_move rfl) ?_
  refine WPl.v rfl (o_ush rfl rfl (by first | omega | (simp; omega)) (by simp)) ?_
  refine WPl.v rfl (o_ua rfl rfl (by simp)) ?_
  refine WPl.v rfl (o_move rfl) ?_
  refine WPl.v rfl (o_ua rfl rfl (by simp)) ?_
  refine WPl.v rfl (o_ua rfl rfl (by simp)) ?_
  refine WPl.v rfl (o_assign rfl) ?_
  refine WPl.nil (EX.then (WP.seq (WP.region ?_)))
  refine WPl.v rfl (o_move rfl) ?_
  refine WPl.v rfl (o_ush rfl rfl (by first | omega | (simp; omega)) (by simp)) ?_
  refine WPl.v rfl (o_move rfl) ?_
  refine WPl.v rfl (o_ua rfl rfl (by simp)) ?_
  refine WPl.v rfl (o_ua rfl rfl (by simp)) ?_
  refine WPl.v rfl (o_assign rfl) ?_
  refine WPl.nil (EX.then (WP.seq (WP.region ?_)))
  refine WPl.v rfl (o_move rfl) ?_
  refine WPl.v rfl (o_move rfl) ?_
  refine WPl.v rfl (o_ush rfl rfl (by first | omega | (simp; omega)) (by simp)) ?_
  refine WPl.v rfl (o_ua rfl rfl (by simp)) ?_
  refine WPl.v rfl (o_assign rfl) ?_
  refine WPl.nil (EX.then (WP.seq (WP.region ?_)))
  refine WPl.v rfl (o_move rfl) ?_
  refine WPl.v rfl (o_move rfl) ?_
  refine WPl.v rfl (o_ush rfl rfl (by first | omega | (simp; omega)) (by simp)) ?_
  refine WPl.v rfl (o_ua rfl rfl (by simp)) ?_
  refine WPl.v rfl (o_assign rfl) ?_
  refine WPl.nil (EX.then (WP.seq (WP.region ?_)))
  refine WPl.v rfl (o_move rfl) ?_
  refine WPl.v rfl (o_move rfl) ?_
  refine WPl.v rfl (o_ush rfl rfl (by first | omega | (simp; omega)) (by simp)) ?_
  refine WPl.v rfl (o_ua rfl rfl (by simp)) ?_
  refine WPl.v rfl (o_assign rfl) ?_
  refine WPl.nil (EX.then (WP.seq (WP.region ?_)))
  refine WPl.v rfl (o_move rfl) ?_
  refine WPl.v rfl (o_convv (r := (popc s : Int)) Try.underlying133 Try.underlying3 rfl (by show IntKind.i64.wrap (o6 (o5 (o4 (o3 (o2 (o1 (s : Int))))))) = _; rw [(oc_ok h).1]; exact (popc_and (oc_ok h).2).2)) ?_
  refine WPl.v rfl (o_iand rfl rfl (popc_and (oc_ok h).2).1) ?_
  refine WPl.v rfl (o_assign rfl) ?_
  refine WPl.nil (EX.then (WP.ret ?_))
  exact EX.fin id (.inl rfl) rfl (.tmp rfl .nil) rfl r88 trivial (by simp) (by simp)
theorem w63 {s : Nat} : ∀ x ∈ ([.e (.a (.v (.int .u64 (s : Int))))] : List SV),x.res (keys (α := Pred) []) := by simp [SV.res,El.res,At.res,keys]
theorem r63 {s : Nat} : SV.res (keys (α := Pred) []) (.i ((popc s : Int))) := by simp [SV.res,El.res,At.res,keys]
set_option maxHeartbeats 4000000 in
theorem c63 (s : Nat) (h : s < 256) : Sig Try.prog 63 [.e (.a (.v (.int .u64 (s : Int))))] [] (.i ((popc s : Int))) [] := by
  refine Sig.intro Try.func63 rfl 0 [(0,.e (.a (.v (.int .u64 (s : Int)))))] rfl w63 rfl rfl fun I w => ?_
  refine WP.seq (WP.region ?_)
  refine WPl.v rfl (o_assign rfl) ?_
  refine WPl.nil (EX.then (WP.seq ?_))
  refine WP.cond rfl (fun h => by cases h) (fun _ => ?_)
  refine WP.skip (EX.then (WP.seq (WP.region ?_)))
  refine WPl.v rfl (o_move rfl) ?_
  refine WPl.cs 0 rfl rfl rfl rfl (o_sig 0 id (c88 s h) e88 rfl rfl rfl w88 trivial r88) ?_
  refine WPl.v rfl (o_assign rfl) ?_
  refine WPl.nil (EX.then (WP.ret ?_))
  exact EX.fin id (.inl rfl) rfl (.tmp rfl .nil) rfl r63 trivial (by simp) (by simp)
end Go.Flong
